import Derived.Test.YtnleldogmogkgaaW17
/-! A store that no call made. -/
namespace Go.Proofs.Ytnleldogmogkgaa
open Go.RowKit Go.Op

theorem blk_new2 (w : World) (o : Obj) (cs : Array Value) (e : TypeId) : Blk ((w.alloc o).alloc (.cells cs e)) (w.heap.size + 1) cs e := by
  have := Blk.new (w.alloc o) cs e
  rw [World.size_alloc] at this; exact this
def NoS (w : World) (o : Option Addr) : Prop := o = none ∨ ∃ b, o = some ⟨b, 0, none⟩ ∧ Blk w b #[.map none, .slice none 0 0, .int .i64 0, .int .i64 0] 57
theorem NoS.below {w w' : World} {o : Option Addr} (h : NoS w o) (hb : Below w.heap.size w w') : NoS w' o := by
  rcases h with rfl | ⟨b, rfl, h⟩
  · exact .inl rfl
  · exact .inr ⟨b, rfl, h.below hb h.lt⟩
theorem nomade_calls (o : Option Addr) (w : World) (h : NoS w o) : Calls Try.prog 30 #[.pointer o] w fun e w' => e = .returned (.bool false) ∧ w = w' := by
  rcases h with rfl | ⟨b, rfl, h⟩
  · go_enter Try.func30, Try.ntmps30
    go_wp2
    go_ret
    exact ⟨rfl, rfl⟩
  · have hc : w.cell? ⟨b, 0, none⟩ = some (.map none) := h.cell 0
    clear h
    have hx : ∀ W, (binOp .neq 55 (.map none) (.map none)).run Try.prog W = .ok (.bool false) W := fun _ => by kernel_rfl
    go_enter Try.func30, Try.ntmps30
    go_wp2
    go_ret
    exact ⟨rfl, rfl⟩
theorem nomay_calls (o : Option Addr) (n : Int) (w : World) (h : NoS w o) : Calls Try.prog 34 #[.pointer o, .int .i64 n] w fun e w' => e = .returned (.int .i64 1) ∧ w = w' := by
  have HM := Lib.hid (nomade_calls o w h)
  clear h
  go_enter Try.func34, Try.ntmps34
  go_wp2_with fail
  refine HM.out.mono ?_
  rintro e w' ⟨rfl, rfl⟩
  go_wp2
  go_ret
  exact ⟨rfl, rfl⟩
theorem noget_calls (o : Option Addr) (k : ByteArray) (n : Int) (w : World) (h : NoS w o) : Calls Try.prog 16 #[.pointer o, .string k, .int .i64 n] w fun e w' => e = .returned (.tuple #[.string ⟨#[]⟩, .int .i64 1]) ∧ Below w.heap.size w w' := by
  have HM := Lib.hid (nomay_calls o n w h)
  clear h
  go_enter Try.func16, Try.ntmps16
  go_wp2_with fail
  refine HM.out.mono ?_
  rintro e w' ⟨rfl, rfl⟩
  go_wp2
  exact bodyPost_ret (v := .tuple #[.string ⟨#[]⟩, .int .i64 1]) (by simp [results, Try.results16, go_sem]) rfl ⟨rfl, Below.refl _ _⟩
theorem noscan_calls (o : Option Addr) (x y : ByteArray) (n m : Int) (w : World) (h : NoS w o) : Calls Try.prog 15 #[.pointer o, .string x, .string y, .int .i64 n, .int .i64 m] w fun e w' => e = .returned (.tuple #[.slice none 0 0, .int .i64 1]) ∧ Below w.heap.size w w' := by
  have hb := ((Below.refl w.heap.size w).alloc (Nat.le_refl _) (.cells #[.int .i64 n] 3)).alloc (by simp) (.cells #[.int .i64 m] 3)
  have HM := Lib.hid (nomay_calls o n _ (h.below hb))
  have HB := Lib.hid hb
  clear h hb
  go_enter Try.func15, Try.ntmps15
  go_wp2_with fail
  refine HM.out.mono ?_
  rintro e w' ⟨rfl, rfl⟩
  go_wp2
  exact bodyPost_ret (v := .tuple #[.slice none 0 0, .int .i64 1]) (by simp [results, Try.results15, go_sem]) rfl ⟨rfl, HB.out⟩
theorem noinstall_calls (o : Option Addr) (n : Int) (A : Option Addr) (k c : Nat) (w : World) (h : NoS w o) : Calls Try.prog 13 #[.pointer o, .int .i64 n, .slice A k c] w fun e w' => e = .returned (.int .i64 1) ∧ Below w.heap.size w w' := by
  have HM := Lib.hid (nomade_calls o w h)
  clear h
  go_enter Try.func13, Try.ntmps13
  go_wp2_with fail
  refine HM.out.mono ?_
  rintro e w' ⟨rfl, rfl⟩
  go_wp2
  go_ret
  exact ⟨rfl, Below.refl _ _⟩
theorem nocoll_calls (o : Option Addr) (n : Int) (w : World) (h : NoS w o) : Calls Try.prog 22 #[.pointer o, .int .i64 n] w fun e w' => e = .returned (.int .i64 1) ∧ Below w.heap.size w w' := by
  have hb := (Below.refl w.heap.size w).alloc (Nat.le_refl _) (.cells #[.pointer o] 26)
  have HM := Lib.hid (nomade_calls o _ (h.below hb))
  have HB := Lib.hid hb
  clear h hb
  go_enter Try.func22, Try.ntmps22
  go_wp2_with fail
  refine HM.out.mono ?_
  rintro e w' ⟨rfl, rfl⟩
  go_wp2
  go_ret
  exact ⟨rfl, HB.out⟩
theorem nolast_calls (o : Option Addr) (w : World) (h : NoS w o) : Calls Try.prog 14 #[.pointer o] w fun e w' => e = .returned (.int .i64 0) ∧ w = w' := by
  have HM := Lib.hid (nomade_calls o w h)
  clear h
  go_enter Try.func14, Try.ntmps14
  go_wp2_with fail
  refine HM.out.mono ?_
  rintro e w' ⟨rfl, rfl⟩
  go_wp2
  go_ret
  exact ⟨rfl, rfl⟩
theorem nofloor_calls (o : Option Addr) (w : World) (h : NoS w o) : Calls Try.prog 20 #[.pointer o] w fun e w' => e = .returned (.int .i64 0) ∧ w = w' := by
  have HM := Lib.hid (nomade_calls o w h)
  clear h
  go_enter Try.func20, Try.ntmps20
  go_wp2_with fail
  refine HM.out.mono ?_
  rintro e w' ⟨rfl, rfl⟩
  go_wp2
  go_ret
  exact ⟨rfl, rfl⟩
theorem novers_calls (o : Option Addr) (w : World) (h : NoS w o) : Calls Try.prog 25 #[.pointer o] w fun e w' => e = .returned (.int .i64 0) ∧ w = w' := by
  have HM := Lib.hid (nomade_calls o w h)
  clear h
  go_enter Try.func25, Try.ntmps25
  go_wp2_with fail
  refine HM.out.mono ?_
  rintro e w' ⟨rfl, rfl⟩
  go_wp2
  go_ret
  exact ⟨rfl, rfl⟩
theorem nowrote_calls (o : Option Addr) (k : ByteArray) (n : Int) (w : World) (h : NoS w o) : Calls Try.prog 18 #[.pointer o, .string k, .int .i64 n] w fun e w' => e = .returned (.bool false) ∧ w = w' := by
  have HM := Lib.hid (nomade_calls o w h)
  clear h
  go_enter Try.func18, Try.ntmps18
  go_wp2_with fail
  refine HM.out.mono ?_
  rintro e w' ⟨rfl, rfl⟩
  go_wp2
  go_ret
  exact ⟨rfl, rfl⟩
theorem nowithin_calls (o : Option Addr) (x y : ByteArray) (n : Int) (w : World) (h : NoS w o) : Calls Try.prog 19 #[.pointer o, .string x, .string y, .int .i64 n] w fun e w' => e = .returned (.bool false) ∧ Below w.heap.size w w' := by
  have hb := ((Below.refl w.heap.size w).alloc (Nat.le_refl _) (.cells #[.int .i64 n] 3)).alloc (by simp) (.cells #[.bool false] 4)
  have HM := Lib.hid (nomade_calls o _ (h.below hb))
  have HB := Lib.hid hb
  clear h hb
  go_enter Try.func19, Try.ntmps19
  go_wp2_with fail
  refine HM.out.mono ?_
  rintro e w' ⟨rfl, rfl⟩
  go_wp2
  exact bodyPost_ret (v := .bool false) (by simp [results, Try.results19, go_sem]) rfl ⟨rfl, HB.out⟩
theorem nocopy_calls (o : Option Addr) (w : World) (h : NoS w o) : Calls Try.prog 24 #[.pointer o] w fun e w' => e = .returned (.pointer none) ∧ w = w' := by
  have HM := Lib.hid (nomade_calls o w h)
  clear h
  go_enter Try.func24, Try.ntmps24
  go_wp2_with fail
  refine HM.out.mono ?_
  rintro e w' ⟨rfl, rfl⟩
  go_wp2
  go_ret
  exact ⟨rfl, rfl⟩
end Go.Proofs.Ytnleldogmogkgaa
