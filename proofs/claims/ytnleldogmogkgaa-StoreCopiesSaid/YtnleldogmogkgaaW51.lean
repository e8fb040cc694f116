import Derived.Test.YtnleldogmogkgaaW47
import Derived.Test.YtnleldogmogkgaaShelf
/-! A copy of a store. -/
namespace Go.Proofs.Ytnleldogmogkgaa
open Go.RowKit Go.Op Go.Shelf

theorem str_flat {w w' : World} {ok ok' : Nat → Prop} : ∀ {l : List ByteArray} {cs : List Value}, Cells Ty.str w ok l cs → Cells Ty.str w' ok' l cs
  | [], _, h => h
  | _ :: _, _, ⟨c, d, e, hk, hd⟩ => ⟨c, d, e, hk, str_flat hd⟩
theorem Sl.xstr {w : World} {ok ok' : Nat → Prop} {v : Value} {l : List ByteArray} (h : Sl Ty.str w ok v l) : SlX Ty.str w ok' v l := by
  obtain ⟨A, cap, cs, e, h1, h2, h3, h4⟩ := h
  exact ⟨A, cap, cs, e, h1, h2, str_flat h3, h4.mono fun _ _ => trivial⟩
theorem info9' : (Try.prog.info? 9).map (fun i => (i.zero, i.size, i.bytes)) = some (some (.string ⟨#[]⟩), 1, 16) := by kernel_rfl
theorem sclone_calls (l : List ByteArray) (A : Option Addr) (n cap : Nat) (w : World) (hl : Sl Ty.str w (fun _ => True) (.slice A n cap) l) (hn : n ≤ 1000000) :
    Calls Try.prog 47 #[.slice A n cap] w fun e w' => ∃ v, e = .returned v ∧ Own Ty.str w' w.heap.size 9 none_ v l ∧ Below w.heap.size w w' := by
  obtain ⟨hln, hcap, hm⟩ := hl.length
  cases A with
  | none =>
    have hc0 : cap = 0 := by obtain ⟨A', cap', cs, e, h1, h2, _⟩ := hl; injection e with e1 e2 e3; rw [e3]; exact h2.2 e1.symm
    subst hc0
    obtain rfl : n = 0 := by omega
    obtain rfl := List.eq_nil_of_length_eq_zero hln
    have hne := fun W : World => Lib.run_eql_slice_nil (P := Try.prog) W 30 9 none 0 0 0 0 Try.underlying30
    go_enter Try.func47, Try.ntmps47
    go_wp2
    go_ret
    exact ⟨_, rfl, Own.nil _ _ _ _ _, Below.refl _ _⟩
  | some ad =>
    have H := Lib.hid hl
    clear hl
    have hne := fun W : World => Lib.run_eql_slice_nil (P := Try.prog) W 30 9 (some ad) n cap 0 0 Try.underlying30
    go_enter Try.func47, Try.ntmps47
    have hsrc : SlX Ty.str (w.alloc (.cells #[] 9)) (fun b => none_ b ∧ (Value.slice (some ⟨w.heap.size, 0, none⟩) 0 0).ownBlock ≠ some b) (.slice (some ad) n cap) l := Sl.xstr (H.out.below ((Below.refl _ _).alloc (Nat.le_refl _) _))
    have HS := Lib.hid hsrc
    clear hsrc
    go_wp2_with (at_builtin; go_loud (refine wpList_appSl (t := Ty.str) (ok := none_) (l := []) (m := l) (w0 := w) w.heap.size rfl _ _ 30 9 _ 16 rfl Try.underlying30 info9' rfl (by decide) (by decide) rfl rfl (Own.empty Ty.str w 9 _ (Nat.le_refl _)) HS.out ((Below.refl _ _).alloc (Nat.le_refl _) _) (by simp) (by simp; omega) ?_; intro v1 w1 hO hB1 _ _))
    go_ret
    exact ⟨_, rfl, hO, hB1⟩

theorem mclone_calls (mb : Nat) (V : List (ByteArray × Value)) (w : World) (hV : Mp KS w mb V) :
    Calls Try.prog 46 #[.map (some mb)] w fun e w' => e = .returned (.map (some w.heap.size)) ∧ Mp KS w' w.heap.size V ∧ Below w.heap.size w w' := by
  obtain ⟨D, h1, h2⟩ := hV
  exact (AnyW.maps_Clone_owns mcln 9 held mb V.length D w h1).mono fun _ _ ⟨e1, k1, _, k3⟩ => ⟨e1, ⟨D, k1, h2⟩, k3⟩

theorem own_lo2 {α : Type} {t : Ty α} {w : World} {base base' : Nat} {e : TypeId} {ok : Nat → Prop} {v : Value} {l : List α} (h : Own t w base e ok v l) (hb : base' ≤ base) : Own t w base' e ok v l := by
  obtain ⟨cs, ⟨e1, hr⟩, h2⟩ := h
  refine ⟨cs, ⟨e1, ?_⟩, h2⟩
  rcases hr with hr | ⟨g, cap, cur, e2, h3, h4⟩
  · exact .inl hr
  · exact .inr ⟨g, cap, cur, e2, Nat.le_trans hb h3, h4⟩
theorem copy_done {w wM wK : World} {pb mb mc : Nat} {kv kc : Value} {X : List Nat} {S : Sto} {V : List (ByteArray × Value)} (h : Stm w pb mb kv X S) (hC : Ch w X V S.ents) (b1 : Below w.heap.size w wM) (hz : w.heap.size ≤ mc) (hM : Mp KS wM mc V) (b2 : Below wM.heap.size wM wK) (hO : Own Ty.str wK wM.heap.size 9 none_ kc (S.ents.map (·.key))) :
    Stm (wK.alloc (.cells #[.map (some mc), kc, .int .i64 S.last, .int .i64 S.floor] 57)) wK.heap.size mc kc (wK.heap.size :: mc :: (kc.ownBlock.toList ++ X)) S := by
  have hb : Below w.heap.size w wK := b1.trans (b2.mono b1.size)
  have b3 : Below wK.heap.size wK (wK.alloc (.cells #[.map (some mc), kc, .int .i64 S.last, .int .i64 S.floor] 57)) := (Below.refl _ _).alloc (Nat.le_refl _) _
  have hml := hM.lt
  have h1 := b1.size
  have h2 := b2.size
  have hlo : ∀ b, kc.ownBlock = some b → wM.heap.size ≤ b ∧ b < wK.heap.size := fun b e => hO.lo e
  refine ⟨Blk.new _ _ _, own_lo2 (hO.below b3) (Nat.zero_le _), ⟨V, (hM.below b2).below b3, (hC.more fun b hb hn hm => ?_).step fun b hbl _ => (b3.block b (by omega)).trans (hb.block b hbl)⟩, h.ok, h.few, h.last, by simp, by simp, fun b e => by simp [e], fun b hm => ?_, fun e => ?_, fun e => ?_⟩
  · simp only [List.mem_cons, List.mem_append, Option.mem_toList] at hm
    rcases hm with rfl | rfl | hm | hm
    · omega
    · omega
    · have := (hlo b hm).1; omega
    · exact hn hm
  · rw [World.size_alloc]
    simp only [List.mem_cons, List.mem_append, Option.mem_toList] at hm
    rcases hm with rfl | rfl | hm | hm
    · omega
    · omega
    · have := (hlo b hm).2; omega
    · have := h.lt b hm; omega
  · have := (hlo _ e).2; omega
  · have := (hlo _ e).1; omega
theorem via5 {α β γ δ ε : Type} {Goal : Prop} (H : α → β → γ → δ → ε → Prop) {G : α → β → γ → δ → ε → Prop} (main : Hid (∀ a b c d e, H a b c d e → G a b c d e) → Goal) (key : ∀ a b c d e, H a b c d e → G a b c d e) : Goal := main key

set_option maxHeartbeats 4000000 in
set_option maxRecDepth 100000 in
theorem scopy_calls (pb mb : Nat) (kv : Value) (X : List Nat) (S : Sto) (w : World) (h : Stm w pb mb kv X S) :
    Calls Try.prog 24 #[.pointer (some ⟨pb, 0, none⟩)] w fun e w' => ∃ pc mc kc, e = .returned (.pointer (some ⟨pc, 0, none⟩)) ∧ Hid (Below w.heap.size w w' ∧ w.heap.size ≤ pc ∧ w.heap.size ≤ mc ∧ (∀ b, kc.ownBlock = some b → w.heap.size ≤ b) ∧ Stm w' pc mc kc (pc :: mc :: (kc.ownBlock.toList ++ X)) S) := by
  obtain ⟨c0, c1, c2, c3⟩ := h.cells
  have HMD := Lib.hid h.made
  have HH := Lib.hid h
  obtain ⟨V, hV, hC⟩ := h.map
  have hMC : Hid (∀ W, Below w.heap.size w W → Calls Try.prog 46 #[.map (some mb)] W fun e w' => ∃ mc, e = .returned (.map (some mc)) ∧ Hid (w.heap.size ≤ mc ∧ Mp KS w' mc V ∧ Below w.heap.size w w')) := fun W hb =>
    (mclone_calls mb V W (hV.below hb)).mono fun _ _ ⟨e1, k1, k2⟩ => ⟨_, e1, hb.size, k1, hb.trans (k2.mono hb.size)⟩
  have HC := Lib.hid hC
  obtain ⟨A, c, hkv, -⟩ := h.keys.form
  obtain ⟨q, hq⟩ : ∃ q, (S.ents.map (·.key)).length = q := ⟨_, rfl⟩
  rw [hq] at hkv
  subst hkv
  have hq0 : q ≤ 100000 := by rw [← hq, List.length_map]; exact h.few
  have hKS : Hid (∀ wM W, Below w.heap.size w wM → Below wM.heap.size wM W → Calls Try.prog 47 #[.slice A q c] W fun e w' => ∃ A2 n2 c2, e = .returned (.slice A2 n2 c2) ∧ Hid (Own Ty.str w' wM.heap.size 9 none_ (.slice A2 n2 c2) (S.ents.map (·.key)) ∧ Below wM.heap.size wM w')) := fun wM W hb hb2 => by
    refine (sclone_calls _ A q c W (((HH.out.keys.sl.below (hb.trans (hb2.mono hb.size))).mono fun _ _ => trivial)) (by omega)).mono ?_
    rintro e w' ⟨v, rfl, h1, h2⟩
    obtain ⟨A2, c2, rfl, -⟩ := h1.form
    exact ⟨A2, _, c2, rfl, own_lo2 h1 hb2.size, hb2.trans (h2.mono hb2.size)⟩
  have hpb := h.lt _ h.inP
  have hbW : Below w.heap.size w w := Below.refl _ _
  clear h hV hC hq
  go_enter Try.func24, Try.ntmps24
  go_wp2_with fail
  refine HMD.out.mono ?_
  rintro e w0 ⟨rfl, rfl⟩
  go_wp2_with fail
  apply via5 (fun mc A2 n2 c2 wK => Hid (∃ wM, (w.heap.size ≤ mc ∧ Mp KS wM mc V ∧ Below w.heap.size w wM) ∧ Own Ty.str wK wM.heap.size 9 none_ (.slice A2 n2 c2) (S.ents.map (·.key)) ∧ Below wM.heap.size wM wK))
  case main =>
    intro HKEY
    go_region_law (first
      | (go_simp; go_at_call 46; refine (hMC.out _ ?_).mono ?_; (focus (repeat (first | with_reducible exact hbW | apply Below.drew))); rintro e wM ⟨mc, rfl, hRM⟩
         have c1M := (hRM.out.2.2.cell hpb).trans c1
         have c2M := (hRM.out.2.2.cell hpb).trans c2
         have c3M := (hRM.out.2.2.cell hpb).trans c3
         have hpM : pb < wM.heap.size := Nat.lt_of_lt_of_le hpb hRM.out.2.2.size
         have HRM := Lib.hid hRM.out
         have hbM : Below wM.heap.size wM wM := Below.refl _ _
         clear hRM)
      | (go_simp; go_at_call 47; refine (hKS.out wM _ HRM.out.2.2 ?_).mono ?_; (focus (repeat (first | with_reducible exact hbM | apply Below.drew))); rintro e wK ⟨A2, n2, c2', rfl, hRK⟩
         have c2K := (hRK.out.2.cell hpM).trans c2M
         have c3K := (hRK.out.2.cell hpM).trans c3M
         have HRK := Lib.hid hRK.out
         clear hRK))
    all_goals exact HKEY.out mc A2 n2 c2' wK ⟨wM, HRM.out, HRK.out.1, HRK.out.2⟩
  case key =>
    intro mc A2 n2 c2' wK hK
    go_wp2
    go_ret
    obtain ⟨wM, ⟨k1, k2, k3⟩, k4, k5⟩ := hK.out
    have hb : Below w.heap.size w wK := k3.trans (k5.mono k3.size)
    exact ⟨_, mc, _, rfl, hb.alloc hb.size _, hb.size, k1, fun b e => Nat.le_trans k3.size (k4.lo e).1, copy_done HH.out HC.out k3 k1 k2 k5 k4⟩
end Go.Proofs.Ytnleldogmogkgaa
