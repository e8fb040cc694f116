import Derived.Test.YtidfogcilegloaaB1
import Derived.Test.YtidfogcilegloaaC1
import Derived.Laws.LoneSync
/-! A session in memory: its state, its small functions. -/
namespace Go.Proofs.Ytidfogcilegloaa
open Go.RowKit Go.Op

structure Ses where
  id : Int
  op : Bool
  snap : Int
  strict : Bool
  reads : List C.Rd
  mine : List Pair
  ops : Int
  seen : List ByteArray
def Ses.shut (id : Int) : Ses := ⟨id, false, 0, false, [], [], 0, []⟩
def Ses.cells (s : Ses) (rv mv sv : Value) : Array Value := #[.int .i64 s.id, .bool s.op, .int .i64 s.snap, .bool s.strict, rv, mv, .int .i64 s.ops, sv]

/-! ### atomics -/
theorem load_calls (b o : Nat) (x : Int) (w : World) (h : w.cell? ⟨b, o, none⟩ = some (.int .i64 x)) : Calls Try.prog 32 #[.pointer (some ⟨b, o, none⟩)] w fun e w' => e = .returned (.int .i64 x) ∧ w = w' := by
  have hl := run_call_load (P := Try.prog) Try.func50 (by kernel_rfl) (by kernel_rfl) (by kernel_rfl) .i64 (by kernel_rfl) h
  clear h
  go_enter Try.func32, Try.ntmps32
  go_wp2
  go_ret
  exact ⟨rfl, rfl⟩
theorem store_calls (b o : Nat) (x y : Int) (w : World) (h : w.cell? ⟨b, o, none⟩ = some (.int .i64 x)) (hz : w.frozen? ⟨b, o, none⟩ = false) : Calls Try.prog 29 #[.pointer (some ⟨b, o, none⟩), .int .i64 y] w fun e w' => e = .returned (.tuple #[]) ∧ w.setCell ⟨b, o, none⟩ (.int .i64 y) = w' := by
  have hl := run_call_store (P := Try.prog) Try.func47 (by kernel_rfl) (by kernel_rfl) (by kernel_rfl) (by kernel_rfl) (k := .i64) (y := y) h hz
  clear h hz
  go_enter Try.func29, Try.ntmps29
  go_wp2
  go_end0
  exact ⟨rfl, rfl⟩
theorem add_calls (b o : Nat) (x : Int) (w : World) (h : w.cell? ⟨b, o, none⟩ = some (.int .i64 x)) (hz : w.frozen? ⟨b, o, none⟩ = false) (h0 : 0 ≤ x) (h1 : x ≤ 1000) : Calls Try.prog 45 #[.pointer (some ⟨b, o, none⟩), .int .i64 1] w fun e w' => e = .returned (.int .i64 (x + 1)) ∧ w.setCell ⟨b, o, none⟩ (.int .i64 (x + 1)) = w' := by
  have hl := run_call_add (P := Try.prog) Try.func64 (by kernel_rfl) (by kernel_rfl) (by kernel_rfl) .i64 (by kernel_rfl) (y := 1) (s := x + 1) h hz (by simp [go_sem, IntKind.wrap_i64]; omega)
  clear h hz
  go_enter Try.func45, Try.ntmps45
  go_wp2
  go_ret
  exact ⟨rfl, rfl⟩

/-! ### small functions -/
theorem smade_calls (xb : Nat) (id : Int) (w : World) (h : w.cell? ⟨xb, 0, none⟩ = some (.int .i64 id)) (h0 : 0 < id) : Calls Try.prog 27 #[.pointer (some ⟨xb, 0, none⟩)] w fun e w' => e = .returned (.bool true) ∧ w = w' := by
  go_enter Try.func27, Try.ntmps27
  go_wp2
  go_ret
  exact ⟨rfl, rfl⟩
theorem smade_zero (xb : Nat) (w : World) (h : w.cell? ⟨xb, 0, none⟩ = some (.int .i64 0)) : Calls Try.prog 27 #[.pointer (some ⟨xb, 0, none⟩)] w fun e w' => e = .returned (.bool false) ∧ w = w' := by
  go_enter Try.func27, Try.ntmps27
  go_wp2
  go_ret
  exact ⟨rfl, rfl⟩
theorem smade_nil (w : World) : Calls Try.prog 27 #[.pointer none] w fun e w' => e = .returned (.bool false) ∧ w = w' := by
  go_enter Try.func27, Try.ntmps27
  go_wp2
  go_ret
  exact ⟨rfl, rfl⟩
theorem snew_no (id : Int) (w : World) (h : id < 1 ∨ 8 < id) : Calls Try.prog 7 #[.int .i64 id] w fun e w' => e = .returned (.pointer none) ∧ w = w' := by
  rcases h with h | h
  · go_enter Try.func7, Try.ntmps7
    go_wp2
    go_ret
    exact ⟨rfl, rfl⟩
  · have h' : ¬ id < 1 := by omega
    go_enter Try.func7, Try.ntmps7
    go_wp2
    go_ret
    exact ⟨rfl, rfl⟩
theorem snew_yes (id : Int) (w : World) (h1 : 1 ≤ id) (h8 : id ≤ 8) : Calls Try.prog 7 #[.int .i64 id] w fun e w' => e = .returned (.pointer (some ⟨w.heap.size, 0, none⟩)) ∧ w.alloc (.cells ((Ses.shut id).cells (.slice none 0 0) (.pointer none) (.map none)) 53) = w' := by
  unfold Ses.cells Ses.shut
  go_enter Try.func7, Try.ntmps7
  go_wp2
  go_ret
  exact ⟨rfl, rfl⟩

/-- An act more. -/
def Ses.may (s : Ses) : Int × Ses := if s.op = false then (9, s) else if 64 ≤ s.ops then (13, s) else (0, { s with ops := s.ops + 1 })
section
variable (s : Ses) (xb : Nat) (rv mv sv : Value) (w : World) (hb : Blk w xb (s.cells rv mv sv) 53) (hi : 0 < s.id)
include hb hi
theorem smay_shut (ho : s.op = false) : Calls Try.prog 25 #[.pointer (some ⟨xb, 0, none⟩)] w fun e w' => e = .returned (.int .i64 9) ∧ w = w' := by
  have HM := Lib.hid (smade_calls xb s.id w (hb.cell 0) hi)
  have c1 : w.cell? ⟨xb, 1, none⟩ = some (.bool false) := by rw [← ho]; exact hb.cell 1
  clear hb hi ho
  go_enter Try.func25, Try.ntmps25
  go_wp2_with fail
  refine HM.out.mono ?_
  rintro e w' ⟨rfl, rfl⟩
  go_wp2
  go_ret
  exact ⟨rfl, rfl⟩
theorem smay_many (ho : s.op = true) (h64 : 64 ≤ s.ops) : Calls Try.prog 25 #[.pointer (some ⟨xb, 0, none⟩)] w fun e w' => e = .returned (.int .i64 13) ∧ w = w' := by
  have HM := Lib.hid (smade_calls xb s.id w (hb.cell 0) hi)
  have HL := Lib.hid (load_calls xb 6 s.ops w (hb.cell 6))
  have c1 : w.cell? ⟨xb, 1, none⟩ = some (.bool true) := by rw [← ho]; exact hb.cell 1
  clear hb hi ho
  go_enter Try.func25, Try.ntmps25
  go_wp2_with fail
  refine HM.out.mono ?_
  rintro e w' ⟨rfl, rfl⟩
  go_wp2_with fail
  refine HL.out.mono ?_
  rintro e w' ⟨rfl, rfl⟩
  go_wp2
  go_ret
  exact ⟨rfl, rfl⟩
theorem smay_ok (ho : s.op = true) (h0 : 0 ≤ s.ops) (h64 : s.ops < 64) : Calls Try.prog 25 #[.pointer (some ⟨xb, 0, none⟩)] w fun e w' => e = .returned (.int .i64 0) ∧ w.setCell ⟨xb, 6, none⟩ (.int .i64 (s.ops + 1)) = w' := by
  have HM := Lib.hid (smade_calls xb s.id w (hb.cell 0) hi)
  have HL := Lib.hid (load_calls xb 6 s.ops w (hb.cell 6))
  have HA := Lib.hid (add_calls xb 6 s.ops w (hb.cell 6) (hb.frozen 6) h0 (by omega))
  have c1 : w.cell? ⟨xb, 1, none⟩ = some (.bool true) := by rw [← ho]; exact hb.cell 1
  clear hb hi ho
  go_enter Try.func25, Try.ntmps25
  go_wp2_with fail
  refine HM.out.mono ?_
  rintro e w' ⟨rfl, rfl⟩
  go_wp2_with fail
  refine HL.out.mono ?_
  rintro e w' ⟨rfl, rfl⟩
  go_wp2_with fail
  refine HA.out.mono ?_
  rintro e w' ⟨rfl, rfl⟩
  go_wp2
  go_ret
  exact ⟨rfl, rfl⟩
theorem sopen_calls : Calls Try.prog 14 #[.pointer (some ⟨xb, 0, none⟩)] w fun e w' => e = .returned (.bool s.op) ∧ w = w' := by
  have HM := Lib.hid (smade_calls xb s.id w (hb.cell 0) hi)
  have c1 : w.cell? ⟨xb, 1, none⟩ = some (.bool s.op) := hb.cell 1
  clear hb hi
  go_enter Try.func14, Try.ntmps14
  go_wp2_with fail
  refine HM.out.mono ?_
  rintro e w' ⟨rfl, rfl⟩
  go_wp2
  go_ret
  exact ⟨rfl, rfl⟩
theorem ssnap_calls : Calls Try.prog 19 #[.pointer (some ⟨xb, 0, none⟩)] w fun e w' => e = .returned (.int .i64 s.snap) ∧ w = w' := by
  have HM := Lib.hid (smade_calls xb s.id w (hb.cell 0) hi)
  have c1 : w.cell? ⟨xb, 2, none⟩ = some (.int .i64 s.snap) := hb.cell 2
  clear hb hi
  go_enter Try.func19, Try.ntmps19
  go_wp2_with fail
  refine HM.out.mono ?_
  rintro e w' ⟨rfl, rfl⟩
  go_wp2
  go_ret
  exact ⟨rfl, rfl⟩
theorem sops_calls : Calls Try.prog 12 #[.pointer (some ⟨xb, 0, none⟩)] w fun e w' => e = .returned (.int .i64 s.ops) ∧ w = w' := by
  have HM := Lib.hid (smade_calls xb s.id w (hb.cell 0) hi)
  have HL := Lib.hid (load_calls xb 6 s.ops w (hb.cell 6))
  obtain ⟨o, ho⟩ : ∃ o, s.ops = o := ⟨_, rfl⟩
  rw [ho] at HL ⊢
  clear hb hi ho
  go_enter Try.func12, Try.ntmps12
  go_wp2_with fail
  refine HM.out.mono ?_
  rintro e w' ⟨rfl, rfl⟩
  go_wp2_with fail
  refine HL.out.mono ?_
  rintro e w' ⟨rfl, rfl⟩
  go_wp2
  go_ret
  exact ⟨rfl, rfl⟩
end
end Go.Proofs.Ytidfogcilegloaa
