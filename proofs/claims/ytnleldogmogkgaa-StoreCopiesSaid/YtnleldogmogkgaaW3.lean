import Derived.Test.YtnleldogmogkgaaW2
import Derived.Deep.QuietTactic
import Derived.BigQuiet
namespace Go.Proofs.Ytnleldogmogkgaa
open Go.RowKit

theorem info68 : (Try.prog.info? 68).map (fun i => (i.zero, i.size, i.bytes)) = some (some (.agg #[.int .i64 0, .string ⟨#[]⟩, .bool false]), 3, 32) := by kernel_rfl
theorem info99 : (Try.prog.info? 99).map (fun i => (i.zero, i.size, i.bytes)) = some (some (.agg #[.int .i64 0, .string ⟨#[]⟩, .bool false]), 3, 32) := by kernel_rfl

theorem clone_calls (l : List Ver) (A : Option Addr) (n cap : Nat) (w : World) (hl : Sl tVer w (fun _ => True) (.slice A n cap) l) (hn : n ≤ 1000000) :
    Calls Try.prog 58 #[.slice A n cap] w fun e w' => ∃ v, e = .returned v ∧ Sl tVer w' (fun b => w.heap.size ≤ b) v l ∧ Below w.heap.size w w' := by
  obtain ⟨hln, hcap, hm⟩ := hl.length
  cases A with
  | none =>
    have hc0 : cap = 0 := by obtain ⟨A', cap', cs, e, h1, h2, _⟩ := hl; injection e with e1 e2 e3; rw [e3]; exact h2.2 e1.symm
    subst hc0
    obtain rfl : n = 0 := by omega
    obtain rfl := List.eq_nil_of_length_eq_zero hln
    have hne := fun W : World => Lib.run_eql_slice_nil (P := Try.prog) W 61 68 none 0 0 0 0 Try.underlying61
    go_enter Try.func58, Try.ntmps58
    go_wp2
    go_ret
    exact ⟨_, rfl, Sl.nil _ _ _, Below.refl _ _⟩
  | some ad =>
    have H := Lib.hid hl
    clear hl
    have hne := fun W : World => Lib.run_eql_slice_nil (P := Try.prog) W 61 68 (some ad) n cap 0 0 Try.underlying61
    go_enter Try.func58, Try.ntmps58
    have hsrc : SlX tVer (w.alloc (.cells #[] 68)) (fun b => False ∧ (Value.slice (some ⟨w.heap.size, 0, none⟩) 0 0).ownBlock ≠ some b) (.slice (some ad) n cap) l := Sl.xflat (H.out.below ((Below.refl _ _).alloc (Nat.le_refl _) _))
    have HS := Lib.hid hsrc
    clear hsrc
    go_wp2_with (at_builtin; refine wpList_appSl (t := tVer) (ok := fun _ => False) (l := []) (m := l) (w0 := w) w.heap.size rfl _ _ 61 68 _ 32 rfl Try.underlying61 info68 rfl (by decide) (by decide) rfl rfl (Own.empty tVer w 68 _ (Nat.le_refl _)) HS.out ((Below.refl _ _).alloc (Nat.le_refl _) _) (by simp) (by simp; omega) ?_; intro v1 w1 hO hB1 _ _)
    go_ret
    exact ⟨_, rfl, hO.sl.mono (fun b hb => hb.elim False.elim And.left), hB1⟩

theorem last_calls (l : List Ver) (A : Option Addr) (n cap : Nat) (w : World) (hl : Sl tVer w (fun _ => True) (.slice A n cap) l) :
    Calls Try.prog 54 #[.slice A n cap] w fun e w' => e = .returned (.int .i64 (lastOf l)) ∧ Below w.heap.size w w' := by
  obtain ⟨hln, hcap, hm⟩ := hl.length
  by_cases h0 : n = 0
  · subst h0
    obtain rfl := List.eq_nil_of_length_eq_zero hln
    go_enter Try.func54, Try.ntmps54
    go_wp2
    go_ret
    exact ⟨rfl, Below.refl _ _⟩
  · have h0' : ((n : Int) == 0) = false := by simp; omega
    obtain ⟨x, hx⟩ := some_at (show n - 1 < l.length by omega)
    obtain ⟨b, off, rfl, hbl, c0, c1, c2⟩ := sl_ver hl hx
    have H := Lib.hid hl
    clear hl
    cases hg : good l
    · have HG := Lib.hid hg
      go_enter Try.func54, Try.ntmps54
      go_wp2_with fail
      refine (good_calls l _ n cap _ H.out).mono ?_
      rw [hg]
      rintro e w' ⟨rfl, hb⟩
      clear hg
      go_wp2
      go_ret
      exact ⟨ret_int (by simp [lastOf, HG.out]), hb⟩
    · have HG := Lib.hid hg
      have HX := Lib.hid hx
      go_enter Try.func54, Try.ntmps54
      go_wp2_with fail
      refine (good_calls l _ n cap _ H.out).mono ?_
      rw [hg]
      rintro e w' ⟨rfl, hb⟩
      obtain ⟨hc, -⟩ := bcell hb
      clear hg hx
      go_wp2
      go_ret
      exact ⟨ret_int (by rw [lastOf, HG.out, if_pos rfl, List.getLast?_eq_getElem?, hln, HX.out]; rfl), hb⟩
end Go.Proofs.Ytnleldogmogkgaa
