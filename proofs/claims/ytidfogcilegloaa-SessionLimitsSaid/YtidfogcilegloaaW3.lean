import Derived.Test.YtidfogcilegloaaW2
import Derived.Deep.QuietTactic
import Derived.BigQuiet
namespace Go.Proofs.Ytidfogcilegloaa
open Go.RowKit

theorem info68 : (Try.prog.info? 93).map (fun i => (i.zero, i.size, i.bytes)) = some (some (.agg #[.int .i64 0, .string ⟨#[]⟩, .bool false]), 3, 32) := by kernel_rfl
theorem last_calls (l : List Ver) (A : Option Addr) (n cap : Nat) (w : World) (hl : Sl tVer w (fun _ => True) (.slice A n cap) l) :
    Calls Try.prog 60 #[.slice A n cap] w fun e w' => e = .returned (.int .i64 (lastOf l)) ∧ Below w.heap.size w w' := by
  obtain ⟨hln, hcap, hm⟩ := hl.length
  by_cases h0 : n = 0
  · subst h0
    obtain rfl := List.eq_nil_of_length_eq_zero hln
    go_enter Try.func60, Try.ntmps60
    go_wp2
    go_ret
    exact ⟨rfl, Below.refl _ _⟩
  · have h0' : ((n : Int) == 0) = false := by simp; omega
    obtain ⟨x, hx⟩ := some_at (show n - 1 < l.length by omega)
    obtain ⟨b, off, rfl, hbl, c0, c1, c2⟩ := sl_ver hl hx
    have H := Lib.hid hl
    clear hl
    cases hg : good l
    · have HG := Lib.hid hg
      go_enter Try.func60, Try.ntmps60
      go_wp2_with fail
      refine (good_calls l _ n cap _ H.out).mono ?_
      rw [hg]
      rintro e w' ⟨rfl, hb⟩
      clear hg
      go_wp2
      go_ret
      exact ⟨ret_int (by simp [lastOf, HG.out]), hb⟩
    · have HG := Lib.hid hg
      have HX := Lib.hid hx
      go_enter Try.func60, Try.ntmps60
      go_wp2_with fail
      refine (good_calls l _ n cap _ H.out).mono ?_
      rw [hg]
      rintro e w' ⟨rfl, hb⟩
      obtain ⟨hc, -⟩ := bcell hb
      clear hg hx
      go_wp2
      go_ret
      exact ⟨ret_int (by rw [lastOf, HG.out, if_pos rfl, List.getLast?_eq_getElem?, hln, HX.out]; rfl), hb⟩
end Go.Proofs.Ytidfogcilegloaa
