import Derived.Test.YtidjcdfdfbomiaaRep
import Derived.Test.YtidjcdfdfbomiaaPure
import Derived.Deep.QuietTactic
import Derived.BigQuiet
/-! Ops and plans in memory; light. -/
namespace Go.Proofs.Ytidjcdfdfbomiaa
open Go.RowKit Go.Op

def HOp.enc (o : HOp) : List Value := [.int .i64 o.kind, .int .i64 o.sess, .bool o.strict, .string o.key, .string o.val, .int .i64 o.n]
def tOp : Ty HOp := Ty.flat 6 HOp.enc (fun _ => rfl) (fun x u hu => by simp [HOp.enc] at hu; rcases hu with rfl | rfl | rfl | rfl | rfl | rfl <;> rfl)
def tPlan : Ty Plan := ((Ty.int .i64).pair tOp.slice).iso fun p => (p.sess, p.ops)
def tI : Ty Int := Ty.int .i64

theorem some_at {α : Type} {l : List α} {k : Nat} (h : k < l.length) : ∃ x, l[k]? = some x := ⟨l[k], List.getElem?_eq_getElem h⟩
section
variable {w : World} {ok : Nat → Prop} {A : Option Addr} {n cap : Nat}
theorem sl_op {l : List HOp} (h : Sl tOp w ok (.slice A n cap) l) {i : Nat} {o : HOp} (hi : l[i]? = some o) :
    ∃ b off, A = some ⟨b, off, none⟩ ∧ b < w.heap.size ∧ w.cell? ⟨b, off + i * 6, none⟩ = some (.int .i64 o.kind) ∧ w.cell? ⟨b, off + i * 6 + 1, none⟩ = some (.int .i64 o.sess) ∧ w.cell? ⟨b, off + i * 6 + 2, none⟩ = some (.bool o.strict) ∧
      w.cell? ⟨b, off + i * 6 + 3, none⟩ = some (.string o.key) ∧ w.cell? ⟨b, off + i * 6 + 4, none⟩ = some (.string o.val) ∧ w.cell? ⟨b, off + i * 6 + 5, none⟩ = some (.int .i64 o.n) := by
  obtain ⟨b, off, c, e, hb, hk, hc⟩ := h.at (by decide) hi
  obtain rfl : c = o.enc := hk
  exact ⟨b, off, e, World.block_lt_of_cell? w _ (hc 0 _ rfl), hc 0 _ rfl, hc 1 _ rfl, hc 2 _ rfl, hc 3 _ rfl, hc 4 _ rfl, hc 5 _ rfl⟩
theorem plan_form {p : Plan} {cs : List Value} (h : tPlan.K w ok p cs) : ∃ P np cp, cs = [.int .i64 p.sess, .slice P np cp] ∧ Sl tOp w ok (.slice P np cp) p.ops := by
  obtain ⟨_, _, rfl, h1, v, rfl, h4⟩ := h
  obtain ⟨P, cp, rfl, -⟩ := h4.form
  exact ⟨P, _, cp, by rw [show _ = _ from h1]; rfl, h4⟩
theorem plan_mk {p : Plan} {P : Option Addr} {np cp : Nat} (h : Sl tOp w ok (.slice P np cp) p.ops) : tPlan.K w ok p [.int .i64 p.sess, .slice P np cp] :=
  ⟨[_], _, rfl, rfl, _, rfl, h⟩
theorem sl_plan {l : List Plan} (h : Sl tPlan w ok (.slice A n cap) l) {i : Nat} {p : Plan} (hi : l[i]? = some p) :
    ∃ b off P np cp, A = some ⟨b, off, none⟩ ∧ b < w.heap.size ∧ w.cell? ⟨b, off + i * 2, none⟩ = some (.int .i64 p.sess) ∧ w.cell? ⟨b, off + i * 2 + 1, none⟩ = some (.slice P np cp) ∧ Sl tOp w ok (.slice P np cp) p.ops := by
  obtain ⟨b, off, c, e, hb, hk, hc⟩ := h.at (by decide) hi
  obtain ⟨P, np, cp, rfl, hs⟩ := plan_form hk
  exact ⟨b, off, P, np, cp, e, World.block_lt_of_cell? w _ (hc 0 _ rfl), hc 0 _ rfl, hc 1 _ rfl, hs⟩
theorem sl_int {l : List Int} (h : Sl tI w ok (.slice A n cap) l) {i : Nat} {z : Int} (hi : l[i]? = some z) :
    ∃ b off, A = some ⟨b, off, none⟩ ∧ b < w.heap.size ∧ w.cell? ⟨b, off + i, none⟩ = some (.int .i64 z) := by
  obtain ⟨b, off, c, e, hb, hk, hc⟩ := h.at (by decide) hi
  obtain rfl : c = [.int .i64 z] := hk
  exact ⟨b, off, e, World.block_lt_of_cell? w _ (hc 0 _ rfl), by simpa [tI, Ty.int, Ty.flat] using hc 0 _ rfl⟩
end

/-- No part of an Op or a plan is larger than a machine holds. -/
def OpOk (o : HOp) : Prop := o.key.size ≤ 140737488351232 ∧ o.val.size ≤ 140737488351232
def PlanOk (p : Plan) : Prop := (∀ o ∈ p.ops, OpOk o) ∧ p.ops.length * 64 ≤ 140737488351232

set_option maxHeartbeats 4000000 in
theorem light_calls (l : List Plan) (A : Option Addr) (n cap : Nat) (most : Int) (w : World) (hl : Sl tPlan w (fun _ => True) (.slice A n cap) l) (ho : ∀ p ∈ l, PlanOk p) (hm0 : 0 ≤ most) (hm1 : most ≤ 1000) :
    Calls Try.prog 5 #[.slice A n cap, .int .i64 most] w fun e w' => ∃ b : Bool, e = .returned (.bool b) ∧ Below w.heap.size w w' := by
  obtain ⟨hln, hcap, hcm⟩ := hl.length
  have H := Lib.hid hl
  have HO := Lib.hid ho
  clear hl ho
  have hX := Lib.hid (Below.refl w.heap.size w)
  by_cases h70 : 70 < n
  · go_enter Try.func5, Try.ntmps5
    go_wp2
    go_ret
    exact ⟨false, rfl, hX.out⟩
  go_enter Try.func5, Try.ntmps5
  go_wp2
  go_loopw [5, 7, 9, 16] (fun v _ _ i w' => ∃ (j : Nat) (z : Int), j ≤ n ∧ i = .int .i64 j ∧ v = .int .i64 z ∧ 0 ≤ z ∧ z ≤ 1000 ∧ Below w.heap.size w w') (fun _ _ _ i _ => n - (intOf i).toNat)
  case atStart => exact ⟨0, n, by omega, rfl, rfl, by omega, by omega, hX.out⟩
  case round =>
    obtain ⟨j, z, hj, rfl, rfl, hz0, hz1, hb⟩ := hrel
    by_cases hlt : j < n
    · obtain ⟨p, hp⟩ := some_at (show j < l.length by omega)
      obtain ⟨b, off, P, np, cp, rfl, hbl, g0, g1, hP⟩ := sl_plan (H.out.below hb) hp
      obtain ⟨hpo, hpl⟩ := HO.out p (List.mem_of_getElem? hp)
      have hpn := hP.length.1
      rw [hpn] at hpl
      have hb' := hb.alloc hb.size (.cells #[.int .i64 p.sess, .slice P np cp] 46)
      have HB2 := Lib.hid hb'
      have HPO := Lib.hid hpo
      have HP := Lib.hid (hP.below ((Below.refl _ _).alloc (Nat.le_refl _) (.cells #[.int .i64 p.sess, .slice P np cp] 46)))
      have hX3 := Lib.hid (Below.refl (wr.alloc (.cells #[.int .i64 p.sess, .slice P np cp] 46)).heap.size (wr.alloc (.cells #[.int .i64 p.sess, .slice P np cp] 46)))
      clear hb' hpo hP hp
      by_cases h1 : most < z + np
      · go_wp2
        go_ret
        exact ⟨false, rfl, HB2.out⟩
      have h2 : ¬ most < np := by omega
      go_wp2
      generalize wr.alloc (.cells #[.int .i64 p.sess, .slice P np cp] 46) = w3 at *
      go_loopw [5, 9, 38] (fun v _ i w' => ∃ (k : Nat) (z : Int), k ≤ np ∧ i = .int .i64 k ∧ v = .int .i64 z ∧ 0 ≤ z ∧ z ≤ 1000 ∧ Below w3.heap.size w3 w') (fun _ _ i _ => np - (intOf i).toNat)
      case atStart => exact ⟨0, _, by omega, rfl, rfl, by omega, by omega, hX3.out⟩
      case round =>
        clear g0 g1 hbl hz0 hz1 hb h1
        obtain ⟨k, z, hk, rfl, rfl, hz0, hz1, hb⟩ := hrel
        have hbw := HB2.out.trans (hb.mono HB2.out.size)
        by_cases hlt2 : k < np
        · obtain ⟨o, ho⟩ := some_at (show k < p.ops.length by omega)
          obtain ⟨b', off', rfl, hbl, g0, g1, g2, g3, g4, g5⟩ := sl_op (HP.out.below hb) ho
          obtain ⟨hp1, hp2⟩ := HPO.out o (List.mem_of_getElem? ho)
          clear ho
          have hb' := hb.alloc hb.size (.cells #[.int .i64 o.kind, .int .i64 o.sess, .bool o.strict, .string o.key, .string o.val, .int .i64 o.n] 48)
          have hbw' := hbw.alloc hbw.size (.cells #[.int .i64 o.kind, .int .i64 o.sess, .bool o.strict, .string o.key, .string o.val, .int .i64 o.n] 48)
          have HB3 := Lib.hid hb'
          have HB4 := Lib.hid hbw'
          clear hb' hbw'
          go_wp2
          · go_ret
            exact ⟨false, rfl, HB4.out⟩
          · go_roundw
            case rel => exact ⟨k + 1, _, by omega, by go_num, rfl, by omega, by omega, HB3.out⟩
            case measure => simp [intOf]; omega
        · go_wp2
          exact ⟨⟨j + 1, z, by omega, by go_num, rfl, hz0, hz1, hbw⟩, by simp [intOf]; omega⟩
    · go_wp2
      go_ret
      exact ⟨true, rfl, hb⟩
end Go.Proofs.Ytidjcdfdfbomiaa
