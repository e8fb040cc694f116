import Derived.Test.YtidfogcilegloaaW12
import Derived.RangeFuncNested
import Derived.RangeFuncBound
import Derived.RangeFuncCalls
import Derived.RangeFuncLeaves
import Derived.Shelf.Abstract
import Derived.Shelf.RegionOpen
import Derived.WalkKit
import Derived.OwnWalkIn
import Derived.TacticsInMore
import Derived.LoopNIn
import Derived.LoopIn
import Derived.RangeFuncBox
/-! Regions whose last but one operation is a round; a range over a function of two values. -/
namespace Go.Proofs.Ytidfogcilegloaa
open Go.RowKit Go.Op Go.Shelf

section
variable {F : Fence} {n : Nat} {P : Program} {C : World → Prop}
/-- A region of open order inside a fence, whose calls make memory alone. -/
theorem wpIn_region_later {id : Nat} {Q : Exit → Act → World → Prop} {a : Act} {w : World} {l : List Oper} (hro : F.round = none) (hm : P.follows .mixedOrders = true) (hB : Region.lexB .any l.toArray = true)
    (h : wpQuietIn F n P l.toArray (fun W => ∃ e : Later w, W = later w e) (fun a' => ∀ W, (∃ e : Later w, W = later w e) → Q .normal a' W) l a) : (Code.region id l.toArray true).wpIn F n P Q a w :=
  wpIn_region_quiet (C := fun W => ∃ e : Later w, W = later w e) hro hm hB (later_mk (Below.refl _ _).drew) (by simpa using h)
theorem callsIn_later {f : FuncId} {args : Array Value} {w : World} {e : Later w} {v : Value} (h : CallsIn F n P f args (later w e) fun r W => r = .returned v ∧ Below (later w e).heap.size (later w e) W) :
    CallsIn F n P f args (later w e) fun r W => r = .returned v ∧ ∃ e' : Later w, W = later w e' :=
  h.mono fun _ _ ⟨hr, hb⟩ => ⟨hr, later_mk ((later_below e).trans (hb.mono (later_below e).size))⟩

/-- All ahead of place k comes ahead of it, all behind it behind. -/
def thenB (md : Region.Mode) (ops : Array Oper) (k : Nat) : Bool :=
  ((List.range k).all fun i => match ops[i]? with
    | none => false
    | some o => o.guard.isNone && (o.after.toList.all fun e => !Region.binds md e || decide (e.on < i)) &&
      (List.range (k + 1)).any fun j => decide (i < j) && match ops[j]? with
        | none => false
        | some oj => oj.after.toList.any fun e => Region.binds md e && decide (e.on = i)) &&
  ((List.range ops.size).all fun j => decide (j ≤ k) || match ops[j]? with
    | none => false
    | some o => o.after.toList.any fun e => Region.binds md e && decide (k ≤ e.on))

variable {md : Region.Mode} {ops : Array Oper} {k : Nat}
theorem thenB_pre (h : thenB md ops k = true) {i : Nat} (hi : i < k) : ∃ o, ops[i]? = some o ∧ o.guard = none ∧ (∀ e ∈ o.after, Region.binds md e = true → e.on < i) ∧
    ∃ j oj, i < j ∧ j ≤ k ∧ ops[j]? = some oj ∧ ∃ e ∈ oj.after, Region.binds md e = true ∧ e.on = i := by
  unfold thenB at h
  rw [Bool.and_eq_true] at h
  have h1 := List.all_eq_true.1 h.1 i (List.mem_range.2 hi)
  split at h1
  · cases h1
  · rename_i o ho
    simp only [Bool.and_eq_true, List.all_eq_true, List.any_eq_true, List.mem_range, decide_eq_true_eq, Bool.or_eq_true, Bool.not_eq_true'] at h1
    obtain ⟨⟨g1, g2⟩, j, hj, hij, g3⟩ := h1
    refine ⟨o, ho, by simpa using g1, fun e he hb => ?_, ?_⟩
    · rcases g2 e (by simpa using he) with g | g
      · rw [hb] at g; cases g
      · exact g
    · split at g3
      · cases g3
      · rename_i oj hoj
        simp only [List.any_eq_true, Bool.and_eq_true, decide_eq_true_eq] at g3
        obtain ⟨e, he, hb, ho'⟩ := g3
        exact ⟨j, oj, hij, by omega, hoj, e, by simpa using he, hb, ho'⟩
theorem thenB_post (h : thenB md ops k = true) {j : Nat} (hj : j < ops.size) (hk : k < j) : ∃ o, ops[j]? = some o ∧ ∃ e ∈ o.after, Region.binds md e = true ∧ k ≤ e.on := by
  unfold thenB at h
  rw [Bool.and_eq_true] at h
  have h1 := List.all_eq_true.1 h.2 j (List.mem_range.2 hj)
  rw [Bool.or_eq_true, decide_eq_true_eq] at h1
  rcases h1 with h1 | h1
  · omega
  · split at h1
    · cases h1
    · rename_i o ho
      simp only [List.any_eq_true, Bool.and_eq_true, decide_eq_true_eq] at h1
      obtain ⟨e, he, hb, h2⟩ := h1
      exact ⟨o, ho, e, by simpa using he, hb, h2⟩

/-- What has come up in the whole region and in its first part. -/
structure Mask (md : Region.Mode) (ops : Array Oper) (k : Nat) (L' L : Array Bool) : Prop where
  sz' : L'.size = k
  sz : L.size = ops.size
  eq : ∀ i, i < k → L'[i]? = L[i]?
  no : ∀ i, k ≤ i → i < ops.size → L[i]? = some false
  closed : ∀ j o, j < k → L[j]? = some true → ops[j]? = some o → ∀ e ∈ o.after, Region.binds md e = true → L[e.on]? = some true
theorem getD_true {L : Array Bool} {i : Nat} : L.getD i false = true ↔ L[i]? = some true := by
  rw [Array.getD_eq_getD_getElem?]
  cases L[i]? <;> simp
theorem getD_false {L : Array Bool} {i : Nat} : L.getD i true = false ↔ L[i]? = some false := by
  rw [Array.getD_eq_getD_getElem?]
  cases L[i]? <;> simp
theorem Mask.all_of_late {L' L : Array Bool} (h : Mask md ops k L' L) (hT : thenB md ops k = true) {j : Nat} (hj : j ∈ Region.ready md ops L) (hk : k ≤ j) : ∀ i, i < k → L[i]? = some true := by
  obtain ⟨h1, o, ho, h2⟩ := mem_ready.1 hj
  have hjs : j < ops.size := (Array.getElem?_eq_some_iff.1 ho).1
  rcases Nat.lt_or_ge k j with hlt | hge
  · obtain ⟨o', ho', e, he, hb, hke⟩ := thenB_post hT hjs hlt
    rw [ho] at ho'
    cases ho'
    have := getD_true.1 (h2 e he hb)
    have hes : e.on < L.size := (Array.getElem?_eq_some_iff.1 this).1
    rw [h.sz] at hes
    rw [h.no _ hke hes] at this
    cases this
  · obtain rfl : j = k := by omega
    have key : ∀ d i, i < j → j - i ≤ d → L[i]? = some true := by
      intro d
      induction d with
      | zero => intro i hi hd; omega
      | succ d ih =>
        intro i hi hd
        obtain ⟨_, _, _, _, j', oj, hij, hjk, hoj, e, he, hb, hei⟩ := thenB_pre hT hi
        rcases Nat.lt_or_ge j' j with hl | hl
        · have := h.closed j' oj hl (ih j' hl (by omega)) hoj e he hb
          rwa [hei] at this
        · obtain rfl : j' = j := by omega
          rw [ho] at hoj
          cases hoj
          have := getD_true.1 (h2 e he hb)
          rwa [hei] at this
    exact fun i hi => key _ i hi (Nat.le_refl _)
theorem Mask.ready_iff {L' L : Array Bool} (h : Mask md ops k L' L) (hT : thenB md ops k = true) {j : Nat} (hj : j < k) : j ∈ Region.ready md (ops.toList.take k).toArray L' ↔ j ∈ Region.ready md ops L := by
  rw [mem_ready, mem_ready, getD_false, getD_false, h.eq j hj]
  have e : (ops.toList.take k).toArray[j]? = ops[j]? := by
    rw [List.getElem?_toArray, List.getElem?_take_of_lt hj, Array.getElem?_toList]
  rw [e]
  obtain ⟨o, ho, _, hlt, _⟩ := thenB_pre hT hj
  refine and_congr_right fun _ => ⟨?_, ?_⟩
  · rintro ⟨o', ho', h2⟩
    refine ⟨o', ho', fun e he hb => ?_⟩
    rw [ho] at ho'
    cases ho'
    have := hlt e he hb
    rw [getD_true, ← h.eq _ (by omega), ← getD_true]
    exact h2 e he hb
  · rintro ⟨o', ho', h2⟩
    refine ⟨o', ho', fun e he hb => ?_⟩
    rw [ho] at ho'
    cases ho'
    have := hlt e he hb
    rw [getD_true, h.eq _ (by omega), ← getD_true]
    exact h2 e he hb
theorem Mask.all_of_none {L' L : Array Bool} (h : Mask md ops k L' L) (hT : thenB md ops k = true) (hks : k ≤ ops.size) (hn : Region.ready md (ops.toList.take k).toArray L' = []) : ∀ i, i < k → L[i]? = some true := by
  intro i
  induction i using Nat.strongRecOn with
  | _ i ih =>
    intro hi
    obtain ⟨o, ho, _, hlt, _⟩ := thenB_pre hT hi
    have hs : i < L.size := by rw [h.sz]; omega
    cases hb : L[i] with
    | true => rw [Array.getElem?_eq_getElem hs, hb]
    | false =>
      exfalso
      have : i ∈ Region.ready md (ops.toList.take k).toArray L' := (h.ready_iff hT hi).2 (mem_ready.2 ⟨getD_false.2 (by rw [Array.getElem?_eq_getElem hs, hb]), o, ho, fun e he hbd => by
        have := hlt e he hbd
        exact getD_true.2 (ih _ this (by omega))⟩)
      rw [hn] at this
      cases this
theorem Mask.set {L' L : Array Bool} (h : Mask md ops k L' L) (hks : k ≤ ops.size) {i : Nat} (hi : i < k) (hr : i ∈ Region.ready md ops L) : Mask md ops k (L'.setIfInBounds i true) (L.setIfInBounds i true) := by
  obtain ⟨_, o, ho, h2⟩ := mem_ready.1 hr
  have s1 : i < L.size := by rw [h.sz]; omega
  have s2 : i < L'.size := by rw [h.sz']; omega
  have up : ∀ m, L[m]? = some true → (L.setIfInBounds i true)[m]? = some true := fun m hm => by
    rw [Array.getElem?_setIfInBounds]
    split
    · subst i; simp
    · exact hm
  refine ⟨by simp [h.sz'], by simp [h.sz], fun m hm => ?_, fun m hm hs => ?_, fun j oj hj hl hoj e he hb => ?_⟩
  · rw [Array.getElem?_setIfInBounds, Array.getElem?_setIfInBounds]
    split
    · simp
    · exact h.eq m hm
  · rw [Array.getElem?_setIfInBounds, if_neg (by omega)]
    exact h.no m hm hs
  · by_cases hji : i = j
    · subst hji
      rw [ho] at hoj
      cases hoj
      exact up _ (getD_true.1 (h2 e he hb))
    · rw [Array.getElem?_setIfInBounds, if_neg hji] at hl
      exact up _ (h.closed j oj hj hl hoj e he hb)
def maskAt (k m : Nat) : Array Bool := (List.replicate k true ++ List.replicate m false).toArray
theorem Mask.full {L' L : Array Bool} (h : Mask md ops k L' L) (hks : k ≤ ops.size) (ha : ∀ i, i < k → L[i]? = some true) : L = maskAt k (ops.size - k) := by
  refine Array.ext_getElem? fun i => ?_
  have e : (maskAt k (ops.size - k))[i]? = (List.replicate k true ++ List.replicate (ops.size - k) false)[i]? := by rw [maskAt]; exact List.getElem?_toArray
  rw [e]
  rcases Nat.lt_or_ge i k with hi | hi
  · rw [ha i hi, List.getElem?_append_left (by simpa using hi), List.getElem?_replicate, if_pos hi]
  · rw [List.getElem?_append_right (by simpa using hi), List.length_replicate, List.getElem?_replicate]
    rcases Nat.lt_or_ge i ops.size with hs | hs
    · rw [h.no i hi hs, if_pos (by omega)]
    · rw [if_neg (by omega), Array.getElem?_eq_none (by rw [h.sz]; exact hs)]
theorem wpAnyIn_then {Q : Exit → Act → World → Prop} (hro : F.round = none) (hT : thenB md ops k = true) (hks : k ≤ ops.size) : ∀ (fuel : Nat) (L' L : Array Bool) (a : Act) (m : Nat), Mask md ops k L' L →
    wpAnyQIn F n P md (ops.toList.take k).toArray C (fun a' => ∀ f w', C w' → wpAnyIn F n P md ops Q (f + m) (maskAt k (ops.size - k)) a' w') fuel L' a → ∀ w, C w → wpAnyIn F n P md ops Q (fuel + m) L a w
  | 0, L', L, a, m, hM, h, w, hw => by
    rw [hM.full hks (hM.all_of_none hT hks h.1)]
    exact h.2 0 w hw
  | fuel + 1, L', L, a, m, hM, h, w, hw => by
    by_cases hn : Region.ready md (ops.toList.take k).toArray L' = []
    · rw [hM.full hks (hM.all_of_none hT hks hn)]
      exact h.1 hn (fuel + 1) w hw
    · have hex : ∃ j, j ∈ Region.ready md (ops.toList.take k).toArray L' := by
        cases hr : Region.ready md (ops.toList.take k).toArray L' with
        | nil => exact absurd hr hn
        | cons j _ => exact ⟨j, by simp⟩
      have hsm : ∀ j, j ∈ Region.ready md (ops.toList.take k).toArray L' → j < k := fun j hj => by
        obtain ⟨_, o, ho, _⟩ := mem_ready.1 hj
        have := (Array.getElem?_eq_some_iff.1 ho).1
        simp at this
        omega
      obtain ⟨j0, hj0⟩ := hex
      have hj0' := (hM.ready_iff hT (hsm _ hj0)).1 hj0
      have hl : ∀ i ∈ Region.ready md ops L, i < k := fun i hi => by
        rcases Nat.lt_or_ge i k with h1 | h1
        · exact h1
        · have := hM.all_of_late hT hi h1 j0 (hsm _ hj0)
          have h2 := getD_false.1 (mem_ready.1 hj0').1
          rw [this] at h2
          cases h2
      rw [show fuel + 1 + m = (fuel + m) + 1 by omega]
      refine ⟨fun h0 => (by rw [h0] at hj0'; cases hj0'), fun i hi => ?_⟩
      have hik := hl i hi
      obtain ⟨o, ho, hg, _⟩ := thenB_pre hT hik
      have h1 := h.2 i ((hM.ready_iff hT hik).2 hi)
      have e : (ops.toList.take k).toArray[i]? = some o := by
        rw [List.getElem?_toArray, List.getElem?_take_of_lt hik, Array.getElem?_toList]; exact ho
      unfold qOpIn at h1
      unfold wpOpIn
      rw [e] at h1
      rw [ho]
      simp only [Region.wanted, hg, if_true] at h1 ⊢
      exact Oper.wpIn_of_quiet hro hw (fun a' w' hw' hk' => wpAnyIn_then hro hT hks fuel _ _ a' m (hM.set hks hik hi) hk' w' hw') h1.1 h1.2
/-- A region of open order whose last two operations come up last; what is ahead of them reads alone. -/
theorem wpIn_region_then {id : Nat} {Q : Exit → Act → World → Prop} {a : Act} {w : World} {l : List Oper} (k : Nat) {o1 o2 : Oper} (hro : F.round = none) (hm : P.follows .mixedOrders = true) (hk : l.length = k + 2) (h1 : l[k]? = some o1) (h2 : l[k + 1]? = some o2)
    (hB : Region.lexB .any (l.take k).toArray = true) (hT : thenB .any l.toArray k = true) (g1 : o1.guard = none) (g2 : o2.guard = none)
    (r1 : Region.ready .any l.toArray (maskAt k 2) = [k]) (r2 : Region.ready .any l.toArray ((maskAt k 2).setIfInBounds k true) = [k + 1]) (r3 : Region.ready .any l.toArray (((maskAt k 2).setIfInBounds k true).setIfInBounds (k + 1) true) = [])
    (hC : C { w with drawn := w.drawn + 1 })
    (h : wpQuietIn F n P (l.take k).toArray C (fun a' => ∀ w', C w' → o1.wpIn F n P a' w' (fun a1 w1 => o2.wpIn F n P a1 w1 (Q .normal) Q) Q) (l.take k) a) : (Code.region id l.toArray true).wpIn F n P Q a w := by
  refine wpIn_region_any hm ?_
  have hs : l.toArray.size = k + 2 := by simpa using hk
  have hlen : (l.take k).length = k := by rw [List.length_take]; omega
  rw [hs]
  simp only [Region.lexB, Bool.and_eq_true] at hB
  refine wpAnyIn_then (C := C) (k := k) hro hT (by omega) k (Array.replicate k false) (Array.replicate (k + 2) false) a 2 ?_ ?_ _ hC
  · refine ⟨by simp, by simpa using hk.symm, fun i hi => ?_, fun i hi hsz => ?_, fun j o hj hl => ?_⟩
    · rw [Array.getElem?_replicate, Array.getElem?_replicate, if_pos hi, if_pos (by omega)]
    · rw [Array.getElem?_replicate, if_pos (by omega)]
    · rw [Array.getElem?_replicate, if_pos (by omega)] at hl
      cases hl
  · have h3 : wpQuietIn F n P (l.take k).toArray C (fun a' => ∀ f w', C w' → wpAnyIn F n P .any l.toArray Q (f + 2) (maskAt k (l.toArray.size - k)) a' w') (l.take k) a := by
      have mono : ∀ (m : List Oper) (a : Act), wpQuietIn F n P (l.take k).toArray C (fun a' => ∀ w', C w' → o1.wpIn F n P a' w' (fun a1 w1 => o2.wpIn F n P a1 w1 (Q .normal) Q) Q) m a →
          wpQuietIn F n P (l.take k).toArray C (fun a' => ∀ f w', C w' → wpAnyIn F n P .any l.toArray Q (f + 2) (maskAt k (l.toArray.size - k)) a' w') m a := by
        intro m
        induction m with
        | nil =>
          intro a ha f w' hw'
          have ha := ha w' hw'
          rw [hs, show k + 2 - k = 2 by omega]
          refine wpAnyIn_all r1 (by simp) fun i hi => ?_
          rw [List.mem_singleton.1 hi]
          unfold wpOpIn
          rw [show l.toArray[k]? = some o1 by simpa using h1]
          simp only [Region.wanted, g1, if_true]
          refine Oper.wpIn_mono (fun a1 w1 h4 => ?_) ha
          refine wpAnyIn_all r2 (by simp) fun i hi => ?_
          rw [List.mem_singleton.1 hi]
          unfold wpOpIn
          rw [show l.toArray[k + 1]? = some o2 by simpa using h2]
          simp only [Region.wanted, g2, if_true]
          exact Oper.wpIn_mono (fun a2 w2 h5 => wpAnyIn_done r3 h5 f) h4
        | cons o m ih =>
          intro a ha
          refine ⟨ha.1, ?_⟩
          have h4 := ha.2
          split
          · rename_i hw
            rw [if_pos hw] at h4
            exact Oper.quietIn_mono (fun a => ih a) h4
          · rename_i hw
            rw [if_neg hw] at h4
            exact ih _ h4
      exact mono _ _ h
    have := wpAnyQIn_lex (F := F) (n := n) (C := C) (md := .any) hB.1 (l.take k) 0 (Array.replicate k false) a (by simp) (by have := hB.2; simp only [List.size_toArray, hlen] at this; rw [hlen]; exact this) h3
    rw [hlen] at this
    exact this
end
end Go.Proofs.Ytidfogcilegloaa
