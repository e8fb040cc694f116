import Derived.Test.YtnleldogmogkgaaSto3
/-! A scan tells just what a look-up tells: plain law. -/
namespace Go.Proofs.Ytnleldogmogkgaa

theorem may_last {S : Sto} (h : S.Ok) : may S S.last = 0 := by
  unfold may
  rw [if_neg (by have := h.le; omega), if_neg (by omega)]
theorem scanS_last {S : Sto} (h : S.Ok) (x y : ByteArray) (most : Int) : scanS S x y S.last most = ((scan S.ents x y S.last).take most.toNat, 0) := by
  unfold scanS
  rw [if_pos (may_last h)]
theorem scan_length (E : List Ent) (x y : ByteArray) (n : Int) : (scan E x y n).length ≤ E.length := List.length_filterMap_le _ _
theorem scan_get {S : Sto} (h : S.Ok) {x y : ByteArray} {p : Pair} (hp : p ∈ scan S.ents x y S.last) : getS S p.key S.last = (p.val, 0) ∧ p.dead = false ∧ klt p.key x = false ∧ klt p.key y = true := by
  obtain ⟨v, hv, hin, e⟩ := (mem_scan h.rising x y S.last p).1 hp
  unfold inR at hin
  rw [Bool.and_eq_true, Bool.not_eq_true'] at hin
  refine ⟨?_, by rw [e], hin.1, hin.2⟩
  unfold getS
  rw [if_pos (may_last h), hv, e]
theorem getS_two {S : Sto} (h : S.Ok) (k : ByteArray) : (∃ v, get (chainOf S.ents k) S.last = some v ∧ getS S k S.last = (v.val, 0)) ∨ (get (chainOf S.ents k) S.last = none ∧ getS S k S.last = (⟨#[]⟩, 8)) := by
  unfold getS
  rw [if_pos (may_last h)]
  cases hg : get (chainOf S.ents k) S.last with
  | none => exact .inr ⟨rfl, rfl⟩
  | some v => exact .inl ⟨v, rfl, rfl⟩
theorem scan_any {S : Sto} (h : S.Ok) (x y k : ByteArray) : ((scan S.ents x y S.last).any fun p => p.key.toList == k.toList) = (decide ((getS S k S.last).2 = 0) && (!klt k x && klt k y)) := by
  rw [Bool.eq_iff_iff, List.any_eq_true, Bool.and_eq_true, decide_eq_true_eq]
  constructor
  · rintro ⟨p, hp, hk⟩
    rw [beq_key, decide_eq_true_eq] at hk
    subst hk
    obtain ⟨h1, _, h3, h4⟩ := scan_get h hp
    rw [h1, h3, h4]
    exact ⟨rfl, rfl⟩
  · rintro ⟨h1, h2⟩
    rcases getS_two h k with ⟨v, hv, _⟩ | ⟨_, hg⟩
    · exact ⟨⟨k, v.val, false⟩, (mem_scan h.rising x y S.last _).2 ⟨v, hv, h2, rfl⟩, by rw [beq_key]; simp⟩
    · rw [hg] at h1; cases h1
theorem scan_key {S : Sto} (h : S.Ok) {x y : ByteArray} {n : Int} {p : Pair} (hp : p ∈ scan S.ents x y n) : p.key.size ≤ 64 := by
  unfold scan at hp
  obtain ⟨e, he, h1⟩ := List.mem_filterMap.1 hp
  unfold pick at h1
  split at h1
  · obtain ⟨v, _, rfl⟩ := Option.map_eq_some_iff.1 h1
    exact (h.chains e he).2.2.2.2
  · cases h1
theorem scan_next {E : List Ent} (hr : Rising E) {x y : ByteArray} {n : Int} {j : Nat} {p q : Pair} (hp : (scan E x y n)[j]? = some p) (hq : (scan E x y n)[j + 1]? = some q) : klt p.key q.key = true := by
  obtain ⟨h1, rfl⟩ := List.getElem?_eq_some_iff.1 hp
  obtain ⟨h2, rfl⟩ := List.getElem?_eq_some_iff.1 hq
  exact List.pairwise_iff_getElem.1 (scan_order hr x y n) j (j + 1) h1 h2 (by omega)
end Go.Proofs.Ytnleldogmogkgaa
