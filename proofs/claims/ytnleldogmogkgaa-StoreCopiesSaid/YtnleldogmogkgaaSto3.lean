import Derived.Test.YtnleldogmogkgaaSto2
import Derived.Test.YtnleldogmogkgaaPure2
/-! What a range of a store has stays: plain law. -/
namespace Go.Proofs.Ytnleldogmogkgaa

/-- Two lists in order with the same members are the same. -/
theorem order_ext {α : Type} (f : α → ByteArray) : ∀ {a b : List α}, (a.Pairwise fun p q => klt (f p) (f q) = true) → (b.Pairwise fun p q => klt (f p) (f q) = true) → (∀ p, p ∈ a ↔ p ∈ b) → a = b
  | [], [], _, _, _ => rfl
  | [], q :: b, _, _, h => absurd ((h q).2 (by simp)) (by simp)
  | p :: a, [], _, _, h => absurd ((h p).1 (by simp)) (by simp)
  | p :: a, q :: b, ha, hb, h => by
    obtain ⟨a1, a2⟩ := List.pairwise_cons.1 ha
    obtain ⟨b1, b2⟩ := List.pairwise_cons.1 hb
    have e : p = q := by
      rcases List.mem_cons.1 ((h p).1 (by simp)) with e | hp
      · exact e
      · rcases List.mem_cons.1 ((h q).2 (by simp)) with e | hq
        · exact e.symm
        · have := klt_trans (a1 q hq) (b1 p hp)
          rw [klt_irrefl] at this; cases this
    subst e
    have := order_ext f a2 b2 fun r => by
      constructor
      · intro hr
        rcases List.mem_cons.1 ((h r).1 (List.mem_cons_of_mem _ hr)) with e | hr'
        · subst e
          have := a1 r hr
          rw [klt_irrefl] at this; cases this
        · exact hr'
      · intro hr
        rcases List.mem_cons.1 ((h r).2 (List.mem_cons_of_mem _ hr)) with e | hr'
        · subst e
          have := b1 r hr
          rw [klt_irrefl] at this; cases this
        · exact hr'
    rw [this]
theorem get_nil (n : Int) : get [] n = none := by
  unfold get
  split
  · rfl
  · rfl
theorem mem_scan {E : List Ent} (hr : Rising E) (x y : ByteArray) (n : Int) (p : Pair) : p ∈ scan E x y n ↔ ∃ v, get (chainOf E p.key) n = some v ∧ inR x y p.key = true ∧ p = ⟨p.key, v.val, false⟩ := by
  unfold scan
  rw [List.mem_filterMap]
  constructor
  · rintro ⟨e, he, h⟩
    unfold pick at h
    split at h
    · rename_i hin
      obtain ⟨v, hv, rfl⟩ := Option.map_eq_some_iff.1 h
      exact ⟨v, by show get (chainOf E e.key) n = _; rw [chainOf_mem hr he]; exact hv, hin, rfl⟩
    · cases h
  · rintro ⟨v, hv, hin, hp⟩
    cases hf : findK E p.key with
    | none => rw [chainOf_none hf, get_nil] at hv; cases hv
    | some e =>
      obtain ⟨he, hk⟩ := findK_some hf
      refine ⟨e, he, ?_⟩
      rw [← hk, chainOf_mem hr he] at hv
      unfold pick
      rw [hk, if_pos hin, hv, hp]; rfl
theorem scan_order {E : List Ent} (hr : Rising E) (x y : ByteArray) (n : Int) : (scan E x y n).Pairwise fun p q => klt p.key q.key = true := by
  unfold scan
  refine List.Pairwise.filterMap _ ?_ hr
  intro a a' haa b hb b' hb'
  have key : ∀ {a : Ent} {b : Pair}, pick x y n a = some b → b.key = a.key := fun {a b} h => by
    unfold pick at h
    split at h
    · obtain ⟨v, _, rfl⟩ := Option.map_eq_some_iff.1 h; rfl
    · cases h
  rw [key hb, key hb']; exact haa
theorem scan_ext {E E' : List Ent} (hr : Rising E) (hr' : Rising E') {n m : Int} (h : ∀ k, get (chainOf E k) n = get (chainOf E' k) m) (x y : ByteArray) : scan E x y n = scan E' x y m :=
  order_ext Pair.key (scan_order hr x y n) (scan_order hr' x y m) fun p => by rw [mem_scan hr, mem_scan hr', h]
theorem add_get {m : Int} {E : List Ent} {p : Pair} {l : List Pair} (h : Mid m E (p :: l)) (hm : 0 ≤ m) (hp : goodP p = true) {s : Int} (hs : s ≤ m) (k : ByteArray) : get (chainOf (addE (m + 1) E p) k) s = get (chainOf E k) s := by
  rw [chainOf_add h.rising]
  by_cases hk : k = p.key
  · subst hk
    rw [if_pos rfl]
    exact get_put_ahead (h.can hm hp) (by show s < m + 1; omega)
  · rw [if_neg hk]
theorem addAll_get : ∀ {l : List Pair} {m : Int} {E : List Ent} (_ : Mid m E l) (_ : 0 ≤ m) (_ : ∀ p ∈ l, goodP p = true) (_ : l.Pairwise fun a b => klt a.key b.key = true) {s : Int} (_ : s ≤ m) (k : ByteArray), get (chainOf (addAll (m + 1) E l) k) s = get (chainOf E k) s
  | [], _, _, _, _, _, _, _, _, _ => rfl
  | p :: l, m, E, h, hm, hg, hp, s, hs, k => by
    show get (chainOf (addAll (m + 1) (addE (m + 1) E p) l) k) s = _
    rw [addAll_get (h.step hm (hg p (by simp)) (List.pairwise_cons.1 hp).1) hm (fun q hq => hg q (List.mem_cons_of_mem _ hq)) (List.pairwise_cons.1 hp).2 hs k, add_get h hm (hg p (by simp)) hs]
theorem inst_get {S : Sto} (h : S.Ok) (n : Int) (l : List Pair) {s : Int} (hs : s ≤ S.last) (k : ByteArray) : get (chainOf (inst S n l).2.ents k) s = get (chainOf S.ents k) s := by
  unfold inst
  split
  · rename_i hc
    obtain ⟨hg, rfl⟩ := hc
    obtain ⟨g1, g2⟩ := goodL_all hg
    exact addAll_get (Mid.start h l) (by have := h.fl; have := h.le; omega) g1 g2 hs k
  · rfl
theorem trim_nil (n : Int) : trim [] n = [] := by
  unfold trim
  split <;> simp
theorem chain_trims3 {E : List Ent} (hr : Rising E) (n : Int) (k : ByteArray) : chainOf (trims E n) k = trim (chainOf E k) n := by
  have hr' := trims_rising hr n
  cases hf : findK E k with
  | none =>
    rw [chainOf_none hf, trim_nil]
    cases hf' : findK (trims E n) k with
    | none => exact chainOf_none hf'
    | some e =>
      obtain ⟨he, rfl⟩ := findK_some hf'
      obtain ⟨a, ha, hea, _⟩ := trims_mem.1 he
      rw [hea] at hf
      rw [show (Ent.mk a.key (trim a.c n)).key = a.key from rfl, findK_mem hr ha] at hf
      cases hf
  | some e =>
    obtain ⟨he, rfl⟩ := findK_some hf
    rw [chainOf_mem hr he]
    by_cases hne : trim e.c n = []
    · rw [hne]
      cases hf' : findK (trims E n) e.key with
      | none => exact chainOf_none hf'
      | some e' =>
        obtain ⟨he', hk⟩ := findK_some hf'
        obtain ⟨a, ha, hea, hna⟩ := trims_mem.1 he'
        rw [hea] at hk
        have : a = e := by
          have h1 := findK_mem hr ha
          rw [show a.key = e.key from hk, hf] at h1
          injection h1 with h1; exact h1.symm
        rw [this] at hna
        exact absurd hne hna
    · exact chainOf_mem hr' (e := ⟨e.key, trim e.c n⟩) (trims_mem.2 ⟨e, he, rfl, hne⟩)
theorem coll_get {S : Sto} (h : S.Ok) {m s : Int} (hs : m ≤ s) (k : ByteArray) : get (chainOf (coll S m).2.ents k) s = get (chainOf S.ents k) s := by
  unfold coll
  split
  · rfl
  · show get (chainOf (trims S.ents m) k) s = _
    rw [chain_trims3 h.rising]
    exact get_trim (chainOf_good h.chains k) hs
theorem inst_scan {S : Sto} (h : S.Ok) (n : Int) (l : List Pair) {s : Int} (hs : s ≤ S.last) (x y : ByteArray) : scan (inst S n l).2.ents x y s = scan S.ents x y s :=
  scan_ext (inst_ok h n l).rising h.rising (fun k => inst_get h n l hs k) x y
theorem coll_scan {S : Sto} (h : S.Ok) {m s : Int} (hs : m ≤ s) (x y : ByteArray) : scan (coll S m).2.ents x y s = scan S.ents x y s :=
  scan_ext (coll_ok h m).rising h.rising (fun k => coll_get h hs k) x y
theorem inst_floor (S : Sto) (n : Int) (l : List Pair) : (inst S n l).2.floor = S.floor := by
  unfold inst; split <;> rfl
end Go.Proofs.Ytnleldogmogkgaa
