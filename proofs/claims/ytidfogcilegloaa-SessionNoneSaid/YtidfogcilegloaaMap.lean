import Derived.Maps.Own
import Derived.Maps.OwnOps
import Derived.Maps.OwnSet
import Derived.Maps.Views
import Derived.Maps.Range
import Derived.Maps.RangeWalk
import Derived.Sort.KeysCollected
import Derived.Below
import Derived.WalkKit
/-! Maps in memory, read as lists of keys with values; every kind of key and value. -/
namespace Go.Proofs.Ytidfogcilegloaa
open Go.RowKit Go.Op
open Go.Maps (Keyed)

/-- A kind of key: its value, what it reads as. -/
structure MKey (P : Program) (kt : TypeId) (κ : Type) where
  ok : κ → Prop
  val : κ → Value
  lit : κ → Lit
  keyed : Keyed P kt
  mk' : ∀ k, ok k → keyOf P kt (val k) = some (lit k)
  inv : ∀ v l, keyOf P kt v = some l → ∃ k, ok k ∧ v = val k
  inj : ∀ a b, val a = val b → a = b

/-- An element as it is. -/
def held (v : Value) : Option (DataW Value × List MemPlace) := some (.held v, [])

section
variable {P : Program} {kt : TypeId} {κ : Type}
theorem MKey.lit_inj (K : MKey P kt κ) {a b : κ} (ha : K.ok a) (hb : K.ok b) (h : K.lit a = K.lit b) : a = b := K.inj _ _ (K.keyed.inj (K.mk' a ha) (by rw [h]; exact K.mk' b hb))
theorem MKey.key (K : MKey P kt κ) {a : κ} (ha : K.ok a) : WideAt.IsKeyLit (K.lit a) := K.keyed.key (K.mk' a ha)
variable [DecidableEq κ]

/-- The value of a key. -/
def look (V : List (κ × Value)) (k : κ) : Option Value := (V.find? fun p => decide (p.1 = k)).map (·.2)
/-- With a key's value written. -/
def setV (V : List (κ × Value)) (k : κ) (v : Value) : List (κ × Value) := if (look V k).isSome then V.map (fun p => if p.1 = k then (k, v) else p) else V ++ [(k, v)]
/-- Without a key. -/
def delV (V : List (κ × Value)) (k : κ) : List (κ × Value) := V.filter fun p => decide (p.1 ≠ k)

theorem look_none {V : List (κ × Value)} {k : κ} : look V k = none ↔ ∀ p ∈ V, p.1 ≠ k := by simp [look]
theorem look_mem {V : List (κ × Value)} {k : κ} {v : Value} (h : look V k = some v) : (k, v) ∈ V := by
  unfold look at h
  obtain ⟨p, hp, rfl⟩ := Option.map_eq_some_iff.1 h
  have h1 := List.find?_some hp
  have h2 := List.mem_of_find?_eq_some hp
  simp at h1
  rw [← h1]; exact h2
theorem look_of_mem {V : List (κ × Value)} (hn : (V.map (·.1)).Nodup) {k : κ} {v : Value} (h : (k, v) ∈ V) : look V k = some v := by
  induction V with
  | nil => cases h
  | cons p V ih =>
    simp only [List.map_cons, List.nodup_cons] at hn
    unfold look
    rw [List.find?_cons]
    by_cases e : p.1 = k
    · rw [decide_eq_true e]
      rcases List.mem_cons.1 h with h | h
      · rw [← h]; rfl
      · exact absurd (List.mem_map.2 ⟨_, h, e.symm⟩) hn.1
    · rw [decide_eq_false e]
      rcases List.mem_cons.1 h with h | h
      · rw [← h] at e; exact absurd rfl e
      · exact ih hn.2 h
theorem look_perm {V V' : List (κ × Value)} (hp : V.Perm V') (hn : (V.map (·.1)).Nodup) (k : κ) : look V k = look V' k := by
  have hn' : (V'.map (·.1)).Nodup := (hp.map _).nodup_iff.1 hn
  cases h : look V k with
  | none => symm; rw [look_none] at h ⊢; exact fun p hp' => h p (hp.mem_iff.2 hp')
  | some v => exact (look_of_mem hn' (hp.mem_iff.1 (look_mem h))).symm
theorem setV_keys (V : List (κ × Value)) (k : κ) (v : Value) : (setV V k v).map (·.1) = if (look V k).isSome then V.map (·.1) else V.map (·.1) ++ [k] := by
  unfold setV
  by_cases h : (look V k).isSome = true
  · rw [if_pos h, if_pos h, List.map_map]
    refine List.map_congr_left fun p _ => ?_
    by_cases e : p.1 = k <;> simp [e]
  · rw [if_neg h, if_neg h]; simp
theorem setV_nodup {V : List (κ × Value)} (hn : (V.map (·.1)).Nodup) (k : κ) (v : Value) : ((setV V k v).map (·.1)).Nodup := by
  rw [setV_keys]
  by_cases h : (look V k).isSome = true
  · rw [if_pos h]; exact hn
  · rw [if_neg h]
    have h' : look V k = none := by simpa using h
    rw [look_none] at h'
    refine List.nodup_append.2 ⟨hn, by simp, fun a ha b hb => ?_⟩
    obtain ⟨p, hp, rfl⟩ := List.mem_map.1 ha
    simp at hb
    rw [hb]
    exact h' p hp
theorem setV_length (V : List (κ × Value)) (k : κ) (v : Value) : (setV V k v).length = if (look V k).isSome then V.length else V.length + 1 := by
  unfold setV; split <;> simp
theorem look_setV {V : List (κ × Value)} (hn : (V.map (·.1)).Nodup) (k : κ) (v : Value) (k' : κ) : look (setV V k v) k' = if k' = k then some v else look V k' := by
  have hn' := setV_nodup hn k v
  by_cases e : k' = k
  · subst e
    rw [if_pos rfl]
    refine look_of_mem hn' ?_
    unfold setV
    by_cases h : (look V k').isSome = true
    · rw [if_pos h]
      obtain ⟨u, hu⟩ := Option.isSome_iff_exists.1 h
      exact List.mem_map.2 ⟨_, look_mem hu, by simp⟩
    · rw [if_neg h]; simp
  · rw [if_neg e]
    cases h : look V k' with
    | none =>
      rw [look_none] at h ⊢
      intro p hp
      unfold setV at hp
      split at hp
      · obtain ⟨q, hq, rfl⟩ := List.mem_map.1 hp
        by_cases e' : q.1 = k
        · simp [e']; exact fun h => e h.symm
        · simp [e']; exact h q hq
      · rcases List.mem_append.1 hp with hp | hp
        · exact h p hp
        · simp at hp; rw [hp]; exact fun h => e h.symm
    | some u =>
      refine look_of_mem hn' ?_
      have hm := look_mem h
      unfold setV
      split
      · exact List.mem_map.2 ⟨_, hm, by simp [e]⟩
      · exact List.mem_append_left _ hm
theorem delV_nodup {V : List (κ × Value)} (hn : (V.map (·.1)).Nodup) (k : κ) : ((delV V k).map (·.1)).Nodup := hn.sublist (List.filter_sublist.map _)
theorem look_delV {V : List (κ × Value)} (hn : (V.map (·.1)).Nodup) (k k' : κ) : look (delV V k) k' = if k' = k then none else look V k' := by
  by_cases e : k' = k
  · subst e
    rw [if_pos rfl, look_none]
    intro p hp
    simpa using (List.mem_filter.1 hp).2
  · rw [if_neg e]
    cases h : look V k' with
    | none =>
      rw [look_none] at h ⊢
      exact fun p hp => h p (List.mem_filter.1 hp).1
    | some u => exact look_of_mem (delV_nodup hn k) (List.mem_filter.2 ⟨look_mem h, by simpa using e⟩)
theorem delV_length {V : List (κ × Value)} (hn : (V.map (·.1)).Nodup) (k : κ) : (delV V k).length + (if (look V k).isSome then 1 else 0) = V.length := by
  induction V with
  | nil => rfl
  | cons p V ih =>
    simp only [List.map_cons, List.nodup_cons] at hn
    have h1 := ih hn.2
    by_cases e : p.1 = k
    · have h2 : look V k = none := by
        rw [look_none]
        intro q hq hqk
        exact hn.1 (List.mem_map.2 ⟨q, hq, hqk.trans e.symm⟩)
      have h3 : look (p :: V) k = some p.2 := by simp [look, e]
      rw [h2] at h1
      rw [h3]
      simp [delV, e] at h1 ⊢
      exact h1
    · have h3 : look (p :: V) k = look V k := by simp [look, e]
      rw [h3]
      have h4 : delV (p :: V) k = p :: delV V k := by simp [delV, e]
      rw [h4, List.length_cons, List.length_cons]
      omega

/-- What a map's datum says, as a list. -/
structure View (K : MKey P kt κ) (D : DataW Value) (V : List (κ × Value)) : Prop where
  map : Maps.IsMap D
  ok : ∀ p ∈ V, K.ok p.1
  nodup : (V.map (·.1)).Nodup
  at' : ∀ k, K.ok k → ∀ z, D.atKey (K.lit k) z = match look V k with | some v => .held v | none => z
  has : ∀ k, K.ok k → Maps.has D (K.lit k) = (look V k).isSome
  size : Maps.size D = V.length

/-- A map in memory reads as a list of keys with values. -/
def Mp (K : MKey P kt κ) (w : World) (b : Nat) (V : List (κ × Value)) : Prop := ∃ D, w.ownsMap P kt held b V.length D ∧ View K D V

theorem owns_fit {w : World} {R : Value → Option (DataW Value × List MemPlace)} {b n : Nat} {D : DataW Value} (h : w.ownsMap P kt R b n D) : w.ownsMap P kt R b (Maps.size D) D := by
  obtain ⟨es, clock, hb, F, hs, rfl⟩ := h
  exact ⟨es, clock, hb, F, by simp [Maps.size, length_sorted], rfl⟩

variable {K : MKey P kt κ} {w w' : World} {b r : Nat} {V : List (κ × Value)}
theorem View.nil : View K (.map []) [] := ⟨Maps.isMap_empty, by simp, by simp, fun _ _ _ => rfl, fun _ _ => rfl, rfl⟩
theorem View.put {D : DataW Value} (h : View K D V) (ht : Maps.Tidy D) {k : κ} (hk : K.ok k) (v : Value) : View K (D.put (K.lit k) (.held v)) (setV V k v) where
  map := h.map.put _ _
  ok := by
    intro p hp
    have : p.1 ∈ (setV V k v).map (·.1) := List.mem_map.2 ⟨p, hp, rfl⟩
    rw [setV_keys] at this
    split at this
    · obtain ⟨q, hq, e⟩ := List.mem_map.1 this; rw [← e]; exact h.ok q hq
    · rcases List.mem_append.1 this with this | this
      · obtain ⟨q, hq, e⟩ := List.mem_map.1 this; rw [← e]; exact h.ok q hq
      · simp at this; rw [this]; exact hk
  nodup := setV_nodup h.nodup k v
  at' := by
    intro k' hk' z
    rw [look_setV h.nodup]
    by_cases e : k' = k
    · subst e; rw [if_pos rfl, Maps.atKey_put_same h.map (K.key hk)]
    · rw [if_neg e, Maps.atKey_put_other (fun q => e (K.lit_inj hk' hk q)), h.at' k' hk']
  has := by
    intro k' hk'
    rw [look_setV h.nodup]
    by_cases e : k' = k
    · subst e; rw [if_pos rfl, Maps.has_put_same h.map (K.key hk)]; rfl
    · rw [if_neg e, Maps.has_put_other (fun q => e (K.lit_inj hk' hk q)), h.has k' hk']
  size := by rw [Maps.size_put ht, h.has k hk, setV_length, h.size]
theorem View.del {D : DataW Value} (h : View K D V) (ht : Maps.Tidy D) {k : κ} (hk : K.ok k) : View K (D.del (K.lit k)) (delV V k) where
  map := h.map.del _
  ok := fun p hp => h.ok p (List.mem_filter.1 hp).1
  nodup := delV_nodup h.nodup k
  at' := by
    intro k' hk' z
    rw [look_delV h.nodup]
    by_cases e : k' = k
    · subst e; rw [if_pos rfl, Maps.atKey_del_same]
    · rw [if_neg e, Maps.atKey_del_other (fun q => e (K.lit_inj hk' hk q)), h.at' k' hk']
  has := by
    intro k' hk'
    rw [look_delV h.nodup]
    by_cases e : k' = k
    · subst e; rw [if_pos rfl, Maps.has_del_same]; rfl
    · rw [if_neg e, Maps.has_del_other (fun q => e (K.lit_inj hk' hk q)), h.has k' hk']
  size := by
    have h1 := Maps.size_del (k := K.lit k) ht
    have h2 := delV_length h.nodup k
    rw [h.has k hk] at h1
    have h3 := h.size
    omega

theorem Mp.made (K : MKey P kt κ) (w : World) : Mp K (w.alloc (.map #[] 0)) w.heap.size [] := ⟨.map [], World.ownsMap_made w _ _ _, View.nil⟩
theorem Mp.lt (h : Mp K w b V) : b < w.heap.size := by obtain ⟨D, h1, _⟩ := h; exact h1.lt
theorem Mp.kept {row : Option Nat} (h : Mp K w b V) (hg : w.grownBy w' row) (hne : some b ≠ row) : Mp K w' b V := by obtain ⟨D, h1, h2⟩ := h; exact ⟨D, h1.kept hg hne, h2⟩
theorem Mp.same (h : Mp K w b V) (hb : w'.heap[b]? = w.heap[b]?) : Mp K w' b V := by
  obtain ⟨D, ⟨es, clock, h0, F, hs, hD⟩, h2⟩ := h
  exact ⟨D, ⟨es, clock, hb.trans h0, F, hs, hD⟩, h2⟩
theorem Mp.below (h : Mp K w b V) (hb : Below w.heap.size w w') : Mp K w' b V := h.same (hb.block b h.lt)
theorem Mp.nodup (h : Mp K w b V) : (V.map (·.1)).Nodup := by obtain ⟨D, _, h2⟩ := h; exact h2.nodup
theorem Mp.oks (h : Mp K w b V) : ∀ p ∈ V, K.ok p.1 := by obtain ⟨D, _, h2⟩ := h; exact h2.ok
theorem Mp.len {t e : TypeId} (h : Mp K w b V) (ht : P.underlying t = some (.map kt e)) (ty : TypeId) : (Builtin.len_ #[t] ty #[.map (some b)]).run P w = .ok (.int .i64 (V.length : Nat)) w := by
  obtain ⟨D, h1, h2⟩ := h
  rw [h1.len ht ty, h2.size]
theorem Mp.look1 {t e : TypeId} (h : Mp K w b V) (ht : P.underlying t = some (.map kt e)) {z : Value} (hz : (zeroValue e).run P w = .ok z w) {k : κ} (hk : K.ok k) :
    (Instr.lookup t (.map (some b)) (K.val k) false).run P w = .ok ((look V k).getD z) w := by
  obtain ⟨D, h1, h2⟩ := h
  obtain ⟨v, ps, hrun, hv⟩ := h1.lookup K.keyed ht hz (zd := .held z) (zp := []) rfl (K.mk' k hk)
  rw [hrun]
  rw [h2.at' k hk] at hv
  unfold held at hv
  cases hl : look V k with
  | none => rw [hl] at hv; simp at hv; rw [hv.1]; rfl
  | some u => rw [hl] at hv; simp at hv; rw [hv.1]; rfl
theorem Mp.look2 {t e : TypeId} (h : Mp K w b V) (ht : P.underlying t = some (.map kt e)) {z : Value} (hz : (zeroValue e).run P w = .ok z w) {k : κ} (hk : K.ok k) :
    (Instr.lookup t (.map (some b)) (K.val k) true).run P w = .ok (.tuple #[(look V k).getD z, .bool (look V k).isSome]) w := by
  obtain ⟨D, h1, h2⟩ := h
  obtain ⟨v, ps, hrun, hv⟩ := h1.look_ok K.keyed ht hz (zd := .held z) (zp := []) rfl (K.mk' k hk)
  rw [hrun, h2.has k hk]
  rw [h2.at' k hk] at hv
  unfold held at hv
  cases hl : look V k with
  | none => rw [hl] at hv; simp at hv; rw [hv.1]; rfl
  | some u => rw [hl] at hv; simp at hv; rw [hv.1]; rfl
theorem Mp.put {t e : TypeId} (h : Mp K w b V) (ht : P.underlying t = some (.map kt e)) (hn : V.length < maxLen) {k : κ} (hk : K.ok k) (v : Value) :
    ∃ w', (Instr.mapUpdate t (.map (some b)) (K.val k) v).run P w = .ok () w' ∧ Mp K w' b (setV V k v) ∧ w.grownBy w' (some b) ∧ w'.heap.size = w.heap.size := by
  obtain ⟨D, h1, h2⟩ := h
  obtain ⟨w', hrun, h3, h4⟩ := h1.store K.keyed ht hn (K.mk' k hk) (d := .held v) (ps := []) rfl
  have h5 := h2.put (h1.tidy K.keyed) hk v
  refine ⟨w', hrun, ⟨_, ?_, h5⟩, h4.grown, ?_⟩
  · rw [← h5.size]; exact owns_fit h3
  · obtain ⟨es, cl, es', cl', _, rfl⟩ := h4; simp [Go.ChangeMaps.setBlock]
theorem Mp.del {t e : TypeId} (h : Mp K w b V) (ht : P.underlying t = some (.map kt e)) {k : κ} (hk : K.ok k) (ty : TypeId) :
    ∃ w', (Builtin.delete_ #[t, kt] ty #[.map (some b), K.val k]).run P w = .ok (.tuple #[]) w' ∧ Mp K w' b (delV V k) ∧ w.grownBy w' (some b) ∧ w'.heap.size = w.heap.size := by
  obtain ⟨D, h1, h2⟩ := h
  obtain ⟨w', hrun, h3, h4⟩ := h1.drop K.keyed ht (K.mk' k hk) ty
  have h5 := h2.del (h1.tidy K.keyed) hk
  refine ⟨w', hrun, ⟨_, ?_, h5⟩, h4.grown, ?_⟩
  · rw [← h5.size]; exact owns_fit h3
  · obtain ⟨es, cl, es', cl', _, rfl⟩ := h4; simp [Go.ChangeMaps.setBlock]

/-- A range over a map under way: what is still to come. -/
def Mr (K : MKey P kt κ) (w : World) (b r : Nat) (V rest : List (κ × Value)) : Prop :=
  ∃ D left cnt, w.ranges P kt held b r V.length D left cnt ∧ View K D V ∧ (rest.map (·.1)).Nodup ∧ (∀ p ∈ rest, p ∈ V) ∧ ∀ k, K.ok k → left (K.lit k) = rest.any fun p => decide (p.1 = k)
theorem any_look (V : List (κ × Value)) (k : κ) : (V.any fun p => decide (p.1 = k)) = (look V k).isSome := by
  cases h : look V k with
  | none =>
    rw [look_none] at h
    show _ = false
    rw [List.any_eq_false]
    exact fun p hp => by simpa using h p hp
  | some v => exact List.any_eq_true.2 ⟨_, look_mem h, by simp⟩
theorem Mp.range {t e : TypeId} (h : Mp K w b V) (ht : P.underlying t = some (.map kt e)) :
    ∃ w', (Instr.range t (.map (some b))).run P w = .ok (.pointer (some ⟨w.heap.size, 0, none⟩)) w' ∧ Mr K w' b w.heap.size V V ∧ w.grownBy w' none ∧ w'.heap.size = w.heap.size + 1 := by
  obtain ⟨D, h1, h2⟩ := h
  obtain ⟨w', hrun, h3, h4, h5⟩ := h1.range K.keyed ht
  exact ⟨w', hrun, ⟨D, _, _, h3, h2, h2.nodup, fun _ h => h, fun k hk => by rw [h2.has k hk, any_look]⟩, h4, h5⟩
theorem Mr.owns {rest : List (κ × Value)} (h : Mr K w b r V rest) : Mp K w b V := by obtain ⟨D, _, _, h1, h2, _⟩ := h; exact ⟨D, h1.owns, h2⟩
theorem Mr.kept {rest : List (κ × Value)} {row : Option Nat} (h : Mr K w b r V rest) (hg : w.grownBy w' row) (hb : some b ≠ row) (hr : some r ≠ row) : Mr K w' b r V rest := by
  obtain ⟨D, l, c, h1, h2⟩ := h
  exact ⟨D, l, c, h1.kept hg hb hr, h2⟩
theorem Mr.lt {rest : List (κ × Value)} (h : Mr K w b r V rest) : r < w.heap.size := by obtain ⟨D, _, _, h1, _⟩ := h; exact h1.lt
theorem Mr.ne {rest : List (κ × Value)} (h : Mr K w b r V rest) : r ≠ b := by obtain ⟨D, _, _, h1, _⟩ := h; exact h1.ne
theorem Mr.left {rest : List (κ × Value)} (h : Mr K w b r V rest) (hg : w.grownBy w' none) : w'.rangeLeft b r = w.rangeLeft b r := by
  have h' := h.kept hg (by simp) (by simp)
  obtain ⟨D, l, c, h1, _⟩ := h
  have h2 := h1.kept hg (by simp) (by simp)
  rw [h1.left_eq, h2.left_eq]
theorem Mr.left_row {rest : List (κ × Value)} {row : Option Nat} (h : Mr K w b r V rest) (hg : w.grownBy w' row) (hb : some b ≠ row) (hr : some r ≠ row) : w'.rangeLeft b r = w.rangeLeft b r := by
  obtain ⟨D, l, c, h1, _⟩ := h
  have h2 := h1.kept hg hb hr
  rw [h1.left_eq, h2.left_eq]
theorem Mr.next {rest : List (κ × Value)} (h : Mr K w b r V rest) (ty : TypeId) :
    (rest = [] ∧ (Instr.next (.pointer (some ⟨r, 0, none⟩)) false ty).run P w = .ok (.tuple #[.bool false]) w) ∨
    ∃ k v r1 r2 w', rest = r1 ++ (k, v) :: r2 ∧ K.ok k ∧ (k, v) ∈ V ∧ (Instr.next (.pointer (some ⟨r, 0, none⟩)) false ty).run P w = .ok (.tuple #[.bool true, K.val k, v]) w' ∧ Mr K w' b r V (r1 ++ r2) ∧ w'.rangeLeft b r < w.rangeLeft b r ∧
      w.grownBy w' (some r) ∧ w'.heap.size = w.heap.size ∧ (Instr.entry (.pointer (some ⟨r, 0, none⟩))).run P w' = .ok (.tuple #[K.val k, v]) w' := by
  obtain ⟨D, left, cnt, h1, h2, h3, h4, h5⟩ := h
  rcases h1.next K.keyed ty with ⟨h0, hl, hrun⟩ | ⟨key, v, kl, y, w', cnt', hkey, hlk, hv, hat, hrun, hrg, hlt, hgr, hsz, hen⟩
  · refine .inl ⟨?_, hrun⟩
    cases rest with
    | nil => rfl
    | cons p rest =>
      have := h5 p.1 (h2.ok p (h4 p (by simp)))
      rw [hl] at this
      simp at this
  · obtain ⟨k, hk, rfl⟩ := K.inv key kl hkey
    obtain rfl : K.lit k = kl := by have := K.mk' k hk; rw [hkey] at this; exact (Option.some.inj this).symm
    cases hv
    have hlook : look V k = some v := by
      have := hat .nil
      rw [h2.at' k hk] at this
      cases hq : look V k with
      | none => rw [hq] at this; cases this
      | some u => rw [hq] at this; cases this; rfl
    rw [h5 k hk, List.any_eq_true] at hlk
    obtain ⟨p, hp, hpk⟩ := hlk
    have hpv : p = (k, v) := by
      have e : p.1 = k := by simpa using hpk
      have h6 := look_of_mem (k := p.1) (v := p.2) h2.nodup (h4 p hp)
      rw [e, hlook] at h6
      cases p
      simp at e h6
      rw [e, h6]
    subst hpv
    obtain ⟨r1, r2, hr⟩ := List.append_of_mem hp
    refine .inr ⟨k, v, r1, r2, w', hr, hk, h4 _ hp, hrun, ⟨D, _, cnt', hrg, h2, ?_, ?_, ?_⟩, ?_, hgr, hsz, hen⟩
    · rw [hr] at h3
      rw [List.map_append, List.map_cons] at h3
      rw [List.map_append]
      exact h3.sublist (List.Sublist.append_left (List.sublist_cons_self _ _) _)
    · intro q hq
      refine h4 q ?_
      rw [hr]
      rcases List.mem_append.1 hq with h | h
      · exact List.mem_append_left _ h
      · exact List.mem_append_right _ (List.mem_cons_of_mem _ h)
    · intro k' hk'
      show (left (K.lit k') && !(K.lit k').sameKey (K.lit k)) = _
      rw [h5 k' hk', hr]
      by_cases e : k' = k
      · subst e
        rw [WideAt.sameKey_self (K.key hk)]
        rw [hr, List.map_append, List.map_cons, List.nodup_append] at h3
        obtain ⟨_, g2, g3⟩ := h3
        rw [List.nodup_cons] at g2
        have e1 : (r1.any fun p => decide (p.1 = k')) = false := by
          rw [List.any_eq_false]
          intro q hq
          simp
          exact fun e => g3 q.1 (List.mem_map.2 ⟨q, hq, rfl⟩) k' (by simp) e
        have e2 : (r2.any fun p => decide (p.1 = k')) = false := by
          rw [List.any_eq_false]
          intro q hq
          simp
          exact fun e => g2.1 (List.mem_map.2 ⟨q, hq, e⟩)
        simp [List.any_append, e1, e2]
      · have hs : (K.lit k').sameKey (K.lit k) = false := Maps.sameKey_ne fun q => e (K.lit_inj hk' hk q)
        rw [hs]
        have e' : decide (k = k') = false := by simp; exact fun q => e q.symm
        simp [List.any_append, List.any_cons, e']
    · rw [h1.left_eq, hrg.left_eq]; exact hlt
end

/-! ### at the operation -/
section
variable {P : Program} {kt : TypeId} {κ : Type} [DecidableEq κ] {K : MKey P kt κ} {w : World} {ops : Array Oper} {rest : List Oper} {o : Oper} {a : Act} {Q : Exit → Act → World → Prop} {b : Nat} {V : List (κ × Value)}

theorem wpList_mp_look (hg : o.guard = none) (m x : Operand) (t e : TypeId) (hop : o.op = Op.lookup t m x false) (ht : P.underlying t = some (.map kt e)) (z : Value) (hz : (zeroValue e).run P w = .ok z w)
    (hm : a.eval m = .map (some b)) (h : Mp K w b V) (k : κ) (hk : K.ok k) (hx : a.eval x = K.val k) (u : Value) (hu : (look V k).getD z = u)
    (hK : wpList P ops Q rest (a.put o.dst u) w) : wpList P ops Q (o :: rest) a w := by
  refine wpList_plain hg fun K' hK' => ?_
  have hrun := h.look1 ht hz hk
  rw [hu] at hrun
  unfold Oper.wp
  simp [execOp, hop, hm, hx, hrun, Result.andThen]
  exact hK' _ _ hK
theorem wpList_mp_look2 (hg : o.guard = none) (m x : Operand) (t e : TypeId) (hop : o.op = Op.lookup t m x true) (ht : P.underlying t = some (.map kt e)) (z : Value) (hz : (zeroValue e).run P w = .ok z w)
    (hm : a.eval m = .map (some b)) (h : Mp K w b V) (k : κ) (hk : K.ok k) (hx : a.eval x = K.val k) (u : Value) (hu : (look V k).getD z = u) (c : Bool) (hc : (look V k).isSome = c)
    (hK : wpList P ops Q rest (a.put o.dst (.tuple #[u, .bool c])) w) : wpList P ops Q (o :: rest) a w := by
  refine wpList_plain hg fun K' hK' => ?_
  have hrun := h.look2 ht hz hk
  rw [hu, hc] at hrun
  unfold Oper.wp
  simp [execOp, hop, hm, hx, hrun, Result.andThen]
  exact hK' _ _ hK
theorem wpList_mp_put (hg : o.guard = none) (m x v : Operand) (t e : TypeId) (hop : o.op = Op.mapUpdate t m x v) (ht : P.underlying t = some (.map kt e))
    (hm : a.eval m = .map (some b)) (h : Mp K w b V) (hn : V.length < maxLen) (k : κ) (hk : K.ok k) (hx : a.eval x = K.val k) (u : Value) (hv : a.eval v = u)
    (hK : ∀ w', Mp K w' b (setV V k u) → w.grownBy w' (some b) → w'.heap.size = w.heap.size → wpList P ops Q rest (a.put o.dst undef) w') : wpList P ops Q (o :: rest) a w := by
  refine wpList_plain hg fun K' hK' => ?_
  obtain ⟨w', hrun, r1, r2, r3⟩ := h.put ht hn hk u
  unfold Oper.wp
  simp [execOp, hop, hm, hx, hv, hrun, Result.andThen]
  exact hK' _ _ (hK w' r1 r2 r3)
theorem wpList_mp_del (hg : o.guard = none) (m x : Operand) (t e : TypeId) (hop : o.op = Op.call { callee := Callee.builtin Builtin.delete, args := #[m, x], argTypes := #[t, kt] }) (ht : P.underlying t = some (.map kt e))
    (hm : a.eval m = .map (some b)) (h : Mp K w b V) (k : κ) (hk : K.ok k) (hx : a.eval x = K.val k)
    (hK : ∀ w', Mp K w' b (delV V k) → w.grownBy w' (some b) → w'.heap.size = w.heap.size → wpList P ops Q rest (a.put o.dst (.tuple #[])) w') : wpList P ops Q (o :: rest) a w := by
  refine wpList_plain hg fun K' hK' => ?_
  obtain ⟨w', hrun, r1, r2, r3⟩ := h.del ht hk o.type
  unfold Oper.wp
  simp [execOp, hop, resolve, invoke, builtin, hm, hx, hrun, Result.andThen]
  exact hK' _ _ (hK w' r1 r2 r3)
theorem wpList_mp_range (hg : o.guard = none) (m : Operand) (t e : TypeId) (hop : o.op = Op.range t m) (ht : P.underlying t = some (.map kt e)) (hm : a.eval m = .map (some b)) (h : Mp K w b V)
    (hK : ∀ w', Mr K w' b w.heap.size V V → w.grownBy w' none → w'.heap.size = w.heap.size + 1 → wpList P ops Q rest (a.put o.dst (.pointer (some ⟨w.heap.size, 0, none⟩))) w') : wpList P ops Q (o :: rest) a w := by
  refine wpList_plain hg fun K' hK' => ?_
  obtain ⟨w', hrun, r1, r2, r3⟩ := h.range ht
  unfold Oper.wp
  simp [execOp, hop, hm, hrun, Result.andThen]
  exact hK' _ _ (hK w' r1 r2 r3)
theorem wpList_mp_next (hg : o.guard = none) (it : Operand) (hop : o.op = Op.next it false) {r : Nat} {left : List (κ × Value)} (hit : a.eval it = .pointer (some ⟨r, 0, none⟩)) (h : Mr K w b r V left)
    (hDone : left = [] → wpList P ops Q rest (a.put o.dst (.tuple #[.bool false])) w)
    (hMore : ∀ k v r1 r2 w', left = r1 ++ (k, v) :: r2 → K.ok k → (k, v) ∈ V → Mr K w' b r V (r1 ++ r2) → w'.rangeLeft b r < w.rangeLeft b r → w.grownBy w' (some r) → w'.heap.size = w.heap.size →
      (Instr.entry (.pointer (some ⟨r, 0, none⟩))).run P w' = .ok (.tuple #[K.val k, v]) w' → wpList P ops Q rest (a.put o.dst (.tuple #[.bool true, K.val k, v])) w') : wpList P ops Q (o :: rest) a w := by
  refine wpList_plain hg fun K' hK' => ?_
  unfold Oper.wp
  rcases h.next o.type with ⟨h0, hrun⟩ | ⟨k, v, r1, r2, w', h1, h2, h3, hrun, h4, h5, h6, h7, h8⟩
  · simp [execOp, hop, hit, hrun, Result.andThen]
    exact hK' _ _ (hDone h0)
  · simp [execOp, hop, hit, hrun, Result.andThen]
    exact hK' _ _ (hMore k v r1 r2 w' h1 h2 h3 h4 h5 h6 h7 h8)
end

/-- Keys that are texts. -/
noncomputable def strKey {P : Program} {kt : TypeId} (hk : P.underlying kt = some .string) : MKey P kt ByteArray where
  ok := fun s => s.size ≤ maxLen
  val := fun s => .string s
  lit := fun s => .string s.data.toList
  keyed := Maps.string_keyed hk
  mk' := fun s hs => WideMaps.keyOf_string_mk hk hs
  inv := fun v l h => by
    obtain ⟨x, h1, h2, h3⟩ := Maps.keyOf_str hk h
    exact ⟨⟨x.toArray⟩, by simpa [ByteArray.size] using h3, h1⟩
  inj := fun a b h => by injection h
end Go.Proofs.Ytidfogcilegloaa
