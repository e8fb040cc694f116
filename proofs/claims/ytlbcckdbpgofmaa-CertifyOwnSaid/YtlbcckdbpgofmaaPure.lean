import Derived.Test.YtlbcckdbpgofmaaProg
import Derived.Laws.Strings
/-!
  The plain law of what may stand behind others, as functions of lists.
-/
namespace Go.Proofs.Ytlbcckdbpgofmaa
open Go.Op (bytesLess)

structure Pair where
  key : ByteArray
  val : ByteArray
  dead : Bool
structure Rd where
  scan : Bool
  key : ByteArray
  to : ByteArray
  pairs : List Pair
structure Rec where
  sess : Int
  snap : Int
  strict : Bool
  reads : List Rd
  writes : List Pair

/-! ### Texts are ordered -/
theorem bl_irrefl : ∀ x : List UInt8, bytesLess x x = false
  | [] => rfl
  | a :: x => by simp [bytesLess, bl_irrefl x]
theorem bl_trans : ∀ {x y z : List UInt8}, bytesLess x y = true → bytesLess y z = true → bytesLess x z = true
  | [], [], _, h, _ => by simp [bytesLess] at h
  | _ :: _, [], _, h, _ => by simp [bytesLess] at h
  | [], _ :: _, [], _, h => by simp [bytesLess] at h
  | [], _ :: _, _ :: _, _, _ => rfl
  | _ :: _, _ :: _, [], _, h => by simp [bytesLess] at h
  | a :: x, b :: y, c :: z, h, k => by
    simp only [bytesLess, Bool.or_eq_true, Bool.and_eq_true, decide_eq_true_eq, beq_iff_eq] at h k ⊢
    rcases h with h | ⟨rfl, h⟩
    · rcases k with k | ⟨rfl, k⟩
      · exact .inl (UInt8.lt_trans h k)
      · exact .inl h
    · rcases k with k | ⟨rfl, k⟩
      · exact .inl k
      · exact .inr ⟨rfl, bl_trans h k⟩
theorem bl_total : ∀ {x y : List UInt8}, bytesLess x y = false → bytesLess y x = false → x = y
  | [], [], _, _ => rfl
  | _ :: _, [], _, h => by simp [bytesLess] at h
  | [], _ :: _, h, _ => by simp [bytesLess] at h
  | a :: x, b :: y, h, k => by
    simp only [bytesLess, Bool.or_eq_false_iff, Bool.and_eq_false_iff, decide_eq_false_iff_not] at h k
    have e : a = b := UInt8.le_antisymm (UInt8.not_lt.1 k.1) (UInt8.not_lt.1 h.1)
    subst e
    have h2 : bytesLess x y = false := by rcases h.2 with h | h; · simp at h
                                          · exact h
    have k2 : bytesLess y x = false := by rcases k.2 with h | h; · simp at h
                                          · exact h
    rw [bl_total h2 k2]
/-- Not below goes on upwards. -/
theorem bl_up {x y z : List UInt8} (h : bytesLess x y = false) (k : bytesLess z x = false) : bytesLess z y = false := by
  cases hz : bytesLess z y
  · rfl
  · cases hq : bytesLess y x
    · rw [bl_total h hq] at k; rw [hz] at k; cases k
    · have := bl_trans hz hq; rw [k] at this; cases this

def hit (x : Rd) (p : Pair) : Bool := if x.scan then !bytesLess p.key.toList x.key.toList && bytesLess p.key.toList x.to.toList else p.key.toList == x.key.toList
def wrote (l : List Pair) (k : ByteArray) : Bool := l.any fun p => p.key.toList == k.toList
def touches (l : List Pair) (x : Rd) : Bool := l.any (hit x)
def idx {α : Type} (p : α → Bool) (l : List α) : Int := if l.any p then ((l.takeWhile fun x => !p x).length : Nat) else -1
def clash (ws : List Pair) (later : List Rec) : Int := idx (fun o => ws.any fun p => wrote o.writes p.key) later
def stale (rs : List Rd) (later : List Rec) : Int := idx (fun o => rs.any fun x => touches o.writes x) later
def mayNot (r : Rec) (later : List Rec) : Bool := decide (0 ≤ clash r.writes later) || (r.strict && decide (0 ≤ stale r.reads later))
/-- Do the keys rise? -/
def rises : List Pair → Bool
  | [] => true
  | [_] => true
  | a :: b :: l => !bytesLess b.key.toList a.key.toList && rises (b :: l)
def Pair.zero : Pair := ⟨⟨#[]⟩, ⟨#[]⟩, false⟩

theorem rises_tail {p : Pair} {l : List Pair} (h : rises (p :: l) = true) : rises l = true := by
  cases l with
  | nil => rfl
  | cons q l => simp only [rises, Bool.and_eq_true] at h; exact h.2
theorem rises_le : ∀ {l : List Pair} {p : Pair}, rises (p :: l) = true → ∀ q ∈ l, bytesLess q.key.toList p.key.toList = false
  | [], _, _, q, hq => by cases hq
  | r :: l, p, h, q, hq => by
    have h0 := h
    simp only [rises, Bool.and_eq_true, Bool.not_eq_true'] at h
    rcases List.mem_cons.1 hq with rfl | hq
    · exact h.1
    · exact bl_up h.1 (rises_le h.2 q hq)
theorem rises_mono {l : List Pair} (h : rises l = true) {i j : Nat} (hij : i ≤ j) {x y : Pair} (hi : l[i]? = some x) (hj : l[j]? = some y) : bytesLess y.key.toList x.key.toList = false := by
  induction l generalizing i j with
  | nil => simp at hi
  | cons p l ih =>
    cases i with
    | zero =>
      simp at hi; subst hi
      cases j with
      | zero => simp at hj; subst hj; exact bl_irrefl _
      | succ j => exact rises_le h y (List.mem_of_getElem? (by simpa using hj))
    | succ i =>
      cases j with
      | zero => omega
      | succ j => exact ih (i := i) (j := j) (rises_tail h) (by omega) (by simpa using hi) (by simpa using hj)
/-- The row of steps says whether keys rise. -/
theorem rises_iff {l : List Pair} : rises l = true ↔ ∀ i x y, l[i]? = some x → l[i + 1]? = some y → bytesLess y.key.toList x.key.toList = false := by
  induction l with
  | nil => exact ⟨fun _ i x y h => by simp at h, fun _ => rfl⟩
  | cons p l ih =>
    cases l with
    | nil => exact ⟨fun _ i x y h k => by simp at k, fun _ => rfl⟩
    | cons q l =>
      rw [rises, Bool.and_eq_true, ih]
      constructor
      · rintro ⟨h0, h1⟩ i x y hx hy
        cases i with
        | zero => simp at hx hy; subst hx hy; simpa using h0
        | succ i => exact h1 i x y (by simpa using hx) (by simpa using hy)
      · intro h
        exact ⟨by simpa using h 0 p q rfl rfl, fun i x y hx hy => h (i + 1) x y (by simpa using hx) (by simpa using hy)⟩
/-- What any at all does, the first that is not below a text does, where keys rise. -/
theorem any_first {l : List Pair} {q : ByteArray → Bool} {i : Nat} (hi : i ≤ l.length)
    (h1 : ∀ j x, j < i → l[j]? = some x → q x.key = false) (h2 : ∀ x, l[i]? = some x → q x.key = false → ∀ j y, i ≤ j → l[j]? = some y → q y.key = false) :
    (l.any fun p => q p.key) = (match l[i]? with | some x => q x.key | none => false) := by
  cases hx : l[i]? with
  | none =>
    rw [List.any_eq_false]
    intro p hp
    obtain ⟨j, hj, rfl⟩ := List.getElem_of_mem hp
    have := List.getElem?_eq_none_iff.1 hx
    simpa using h1 j _ (by omega) (List.getElem?_eq_getElem hj)
  | some x =>
    cases hq : q x.key with
    | true =>
      show (l.any fun p => q p.key) = q x.key
      rw [hq]
      exact List.any_eq_true.2 ⟨x, List.mem_of_getElem? hx, hq⟩
    | false =>
      show (l.any fun p => q p.key) = q x.key
      rw [hq, List.any_eq_false]
      intro p hp
      obtain ⟨j, hj, rfl⟩ := List.getElem_of_mem hp
      by_cases hji : j < i
      · simpa using h1 j _ hji (List.getElem?_eq_getElem hj)
      · simpa using h2 x hx hq j _ (by omega) (List.getElem?_eq_getElem hj)
theorem idx_nil {α : Type} (p : α → Bool) : idx p [] = -1 := rfl
end Go.Proofs.Ytlbcckdbpgofmaa
