import Derived.Test.YtidjcdfdfbomiaaProg
import Derived.Laws.Strings
/-! What sessions want, side by side, as functions of lists. -/
namespace Go.Proofs.Ytidjcdfdfbomiaa

structure HOp where
  kind : Int
  sess : Int
  strict : Bool
  key : ByteArray
  val : ByteArray
  n : Int
structure Plan where
  sess : Int
  ops : List HOp

/-- May plans be, behind some sessions? -/
def goodGo : List Int → List Plan → Bool
  | _, [] => true
  | S, p :: l => decide (1 ≤ p.sess) && (decide (p.sess ≤ 8) && (!S.contains p.sess && (decide (p.ops.length ≤ 200) && ((p.ops.all fun o => o.sess == p.sess) && goodGo (p.sess :: S) l))))
def good (l : List Plan) : Bool := decide (l.length ≤ 64) && goodGo [] l
theorem goodGo_step {l : List Plan} {j : Nat} {p : Plan} (S : List Int) (h : l[j]? = some p) :
    goodGo S (l.drop j) = (decide (1 ≤ p.sess) && (decide (p.sess ≤ 8) && (!S.contains p.sess && (decide (p.ops.length ≤ 200) && ((p.ops.all fun o => o.sess == p.sess) && goodGo (p.sess :: S) (l.drop (j + 1))))))) := by
  obtain ⟨hj, e⟩ := List.getElem?_eq_some_iff.1 h
  rw [List.drop_eq_getElem_cons hj, e]; rfl
theorem goodGo_end {l : List Plan} {j : Nat} (S : List Int) (h : l.length ≤ j) : goodGo S (l.drop j) = true := by rw [List.drop_of_length_le h]; rfl
end Go.Proofs.Ytidjcdfdfbomiaa
