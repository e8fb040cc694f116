import Derived.Test.YtidfogcilegloaaC1
import Derived.Laws.StructEq
import Derived.Maps.Own
import Derived.Maps.OwnOps
import Derived.Maps.Views
import Derived.DeepKeys4
namespace Go.Proofs.Ytidfogcilegloaa.C
open Go.RowKit Go.Op
open Go.Maps (Keyed)

/-- Lists alike, element by element. -/
def alike {α : Type} (q : α → α → Bool) : List α → List α → Bool
  | [], [] => true
  | a :: l, b :: m => q a b && alike q l m
  | _, _ => false
theorem alike_step {α : Type} {q : α → α → Bool} : ∀ {l m : List α} {j : Nat} {x y : α}, l[j]? = some x → m[j]? = some y → alike q (l.drop j) (m.drop j) = (q x y && alike q (l.drop (j + 1)) (m.drop (j + 1)))
  | [], _, _, _, _, h, _ => by simp at h
  | _ :: _, [], _, _, _, _, h => by simp at h
  | a :: l, b :: m, 0, x, y, h, k => by simp at h k; subst h k; rfl
  | a :: l, b :: m, j + 1, x, y, h, k => by simpa using alike_step (l := l) (m := m) (j := j) (by simpa using h) (by simpa using k)
theorem alike_end {α : Type} {q : α → α → Bool} {l m : List α} {j : Nat} (h : l.length ≤ j) (k : m.length ≤ j) : alike q (l.drop j) (m.drop j) = true := by
  rw [List.drop_of_length_le h, List.drop_of_length_le k]; rfl
theorem alike_len {α : Type} {q : α → α → Bool} : ∀ {l m : List α}, l.length ≠ m.length → alike q l m = false
  | [], [], h => by simp at h
  | [], _ :: _, _ => rfl
  | _ :: _, [], _ => rfl
  | a :: l, b :: m, h => by rw [alike, alike_len (by simpa using h), Bool.and_false]
def samePair (p q : Pair) : Bool := p.key.toList == q.key.toList && (p.val.toList == q.val.toList && p.dead == q.dead)
def samePairs : List Pair → List Pair → Bool := alike samePair

theorem guard37 : Try.prog.eqGuardType Try.prog.depth 68 = false := by kernel_rfl
theorem stood37 : Try.prog.stoodInHeld 68 = false := by kernel_rfl
theorem run_neq_pair (p q : Pair) (W : World) : (Go.binOp .neq 68 (.agg #[.string p.key, .string p.val, .bool p.dead]) (.agg #[.string q.key, .string q.val, .bool q.dead])).run Try.prog W = .ok (.bool (!samePair p q)) W := by
  have hst : Try.prog.underlying 68 = some (.struct (Try.prog.fieldsOf 68)) := by rw [Program.fieldsOf, Try.underlying68]
  have u9 := Try.underlying9
  have u4 := Try.underlying4
  rw [run_neq_struct, run_equalIn_struct _ _ _ _ _ hst stood37]
  simp only [Program.fieldsOf, Try.underlying68]
  unfold samePair
  cases hk : p.key.toList == q.key.toList <;> cases hv : p.val.toList == q.val.toList <;> cases hd : p.dead == q.dead <;>
  simp [Op.eqFields, go_sem, part, u9, u4, hk, hv, hd]

def sameRd (x y : Rd) : Bool := x.scan == y.scan && (x.key.toList == y.key.toList && (x.to.toList == y.to.toList && samePairs x.pairs y.pairs))
def sameRds : List Rd → List Rd → Bool := alike sameRd


theorem laid58 : laidOutB Try.prog = true := by kernel_rfl
theorem row58 : (112 : TypeId) < Try.prog.types.size := of_decide_eq_true (by kernel_rfl)
theorem wide58 : (match Try.prog.underlying 112 with | some (.array _ _) | some (.struct _) => true | _ => false) = true := by rw [Try.underlying112]
set_option maxRecDepth 100000 in
theorem keyed58 : Keyed Try.prog 112 := Keyed.of_law (deep_law_laid laid58 (m := 2) (by omega) row58 (by kernel_rfl) wide58)
def kl (s : Bool) (k : ByteArray) : Lit := .string (keyBytes [.bool s, .string k.data.toList])
theorem keyType58 : Try.prog.keyType 112 = true := by kernel_rfl
theorem cells58 : Try.prog.cellsOf 112 = 2 := by kernel_rfl
set_option maxRecDepth 100000 in
theorem key_mk (s : Bool) (k : ByteArray) (hk : k.size ≤ maxLen) : keyOf Try.prog 112 (.agg #[.bool s, .string k]) = some (kl s k) := by
  unfold keyOf
  simp only [Try.underlying112, keyType58, Bool.true_and]
  have hf : Value.formed Try.prog 112 (Value.agg #[.bool s, .string k]) = true := by simp [Value.formed, Try.underlying112, cells58]
  obtain ⟨d, hd⟩ : ∃ d, Try.prog.types.size = d + 1 := ⟨Try.prog.types.size - 1, by have h : (112 : Nat) < Try.prog.types.size := row58; omega⟩
  rw [if_pos hf, hd]
  have c4 : Try.prog.cellsOf 4 = 1 := by kernel_rfl
  have c9 : Try.prog.cellsOf 9 = 1 := by kernel_rfl
  simp [Program.keyLits, Try.underlying112, cells58, Value.cells, Try.underlying4, Try.underlying9, c4, c9, hk, kl, List.mapM_cons]

theorem kl_inj {s s' : Bool} {k k' : ByteArray} (hk : k.size ≤ maxLen) (hk' : k'.size ≤ maxLen) (h : kl s k = kl s' k') : s = s' ∧ k = k' := by
  have e := keyed58.inj (key_mk s k hk) (by rw [h]; exact key_mk s' k' hk')
  simp at e
  exact e
theorem kl_key (s : Bool) (k : ByteArray) : WideAt.IsKeyLit (kl s k) := trivial

/-- Is a key among those that came? -/
def seenIn (S : List (Bool × ByteArray)) (s : Bool) (k : ByteArray) : Bool := S.any fun y => y.1 == s && y.2.toList == k.toList
def Seen (w : World) (b n : Nat) (S : List (Bool × ByteArray)) : Prop :=
  ∃ D : DataW Unit, w.ownsMap Try.prog 112 (plainElem Try.prog 4) b n D ∧ Maps.IsMap D ∧ ∀ s k, k.size ≤ maxLen → D.atKey (kl s k) (.lit (.bool false)) = .lit (.bool (seenIn S s k))
theorem Seen.made (w : World) : Seen (w.alloc (.map #[] 0)) w.heap.size 0 [] :=
  ⟨.map [], World.ownsMap_made w _ _ _, Maps.isMap_empty, fun _ _ _ => rfl⟩
theorem Seen.kept {w w' : World} {b n : Nat} {S : List (Bool × ByteArray)} {row : Option Nat} (h : Seen w b n S) (hg : w.grownBy w' row) (hne : some b ≠ row) : Seen w' b n S := by
  obtain ⟨D, h1, h2, h3⟩ := h
  exact ⟨D, h1.kept hg hne, h2, h3⟩
theorem Seen.below {w w' : World} {b n : Nat} {S : List (Bool × ByteArray)} (h : Seen w b n S) (hb : Below w.heap.size w w') : Seen w' b n S :=
  h.kept (row := none) ⟨hb.os, hb.tape, hb.output, hb.size, fun k hk _ => hb.block k hk⟩ (by simp)
theorem Seen.lt {w : World} {b n : Nat} {S : List (Bool × ByteArray)} (h : Seen w b n S) : b < w.heap.size := by
  obtain ⟨D, h1, _⟩ := h
  exact h1.lt
theorem Seen.look {w : World} {b n : Nat} {S : List (Bool × ByteArray)} (h : Seen w b n S) (s : Bool) (k : ByteArray) (hk : k.size ≤ maxLen) :
    (Instr.lookup 110 (.map (some b)) (.agg #[.bool s, .string k]) false).run Try.prog w = .ok (.bool (seenIn S s k)) w := by
  obtain ⟨D, h1, h2, h3⟩ := h
  obtain ⟨v, ps, hrun, hv⟩ := h1.lookup keyed58 Try.underlying110 (z := .bool false) (by kernel_rfl) (plainElem_bool Try.underlying4 false) (key_mk s k hk)
  rw [h3 s k hk] at hv
  rw [hrun]
  cases v <;> simp [plainElem, Try.underlying4] at hv
  rw [hv.1]
theorem seen_put {D : DataW Unit} {S : List (Bool × ByteArray)} (h2 : Maps.IsMap D) (h3 : ∀ s k, k.size ≤ maxLen → D.atKey (kl s k) (.lit (.bool false)) = .lit (.bool (seenIn S s k))) (s : Bool) (k : ByteArray) (hk : k.size ≤ maxLen) :
    ∀ s' k', k'.size ≤ maxLen → (D.put (kl s k) (.lit (.bool true))).atKey (kl s' k') (.lit (.bool false)) = .lit (.bool (seenIn ((s, k) :: S) s' k')) := by
  intro s' k' hk'
  by_cases h : s = s' ∧ k = k'
  · obtain ⟨rfl, rfl⟩ := h
    rw [Maps.atKey_put_same h2 (kl_key s k)]
    simp [seenIn]
  · rw [Maps.atKey_put_other (fun e => h (by obtain ⟨e1, e2⟩ := kl_inj hk' hk e; exact ⟨e1.symm, e2.symm⟩)), h3 s' k' hk']
    congr 2
    have e : (s == s' && k.toList == k'.toList) = false := by
      cases hq : (s == s' && k.toList == k'.toList) with
      | false => rfl
      | true =>
        simp at hq
        exact absurd ⟨hq.1, bytes_eq hq.2⟩ h
    simp only [seenIn, List.any_cons, e, Bool.false_or]

theorem wpList_seen {w : World} {ops : Array Oper} {rest : List Oper} {o : Oper} {a : Act} {Q : Exit → Act → World → Prop} (hg : o.guard = none) (m x v : Operand) (hop : o.op = Op.mapUpdate 110 m x v)
    {b n : Nat} {S : List (Bool × ByteArray)} (hm : a.eval m = .map (some b)) (h : Seen w b n S) (hn : n < maxLen) {s : Bool} {k : ByteArray} (hk : k.size ≤ maxLen) (hx : a.eval x = .agg #[.bool s, .string k]) (hv : a.eval v = .bool true)
    (hK : ∀ w', Seen w' b (n + 1) ((s, k) :: S) → w.grownBy w' (some b) → wpList Try.prog ops Q rest (a.put o.dst undef) w') : wpList Try.prog ops Q (o :: rest) a w := by
  obtain ⟨D, h1, h2, h3⟩ := h
  exact wpList_mapUpdate_own w hg m x v 110 hop 112 4 keyed58 Try.underlying110 _ b n D hm h1 hn _ _ (kl s k) hx hv (key_mk s k hk) (.lit (.bool true)) [] (plainElem_bool Try.underlying4 true)
    fun w' k1 k2 => hK w' ⟨_, k1, h2.put _ _, seen_put h2 h3 s k hk⟩ k2

/-- The reads without those of a key that came before. -/
def keep : List (Bool × ByteArray) → List Rd → List Rd
  | _, [] => []
  | S, x :: l => (if x.scan || !seenIn S x.scan x.key then [x] else []) ++ keep ((x.scan, x.key) :: S) l
end Go.Proofs.Ytidfogcilegloaa.C
