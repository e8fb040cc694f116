import Derived.Test.YtnleldogmogkgaaW31
import Derived.Test.YtnleldogmogkgaaW23
/-! What was told stays, whatever is done to a store. -/
namespace Go.Proofs.Ytnleldogmogkgaa
open Go.RowKit Go.Op

def eE : ByteArray := ⟨#[]⟩
def eF : ByteArray := ⟨#[255, 255]⟩
/-- What all keys had at a snapshot, as it was told. -/
structure KeepAt (W : World) (X : List Nat) (S : Sto) (s : Int) (v : Value) : Prop where
  fl : S.floor ≤ s
  le : s ≤ S.last
  sl : Sl tPair W (· ∉ X) v ((scan S.ents eE eF s).take 1000)
section
variable {w W W' : World} {pb mb : Nat} {kv : Value} {X X' : List Nat} {S : Sto} {s : Int} {v : Value}
theorem KeepAt.below (h : KeepAt W X S s v) (hb : Below W.heap.size W W') : KeepAt W' X S s v := ⟨h.fl, h.le, h.sl.below hb⟩
theorem My.keepSl {α : Type} {t : Ty α} {l : List α} (h : My w W pb mb kv X S) (hc : Chg pb mb kv W W') (hx : Xin W X X') (hs : Sl t W (· ∉ X) v l) : Sl t W' (· ∉ X') v l :=
  (hs.inb.step fun b hb => hc.block b hb.2 (fun e => hb.1 (by rw [e]; exact h.st.inP)) (fun e => hb.1 (by rw [e]; exact h.st.inM)) (fun e => hb.1 (h.st.inK b e))).mono fun b hb => hx.out hb.1 hb.2
theorem KeepAt.inst (h : KeepAt W X S s v) (hM : My w W pb mb kv X S) (hc : Chg pb mb kv W W') (hx : Xin W X X') (n : Int) (l : List Pair) : KeepAt W' X' (inst S n l).2 s v :=
  ⟨by rw [inst_floor]; exact h.fl, Int.le_trans h.le (inst_size hM.st.ok n l).2.2, by rw [inst_scan hM.st.ok n l h.le]; exact hM.keepSl hc hx h.sl⟩
theorem KeepAt.coll (h : KeepAt W X S s v) (hM : My w W pb mb kv X S) (hc : Chg pb mb kv W W') {n : Int} (hn : n ≤ s ∨ S.last < n) : KeepAt W' X (coll S n).2 s v := by
  have hs := hM.keepSl hc (Xin.refl W X) h.sl
  rcases hn with hn | hn
  · refine ⟨?_, by rw [(coll_size S n).2]; exact h.le, by rw [coll_scan hM.st.ok hn]; exact hs⟩
    unfold Go.Proofs.Ytnleldogmogkgaa.coll
    split
    · exact h.fl
    · exact hn
  · have e : Go.Proofs.Ytnleldogmogkgaa.coll S n = (2, S) := by unfold Go.Proofs.Ytnleldogmogkgaa.coll; rw [if_pos (.inr hn)]
    rw [e]
    exact ⟨h.fl, h.le, hs⟩
theorem kscan_calls (hM : My w W pb mb kv X S) (h1 : S.floor ≤ s) (h2 : s ≤ S.last) : Calls Try.prog 15 #[.pointer (some ⟨pb, 0, none⟩), .string ⟨#[]⟩, .string ⟨#[255, 255]⟩, .int .i64 s, .int .i64 1000] W fun e w' =>
    ∃ P m c, e = .returned (.tuple #[.slice P m c, .int .i64 0]) ∧ KeepAt w' X S s (.slice P m c) ∧ Below W.heap.size W w' := by
  refine (scan_calls pb mb kv X S eE eF s 1000 W hM.st (by decide) (by decide)).mono ?_
  rintro e w' ⟨v, rfl, hs, hb⟩
  have hm : may S s = 0 := by unfold may; rw [if_neg (by omega), if_neg (by omega)]
  unfold scanS at hs ⊢
  rw [if_pos hm] at hs ⊢
  obtain ⟨P, c, rfl, -⟩ := hs.form
  exact ⟨P, _, c, rfl, ⟨h1, h2, hs.mono fun b hb hm => by have := hM.st.lt b hm; omega⟩, hb⟩
end
end Go.Proofs.Ytnleldogmogkgaa
