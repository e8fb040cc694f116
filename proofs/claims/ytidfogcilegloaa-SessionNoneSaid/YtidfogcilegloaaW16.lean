import Derived.Test.YtidfogcilegloaaW15
/-! Acts; the document's examples. -/
namespace Go.Proofs.Ytidfogcilegloaa
open Go.RowKit Go.Op

structure SAct where
  kind : Int
  n : Int
  most : Int
  l : List Pair
  fr : ByteArray
  to : ByteArray
def tAct : Ty SAct := ((Ty.int .i64).pair ((Ty.int .i64).pair ((Ty.int .i64).pair (tPair.slice.pair (Ty.str.pair Ty.str))))).iso fun a => (a.kind, a.n, a.most, a.l, a.fr, a.to)
section
variable {w : World} {ok : Nat → Prop} {A : Option Addr} {n cap : Nat}
theorem act_form {a : SAct} {cs : List Value} (h : tAct.K w ok a cs) : ∃ P np cp, cs = [.int .i64 a.kind, .int .i64 a.n, .int .i64 a.most, .slice P np cp, .string a.fr, .string a.to] ∧ Sl tPair w ok (.slice P np cp) a.l := by
  obtain ⟨_, _, rfl, h1, _, _, rfl, h2, _, _, rfl, h3, _, _, rfl, ⟨v, rfl, h4⟩, _, _, rfl, h5, h6⟩ := h
  obtain ⟨P, cp, rfl, -⟩ := h4.form
  exact ⟨P, _, cp, by rw [show _ = _ from h1, show _ = _ from h2, show _ = _ from h3, show _ = _ from h5, show _ = _ from h6]; rfl, h4⟩
theorem sl_act {l : List SAct} (h : Sl tAct w ok (.slice A n cap) l) {i : Nat} {a : SAct} (hi : l[i]? = some a) :
    ∃ b off P np cp, A = some ⟨b, off, none⟩ ∧ b < w.heap.size ∧ w.cell? ⟨b, off + i * 6, none⟩ = some (.int .i64 a.kind) ∧ w.cell? ⟨b, off + i * 6 + 1, none⟩ = some (.int .i64 a.n) ∧ w.cell? ⟨b, off + i * 6 + 2, none⟩ = some (.int .i64 a.most) ∧
      w.cell? ⟨b, off + i * 6 + 3, none⟩ = some (.slice P np cp) ∧ w.cell? ⟨b, off + i * 6 + 4, none⟩ = some (.string a.fr) ∧ w.cell? ⟨b, off + i * 6 + 5, none⟩ = some (.string a.to) ∧ Sl tPair w ok (.slice P np cp) a.l := by
  obtain ⟨b, off, c, e, hb, hk, hc⟩ := h.at (by decide) hi
  obtain ⟨P, np, cp, rfl, hs⟩ := act_form hk
  exact ⟨b, off, P, np, cp, e, World.block_lt_of_cell? w _ (hc 0 _ rfl), hc 0 _ rfl, hc 1 _ rfl, hc 2 _ rfl, hc 3 _ rfl, hc 4 _ rfl, hc 5 _ rfl, hs⟩
end
def ActOk (a : SAct) : Prop := a.fr.size ≤ 140737488351232 ∧ a.to.size ≤ 140737488351232 ∧ Short a.l ∧ -9223372036854775808 ≤ a.n ∧ a.n ≤ 9223372036854775807
def Few (a : SAct) : Prop := a.l.length ≤ 60 ∧ a.fr.size ≤ 300 ∧ a.to.size ≤ 300

def pX : Pair := ⟨⟨#[97]⟩, ⟨#[120]⟩, false⟩
def pD : Pair := ⟨⟨#[97]⟩, ⟨#[]⟩, true⟩
def S1 : Sto := ⟨[⟨⟨#[97]⟩, [⟨1, ⟨#[120]⟩, false⟩]⟩], 1, 0⟩
def S2 : Sto := ⟨[⟨⟨#[97]⟩, [⟨1, ⟨#[120]⟩, false⟩, ⟨2, ⟨#[]⟩, true⟩]⟩], 2, 0⟩
theorem live1 : inst Sto.new 1 [pX] = (0, S1) := by
  simp [inst, Sto.new, goodL, goodGo, goodP, above, pX, S1, addAll, addE, putE, hasK, low, chainOf, findK, verOf, ByteArray.size]
theorem live2 : inst S1 2 [pD] = (0, S2) := by
  simp [inst, S1, S2, goodL, goodGo, goodP, above, pD, addAll, addE, putE, hasK, low, chainOf, findK, verOf, ByteArray.size, klt, bytesLess, ByteArray.toList_eq]
theorem live3 : getS S2 ⟨#[97]⟩ 1 = (⟨#[120]⟩, 0) := by
  simp [getS, may, S2, chainOf, findK, get, good, goodFrom, Ver.right, seen, live, ByteArray.toList_eq]
theorem live4 : getS S2 ⟨#[97]⟩ 2 = (⟨#[]⟩, 8) := by
  simp [getS, may, S2, chainOf, findK, get, good, goodFrom, Ver.right, seen, live, ByteArray.toList_eq]
theorem one_pair {W : World} {g : Nat} {p : Pair} (h : Blk W g #[.string p.key, .string p.val, .bool p.dead] 68) : Sl tPair W (fun b => b = g) (.slice (some ⟨g, 0, none⟩) 1 1) [p] :=
  ⟨_, 1, p.enc, rfl, Nat.le_refl _, ⟨by omega, fun h => by cases h⟩, Cells.one rfl, .inr ⟨g, 0, rfl, rfl, fun j u hj => by rw [h.cell (0 + j)]; simpa [Pair.enc] using hj⟩⟩
end Go.Proofs.Ytidfogcilegloaa
