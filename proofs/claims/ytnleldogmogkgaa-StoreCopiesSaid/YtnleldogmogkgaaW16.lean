import Derived.Test.YtnleldogmogkgaaW15
/-! Acts; the document's examples. -/
namespace Go.Proofs.Ytnleldogmogkgaa
open Go.RowKit Go.Op

structure SAct where
  kind : Int
  n : Int
  most : Int
  l : List Pair
  fr : ByteArray
  to : ByteArray
def tAct : Ty SAct := ((Ty.int .i64).pair ((Ty.int .i64).pair ((Ty.int .i64).pair (tPair.slice.pair (Ty.str.pair Ty.str))))).iso fun a => (a.kind, a.n, a.most, a.l, a.fr, a.to)
section
variable {w : World} {ok : Nat → Prop} {A : Option Addr} {n cap : Nat}
theorem act_form {a : SAct} {cs : List Value} (h : tAct.K w ok a cs) : ∃ P np cp, cs = [.int .i64 a.kind, .int .i64 a.n, .int .i64 a.most, .slice P np cp, .string a.fr, .string a.to] ∧ Sl tPair w ok (.slice P np cp) a.l := by
  obtain ⟨_, _, rfl, h1, _, _, rfl, h2, _, _, rfl, h3, _, _, rfl, ⟨v, rfl, h4⟩, _, _, rfl, h5, h6⟩ := h
  obtain ⟨P, cp, rfl, -⟩ := h4.form
  exact ⟨P, _, cp, by rw [show _ = _ from h1, show _ = _ from h2, show _ = _ from h3, show _ = _ from h5, show _ = _ from h6]; rfl, h4⟩
theorem sl_act {l : List SAct} (h : Sl tAct w ok (.slice A n cap) l) {i : Nat} {a : SAct} (hi : l[i]? = some a) :
    ∃ b off P np cp, A = some ⟨b, off, none⟩ ∧ b < w.heap.size ∧ w.cell? ⟨b, off + i * 6, none⟩ = some (.int .i64 a.kind) ∧ w.cell? ⟨b, off + i * 6 + 1, none⟩ = some (.int .i64 a.n) ∧ w.cell? ⟨b, off + i * 6 + 2, none⟩ = some (.int .i64 a.most) ∧
      w.cell? ⟨b, off + i * 6 + 3, none⟩ = some (.slice P np cp) ∧ w.cell? ⟨b, off + i * 6 + 4, none⟩ = some (.string a.fr) ∧ w.cell? ⟨b, off + i * 6 + 5, none⟩ = some (.string a.to) ∧ Sl tPair w ok (.slice P np cp) a.l := by
  obtain ⟨b, off, c, e, hb, hk, hc⟩ := h.at (by decide) hi
  obtain ⟨P, np, cp, rfl, hs⟩ := act_form hk
  exact ⟨b, off, P, np, cp, e, World.block_lt_of_cell? w _ (hc 0 _ rfl), hc 0 _ rfl, hc 1 _ rfl, hc 2 _ rfl, hc 3 _ rfl, hc 4 _ rfl, hc 5 _ rfl, hs⟩
end
def ActOk (a : SAct) : Prop := a.fr.size ≤ 140737488351232 ∧ a.to.size ≤ 140737488351232 ∧ Short a.l ∧ -9223372036854775808 ≤ a.n ∧ a.n ≤ 9223372036854775807
def Few (a : SAct) : Prop := a.l.length ≤ 60 ∧ a.fr.size ≤ 300 ∧ a.to.size ≤ 300

set_option maxHeartbeats 4000000 in
theorem light_calls (l : List SAct) (A : Option Addr) (n cap : Nat) (w : World) (hl : Sl tAct w (fun _ => True) (.slice A n cap) l) (ho : ∀ a ∈ l, ActOk a) :
    Calls Try.prog 11 #[.slice A n cap] w fun e w' => ∃ b : Bool, e = .returned (.bool b) ∧ (b = true → n ≤ 60 ∧ ∀ a ∈ l, Few a) ∧ Below w.heap.size w w' := by
  obtain ⟨hln, hcap, hcm⟩ := hl.length
  have H := Lib.hid hl
  have HO := Lib.hid ho
  clear hl ho
  have hX := Lib.hid (Below.refl w.heap.size w)
  have HLN := Lib.hid hln
  by_cases h60 : 60 < n
  · clear hln
    go_enter Try.func11, Try.ntmps11
    go_wp2
    go_ret
    exact ⟨false, rfl, (fun h => by cases h), hX.out⟩
  have HS0 : Hid (∀ a ∈ l.take 0, Few a) := fun a h => by simp at h
  clear hln
  go_enter Try.func11, Try.ntmps11
  go_wp2
  go_loopw [3, 5, 7, 14] (fun v _ _ i w' => ∃ (j : Nat) (z : Int), j ≤ n ∧ i = .int .i64 j ∧ v = .int .i64 z ∧ 0 ≤ z ∧ z ≤ 400 ∧ Hid (∀ a ∈ l.take j, Few a) ∧ Below w.heap.size w w') (fun _ _ _ i _ => n - (intOf i).toNat)
  case atStart => exact ⟨0, n, by omega, rfl, rfl, by omega, by omega, HS0, hX.out⟩
  case round =>
    obtain ⟨j, z, hj, rfl, rfl, hz0, hz1, hfew, hb⟩ := hrel
    by_cases hlt : j < n
    · obtain ⟨a, ha⟩ := some_at (show j < l.length by rw [HLN.out]; exact hlt)
      obtain ⟨b, off, P, np, cp, rfl, hbl, g0, g1, g2, g3, g4, g5, hP⟩ := sl_act (H.out.below hb) ha
      obtain ⟨ha1, ha2, ha3, -, -⟩ := HO.out a (List.mem_of_getElem? ha)
      have hpn := hP.length.1
      have hpc := hP.length.2
      have hb' := hb.alloc hb.size (.cells #[.int .i64 a.kind, .int .i64 a.n, .int .i64 a.most, .slice P np cp, .string a.fr, .string a.to] 25)
      have HB2 := Lib.hid hb'
      have HP := Lib.hid (hP.below ((Below.refl _ _).alloc (Nat.le_refl _) (.cells #[.int .i64 a.kind, .int .i64 a.n, .int .i64 a.most, .slice P np cp, .string a.fr, .string a.to] 25)))
      have hX3 := Lib.hid (Below.refl (wr.alloc (.cells #[.int .i64 a.kind, .int .i64 a.n, .int .i64 a.most, .slice P np cp, .string a.fr, .string a.to] 25)).heap.size (wr.alloc (.cells #[.int .i64 a.kind, .int .i64 a.n, .int .i64 a.most, .slice P np cp, .string a.fr, .string a.to] 25)))
      have HSH := Lib.hid ha3
      have HPN := Lib.hid hpn
      have hnew : np ≤ 60 → (a.fr.size : Int) + (a.to.size : Int) ≤ 300 → Hid (∀ x ∈ l.take (j + 1), Few x) := fun h1 h2 x hx => by
        rw [List.take_add_one, ha] at hx
        rcases List.mem_append.1 hx with hx | hx
        · exact hfew.out x hx
        · simp at hx
          subst hx
          exact ⟨by rw [HPN.out]; exact h1, by omega, by omega⟩
      clear hb' hP ha ha3 hpn
      by_cases h1 : 60 < np
      · clear hnew
        go_wp2
        go_ret
        first | exact ⟨false, rfl, (fun h => by cases h), HB2.out⟩ | exact .inl ⟨rfl, HB2.out⟩
      by_cases h2 : 300 < (a.fr.size : Int) + (a.to.size : Int)
      · clear hnew
        go_wp2
        go_ret
        first | exact ⟨false, rfl, (fun h => by cases h), HB2.out⟩ | exact .inl ⟨rfl, HB2.out⟩
      have h3 : ¬ 300 < (a.fr.size : Int) := by omega
      have HN := hnew (by omega) (by omega)
      clear hnew hfew
      go_wp2
      generalize wr.alloc (.cells #[.int .i64 a.kind, .int .i64 a.n, .int .i64 a.most, .slice P np cp, .string a.fr, .string a.to] 25) = w3 at *
      go_loopw [3, 7, 41] (fun v _ i w' => ∃ (k : Nat) (z : Int), k ≤ np ∧ i = .int .i64 k ∧ v = .int .i64 z ∧ 0 ≤ z ∧ z ≤ 400 ∧ Below w3.heap.size w3 w') (fun _ _ i _ => np - (intOf i).toNat)
      case atStart => exact ⟨0, _, by omega, rfl, rfl, by omega, by omega, hX3.out⟩
      case round =>
        clear g0 g1 g2 g3 g4 g5 hbl hz0 hz1 hb h1 h2 h3
        obtain ⟨k, z, hk, rfl, rfl, hz0, hz1, hb⟩ := hrel
        have hbw := HB2.out.trans (hb.mono HB2.out.size)
        by_cases hlt2 : k < np
        · obtain ⟨o, ho⟩ := some_at (show k < a.l.length by rw [HPN.out]; exact hlt2)
          obtain ⟨b', off', rfl, hbl, g0, g1, g2⟩ := sl_pair (HP.out.below hb) ho
          obtain ⟨hp1, hp2⟩ := HSH.out o (List.mem_of_getElem? ho)
          clear ho
          have hb' := hb.alloc hb.size (.cells #[.string o.key, .string o.val, .bool o.dead] 35)
          have hbw' := hbw.alloc hbw.size (.cells #[.string o.key, .string o.val, .bool o.dead] 35)
          have HB3 := Lib.hid hb'
          have HB4 := Lib.hid hbw'
          clear hb' hbw'
          go_wp2
          · go_ret
            exact ⟨false, rfl, (fun h => by cases h), HB4.out⟩
          · go_roundw
            case rel => exact ⟨k + 1, _, by omega, by go_num, rfl, by omega, by omega, HB3.out⟩
            case measure => simp [intOf]; omega
        · go_wp2
          exact ⟨⟨j + 1, z, by omega, by go_num, rfl, hz0, hz1, HN, hbw⟩, by simp [intOf]; omega⟩
    · go_wp2
      go_ret
      refine ⟨true, rfl, fun _ => ⟨by omega, fun a ha => hfew.out a ?_⟩, hb⟩
      rw [List.take_of_length_le (by rw [HLN.out]; omega)]; exact ha

def pX : Pair := ⟨⟨#[97]⟩, ⟨#[120]⟩, false⟩
def pD : Pair := ⟨⟨#[97]⟩, ⟨#[]⟩, true⟩
def S1 : Sto := ⟨[⟨⟨#[97]⟩, [⟨1, ⟨#[120]⟩, false⟩]⟩], 1, 0⟩
def S2 : Sto := ⟨[⟨⟨#[97]⟩, [⟨1, ⟨#[120]⟩, false⟩, ⟨2, ⟨#[]⟩, true⟩]⟩], 2, 0⟩
theorem live1 : inst Sto.new 1 [pX] = (0, S1) := by
  simp [inst, Sto.new, goodL, goodGo, goodP, above, pX, S1, addAll, addE, putE, hasK, low, chainOf, findK, verOf, ByteArray.size]
theorem live2 : inst S1 2 [pD] = (0, S2) := by
  simp [inst, S1, S2, goodL, goodGo, goodP, above, pD, addAll, addE, putE, hasK, low, chainOf, findK, verOf, ByteArray.size, klt, bytesLess, ByteArray.toList_eq]
theorem live3 : getS S2 ⟨#[97]⟩ 1 = (⟨#[120]⟩, 0) := by
  simp [getS, may, S2, chainOf, findK, get, good, goodFrom, Ver.right, seen, live, ByteArray.toList_eq]
theorem live4 : getS S2 ⟨#[97]⟩ 2 = (⟨#[]⟩, 8) := by
  simp [getS, may, S2, chainOf, findK, get, good, goodFrom, Ver.right, seen, live, ByteArray.toList_eq]
theorem one_pair {W : World} {g : Nat} {p : Pair} (h : Blk W g #[.string p.key, .string p.val, .bool p.dead] 35) : Sl tPair W (fun b => b = g) (.slice (some ⟨g, 0, none⟩) 1 1) [p] :=
  ⟨_, 1, p.enc, rfl, Nat.le_refl _, ⟨by omega, fun h => by cases h⟩, Cells.one rfl, .inr ⟨g, 0, rfl, rfl, fun j u hj => by rw [h.cell (0 + j)]; simpa [Pair.enc] using hj⟩⟩
end Go.Proofs.Ytnleldogmogkgaa
