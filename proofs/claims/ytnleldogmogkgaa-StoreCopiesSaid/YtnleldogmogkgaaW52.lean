import Derived.Test.YtnleldogmogkgaaW51
import Derived.Test.YtnleldogmogkgaaW48
/-! StoreCopies. -/
namespace Go.Proofs.Ytnleldogmogkgaa
open Go.RowKit Go.Op

section
variable {w0 w w' : World} {pb mb rb pc mc : Nat} {kv kv' v v' kc : Value} {X X' : List Nat} {S S' R R' C : Sto}
theorem Duo.widen (h : Duo w0 w pb mb kv rb v X S R) (hb : Below w.heap.size w w') (hsub : ∀ b ∈ X, b ∈ X') (hlt : ∀ b ∈ X', b < w'.heap.size) (hnew : ∀ b ∈ X', b ∈ X ∨ w.heap.size ≤ b) : Duo w0 w' pb mb kv rb v X' S R := by
  have hl := h.my.st.lt
  refine ⟨⟨h.my.st.shift hb.size (hb.block _ (hl _ h.my.st.inP)) (hb.block _ (hl _ h.my.st.inM)) (fun b e => hb.block _ (hl _ (h.my.st.inK b e))) (fun b hl _ => hb.block b hl) hsub hlt hnew, h.my.be.trans (hb.mono h.my.be.size), fun b hm => ?_⟩,
    h.ref.move hb.size (hb.block _ (h.ref.lt _ h.ref.inP)) (fun b e => hb.block _ (h.ref.lt _ (h.ref.inK b e))) (fun b hl _ => hb.block b hl) hsub hlt hnew, h.rp, h.rm, h.rk, h.vp, h.vm, h.kk⟩
  rcases hnew b hm with h1 | h1
  · exact h.my.ge b h1
  · exact Nat.le_trans h.my.be.size h1
/-- A store, the document's, and a copy of the store. -/
structure Trio (w0 w : World) (pb mb : Nat) (kv : Value) (rb : Nat) (v : Value) (pc mc : Nat) (kc : Value) (X : List Nat) (S R C : Sto) : Prop where
  duo : Duo w0 w pb mb kv rb v X S R
  cp : Stm w pc mc kc X C
  pp : pc ≠ pb ∧ pc ≠ mb ∧ kv.ownBlock ≠ some pc
  mm : mc ≠ pb ∧ mc ≠ mb ∧ kv.ownBlock ≠ some mc
  kk : ∀ b, kc.ownBlock = some b → b ≠ pb ∧ b ≠ mb ∧ kv.ownBlock ≠ some b
theorem Trio.below (h : Trio w0 w pb mb kv rb v pc mc kc X S R C) (hb : Below w.heap.size w w') : Trio w0 w' pb mb kv rb v pc mc kc X S R C := ⟨h.duo.below hb, h.cp.below hb, h.pp, h.mm, h.kk⟩
theorem Trio.left (h : Trio w0 w pb mb kv rb v pc mc kc X S R C) (hM : My w0 w' pb mb kv' X' S') (hc : Chg pb mb kv w w') (hk : Kin w kv kv') (hx : Xin w X X') : Trio w0 w' pb mb kv' rb v pc mc kc X' S' R C := by
  have hne : ∀ b, b ∈ X → b ≠ pb → b ≠ mb → kv.ownBlock ≠ some b → w'.heap[b]? = w.heap[b]? := fun b hb h1 h2 h3 => hc.block b (h.cp.lt b hb) h1 h2 h3
  have hkn : ∀ b, b ∈ X → kv.ownBlock ≠ some b → kv'.ownBlock ≠ some b := fun b hb h1 e => by
    rcases hk with hk | hk
    · rw [hk] at e; exact h1 e
    · have := hk b e; have := h.cp.lt b hb; omega
  refine ⟨h.duo.left hM hc hk hx, h.cp.shift hc.size (hne pc h.cp.inP h.pp.1 h.pp.2.1 h.pp.2.2) (hne mc h.cp.inM h.mm.1 h.mm.2.1 h.mm.2.2) (fun b e => hne b (h.cp.inK b e) (h.kk b e).1 (h.kk b e).2.1 (h.kk b e).2.2)
    (fun b hb hn => hc.block b hb (fun e => hn (by rw [e]; exact h.duo.my.st.inP)) (fun e => hn (by rw [e]; exact h.duo.my.st.inM)) (fun e => hn (h.duo.my.st.inK b e))) hx.2 (fun b hb => hM.st.lt b hb) hx.1,
    ⟨h.pp.1, h.pp.2.1, hkn pc h.cp.inP h.pp.2.2⟩, ⟨h.mm.1, h.mm.2.1, hkn mc h.cp.inM h.mm.2.2⟩, fun b e => ⟨(h.kk b e).1, (h.kk b e).2.1, hkn b (h.cp.inK b e) (h.kk b e).2.2⟩⟩
theorem Trio.install {m : Int} {l : List Pair} {A : Option Addr} {n c : Nat} {ok : Nat → Prop} (h : Trio w0 w pb mb kv rb v pc mc kc X S R C) (hl : Sl tPair w0 ok (.slice A n c) l) (hs : Short l) (hm1 : -9223372036854775808 ≤ m) (hm2 : m ≤ 9223372036854775807) (hle : S.ents.length + l.length ≤ 100000) (hla : S.last < 1000000) (W : World) (hb : Below w.heap.size w W) :
    Calls Try.prog 13 #[.pointer (some ⟨pb, 0, none⟩), .int .i64 m, .slice A n c] W fun e w' => e = .returned (.int .i64 (inst S m l).1) ∧ Hid (∃ kv' X', Trio w0 w' pb mb kv' rb v pc mc kc X' (inst S m l).2 R C ∧ Out w w' X X') := by
  have h' := h.below hb
  refine (install_calls pb mb kv X S m l A n c W h'.duo.my.st ((h'.duo.arg hl).mono fun b hb => ⟨fun e => hb (by rw [e]; exact h.duo.my.st.inP), fun e => hb (by rw [e]; exact h.duo.my.st.inM), fun e => hb (h.duo.my.st.inK b e)⟩) hs hm1 hm2 hle hla).mono ?_
  rintro e w' ⟨e1, kv', X', h1, h2, h3, h4⟩
  have hM := h'.duo.my
  refine ⟨e1, kv', X', h'.left ⟨h1, hM.be.trans (h2.toBelow hM.be.size (hM.ge _ hM.st.inP) (hM.ge _ hM.st.inM) fun b e => hM.ge b (hM.st.inK b e)), fun b hb => ?_⟩ h2 h3 h4, (Out.of_below hb X).trans ⟨h2.size, fun b hb hn => h2.block b hb (fun e => hn (by rw [e]; exact hM.st.inP)) (fun e => hn (by rw [e]; exact hM.st.inM)) (fun e => hn (hM.st.inK b e)), h4⟩⟩
  rcases h4.1 b hb with h5 | h5
  · exact hM.ge b h5
  · have := hM.be.size; omega
theorem Trio.coll (h : Trio w0 w pb mb kv rb v pc mc kc X S R C) (n : Int) (W : World) (hb : Below w.heap.size w W) :
    Calls Try.prog 22 #[.pointer (some ⟨pb, 0, none⟩), .int .i64 n] W fun e w' => e = .returned (.int .i64 (Go.Proofs.Ytnleldogmogkgaa.coll S n).1) ∧ Hid (∃ kv' X', Trio w0 w' pb mb kv' rb v pc mc kc X' (Go.Proofs.Ytnleldogmogkgaa.coll S n).2 R C ∧ Out w w' X X') := by
  have h' := h.below hb
  refine (coll_calls pb mb kv X S n W h'.duo.my.st).mono ?_
  rintro e w' ⟨e1, kv', h1, h2, h3⟩
  have hM := h'.duo.my
  exact ⟨e1, kv', X, h'.left ⟨h1, hM.be.trans (h2.toBelow hM.be.size (hM.ge _ hM.st.inP) (hM.ge _ hM.st.inM) fun b e => hM.ge b (hM.st.inK b e)), hM.ge⟩ h2 (.inl h3) (Xin.refl _ _), (Out.of_below hb X).trans ⟨h2.size, fun b hb hn => h2.block b hb (fun e => hn (by rw [e]; exact hM.st.inP)) (fun e => hn (by rw [e]; exact hM.st.inM)) (fun e => hn (hM.st.inK b e)), Xin.refl _ _⟩⟩
theorem Out.sl {α : Type} {t : Ty α} {u : Value} {l : List α} (h : Out w w' X X') (hs : Sl t w (· ∉ X) u l) : Sl t w' (· ∉ X') u l :=
  (hs.inb.step fun b hb => h.block b hb.2 hb.1).mono fun _ hb => h.xin.out hb.1 hb.2
/-- Behind a copy. -/
theorem Duo.trio (h : Duo w0 w pb mb kv rb v X S R) (hb : Below w.heap.size w w') (h1 : w.heap.size ≤ pc) (h2 : w.heap.size ≤ mc) (h3 : ∀ b, kc.ownBlock = some b → w.heap.size ≤ b) (hc : Stm w' pc mc kc (pc :: mc :: (kc.ownBlock.toList ++ X)) C) :
    Trio w0 w' pb mb kv rb v pc mc kc (pc :: mc :: (kc.ownBlock.toList ++ X)) S R C ∧ Out w w' X (pc :: mc :: (kc.ownBlock.toList ++ X)) := by
  have hl := h.my.st.lt
  have hpl := hl _ h.my.st.inP
  have hml := hl _ h.my.st.inM
  have hkl : ∀ b, kv.ownBlock = some b → b < w.heap.size := fun b e => hl _ (h.my.st.inK b e)
  have hsub : ∀ b ∈ X, b ∈ pc :: mc :: (kc.ownBlock.toList ++ X) := fun b hm => by simp [hm]
  have hnew : ∀ b ∈ pc :: mc :: (kc.ownBlock.toList ++ X), b ∈ X ∨ w.heap.size ≤ b := fun b hm => by
    simp only [List.mem_cons, List.mem_append, Option.mem_toList] at hm
    rcases hm with rfl | rfl | hm | hm
    · exact .inr h1
    · exact .inr h2
    · exact .inr (h3 b hm)
    · exact .inl hm
  refine ⟨⟨h.widen hb hsub (fun b hm => hc.lt b hm) hnew, hc, ⟨by omega, by omega, fun e => by have := hkl _ e; omega⟩, ⟨by omega, by omega, fun e => by have := hkl _ e; omega⟩, fun b e => ⟨fun e' => by have := h3 b e; omega, fun e' => by have := h3 b e; omega, fun e' => by have := h3 b e; have := hkl _ e'; omega⟩⟩,
    hb.size, fun b hbl _ => hb.block b hbl, hnew, hsub⟩
end

structure Dnd2 (w wr : World) (pb mb rb : Nat) (j : Nat) : Prop where
  ex : ∃ kv v X S, Duo w wr pb mb kv rb v X S S ∧ S.last ≤ (j : Int) ∧ S.ents.length ≤ 60 * j
theorem actS_size2 {S : Sto} (h : S.Ok) (a : SAct) : (actS S a).ents.length ≤ S.ents.length + a.l.length ∧ (actS S a).last ≤ S.last + 1 := by
  unfold actS
  split
  · exact ⟨(inst_size h _ _).1, (inst_size h _ _).2.1⟩
  · split
    · exact ⟨(inst_size h _ _).1, (inst_size h _ _).2.1⟩
    · split
      · have := coll_size S a.n; omega
      · omega
theorem one_act2 {W : World} {g : Nat} {a : SAct} {P : Option Addr} {np cp : Nat} (h : Blk W g #[.int .i64 a.kind, .int .i64 a.n, .int .i64 a.most, .slice P np cp, .string a.fr, .string a.to] 25) (hs : Sl tPair W (fun _ => True) (.slice P np cp) a.l) : Sl tAct W (fun _ => True) (.slice (some ⟨g, 0, none⟩) 1 1) [a] :=
  ⟨_, 1, [.int .i64 a.kind, .int .i64 a.n, .int .i64 a.most, .slice P np cp, .string a.fr, .string a.to], rfl, Nat.le_refl _, ⟨by omega, fun h => by cases h⟩,
    Cells.one ⟨[_], _, rfl, rfl, [_], _, rfl, rfl, [_], _, rfl, rfl, [_], _, rfl, ⟨_, rfl, hs⟩, [_], _, rfl, rfl, rfl⟩, .inr ⟨g, 0, rfl, trivial, fun j u hj => by rw [h.cell (0 + j)]; simpa using hj⟩⟩
def cE : ByteArray := ⟨#[]⟩
def cF : ByteArray := ⟨#[255, 255]⟩

set_option maxHeartbeats 8000000 in
set_option maxRecDepth 100000 in
theorem copies_calls (acts : List SAct) (A : Option Addr) (n c : Nat) (x : SAct) (P : Option Addr) (np cp : Nat) (w : World) (hl : Sl tAct w (fun _ => True) (.slice A n c) acts) (ho : ∀ a ∈ acts, ActOk a) (hp : Sl tPair w (fun _ => True) (.slice P np cp) x.l) (hx : ActOk x) :
    Calls Try.prog 7 #[.slice A n c, .agg #[.int .i64 x.kind, .int .i64 x.n, .int .i64 x.most, .slice P np cp, .string x.fr, .string x.to]] w fun e w' => e = .returned (.bool true) ∧ Below w.heap.size w w' := by
  have hln := hl.length
  obtain ⟨hln, hcap, hcm⟩ := hln
  obtain ⟨z0, hz0⟩ : ∃ z, w.heap.size = z := ⟨_, rfl⟩
  obtain ⟨C, hC⟩ : ∃ C, #[Value.int .i64 x.kind, .int .i64 x.n, .int .i64 x.most, .slice P np cp, .string x.fr, .string x.to] = C := ⟨_, rfl⟩
  obtain ⟨wx, hwx⟩ : ∃ wx, w.alloc (.cells C 25) = wx := ⟨_, rfl⟩
  have hzx : wx.heap.size = z0 + 1 := by rw [← hwx]; simp [hz0]
  have hbx : Below w.heap.size w wx := by rw [← hwx]; exact (Below.refl _ _).alloc (Nat.le_refl _) _
  have hBX : Blk wx z0 C 25 := by rw [← hwx, ← hz0]; exact Blk.new _ _ _
  have HL := Lib.hid (hl.below hbx)
  have HO := Lib.hid ho
  have HLN := Lib.hid hln
  have HP := Lib.hid (hp.below hbx)
  have HX := Lib.hid hx
  have HBX := Lib.hid hBX
  have HWX := Lib.hid hbx
  have HZ0 := Lib.hid hz0
  clear hl ho hp hx hbx hBX hln
  subst hC
  go_enter Try.func7, Try.ntmps7
  go_wp2_with fail
  refine (my_new wx wx (Below.refl _ _)).mono ?_
  rintro e w1 ⟨rfl, hM1⟩
  rw [hzx] at hM1 ⊢
  have hD1 := Duo.start hM1
  obtain ⟨rb, hrb⟩ : ∃ rb, w1.heap.size = rb := ⟨_, rfl⟩
  obtain ⟨w2, hw2⟩ : ∃ w2, w1.alloc (.cells #[.slice none 0 0, .int .i64 0, .int .i64 0] 53) = w2 := ⟨_, rfl⟩
  rw [hrb, hw2] at hD1
  have HD1 := Lib.hid hD1
  have hlive : Hid (∀ W, Below w.heap.size w W → Calls Try.prog 12 #[] W fun e w' => e = .returned (.bool true) ∧ Below w.heap.size w w') := fun W h => (lives_calls W).mono fun e w' ⟨e1, h1⟩ => ⟨e1, h.trans (h1.mono h.size)⟩
  have HLI := Lib.hid (light_calls acts A n c w2 ((HD1.out.arg HL.out).mono fun _ _ => trivial) HO.out)
  clear hM1 hD1 hwx
  go_wp2_with fail
  refine HLI.out.mono ?_
  rintro e w3 ⟨b, rfl, hb, hb3⟩
  have HD3 := Lib.hid (HD1.out.below hb3)
  have HBE3 : Hid (Below w.heap.size w w3) := HWX.out.trans (HD3.out.my.be.mono HWX.out.size)
  clear HLI HD1 hb3 hw2
  cases b
  · clear hb
    go_wp2_with fail
    refine (hlive.out _ HBE3.out).mono ?_
    rintro e w9 ⟨rfl, hb9⟩
    go_wp2
    go_ret
    exact ⟨rfl, hb9⟩
  · obtain ⟨hn60, hfew⟩ := hb rfl
    have HFEW := Lib.hid hfew
    have hB3 := HBX.out.below HD3.out.my.be (by omega)
    have y0 := hB3.cell 0
    have y1 := hB3.cell 1
    have y2 := hB3.cell 2
    have y3 := hB3.cell 3
    have y4 := hB3.cell 4
    have y5 := hB3.cell 5
    have hz3 : z0 + 1 ≤ w3.heap.size := by have := HD3.out.my.be.size; omega
    obtain ⟨w4, hw4⟩ : ∃ w4, w3.alloc (.cells #[.int .i64 x.kind, .int .i64 x.n, .int .i64 x.most, .slice P np cp, .string x.fr, .string x.to] 25) = w4 := ⟨_, rfl⟩
    have hb4 : Below w3.heap.size w3 w4 := by rw [← hw4]; exact (Below.refl _ _).alloc (Nat.le_refl _) _
    have hB4 : Blk w4 w3.heap.size #[.int .i64 x.kind, .int .i64 x.n, .int .i64 x.most, .slice P np cp, .string x.fr, .string x.to] 25 := by rw [← hw4]; exact Blk.new _ _ _
    have HD4 := Lib.hid (HD3.out.below hb4)
    have HLX := Lib.hid (light_calls [x] (some ⟨w3.heap.size, 0, none⟩) 1 1 w4 (one_act2 hB4 ((HD4.out.arg HP.out).mono fun _ _ => trivial)) (by intro a ha; rw [List.mem_singleton.1 ha]; exact HX.out))
    clear hb hfew hB3 hb4 hB4 HD3 HBE3
    go_wp2_with fail
    refine HLX.out.mono ?_
    rintro e w5 ⟨b, rfl, hb, hb5⟩
    have HD5 := Lib.hid (HD4.out.below hb5)
    have HBE5 : Hid (Below w.heap.size w w5) := HWX.out.trans (HD5.out.my.be.mono HWX.out.size)
    clear HLX HD4 hb5 hw4 y0 y1 y2 y3 y4 y5
    cases b
    case false =>
      clear hb
      go_wp2_with fail
      refine (hlive.out _ HBE5.out).mono ?_
      rintro e w9 ⟨rfl, hb9⟩
      go_wp2
      go_ret
      exact ⟨rfl, hb9⟩
    case true =>
      obtain ⟨hx60, -, -⟩ := (hb rfl).2 x (by simp)
      have HA0 : Hid (Dnd2 wx w5 (z0 + 1 + 1) (z0 + 1) rb 0) := ⟨_, _, _, _, HD5.out, by simp [Sto.new], by simp [Sto.new]⟩
      clear hb HBE5 HD5
      go_wp2
      go_loopw [31] (fun i wr => ∃ j : Nat, i = .int .i64 j ∧ j ≤ n ∧ Hid (Dnd2 wx wr (z0 + 1 + 1) (z0 + 1) rb j)) (fun i _ => n - (intOf i).toNat)
      case atStart => exact ⟨0, rfl, by omega, HA0⟩
      case round =>
        obtain ⟨j, rfl, hj, hAt⟩ := hrel
        clear HA0
        obtain ⟨kv, v, X, S, hD, hla, hen⟩ := hAt.out.ex
        by_cases hlt : j < n
        · obtain ⟨a, ha⟩ := some_at (show j < acts.length by rw [HLN.out]; exact hlt)
          obtain ⟨b, off, Pa, na, ca, rfl, hbl, x0, x1, x2, x3, x4, x5, hPa⟩ := sl_act ((hD.arg HL.out).mono (ok' := fun _ => True) fun _ _ => trivial) ha
          have hPw : Hid (Sl tPair wx (fun _ => True) (.slice Pa na ca) a.l) := by
            obtain ⟨b', off', P', np', cp', e', -, -, -, -, y3, -, -, hP'⟩ := sl_act HL.out ha
            injection e' with e'
            injection e' with e1 e2
            subst e1 e2
            have hlt' : b < wx.heap.size := World.block_lt_of_cell? wx _ y3
            have := (hD.my.be.cell (p := ⟨b, off + j * 6 + 3, none⟩) hlt').trans y3
            rw [this] at x3
            injection x3 with x3
            injection x3 with q1 q2 q3
            subst q1 q2 q3
            exact hP'
          have hao := HO.out a (List.mem_of_getElem? ha)
          obtain ⟨hfa, -, -⟩ := HFEW.out a (List.mem_of_getElem? ha)
          obtain ⟨w7, hw7⟩ : ∃ w7, wr.alloc (.cells #[.int .i64 a.kind, .int .i64 a.n, .int .i64 a.most, .slice Pa na ca, .string a.fr, .string a.to] 25) = w7 := ⟨_, rfl⟩
          have hb7 : Below wr.heap.size wr w7 := by rw [← hw7]; exact (Below.refl _ _).alloc (Nat.le_refl _) _
          have hV7 : Blk w7 wr.heap.size #[.int .i64 a.kind, .int .i64 a.n, .int .i64 a.most, .slice Pa na ca, .string a.fr, .string a.to] 25 := by rw [← hw7]; exact Blk.new _ _ _
          have hD7 := hD.below hb7
          have hszs := actS_size2 hD.my.st.ok a
          have hnew : Hid ((actS S a).last ≤ ((j + 1 : Nat) : Int) ∧ (actS S a).ents.length ≤ 60 * (j + 1)) := ⟨by omega, by omega⟩
          have HAC := Lib.hid (act_calls wx w7 (z0 + 1 + 1) (z0 + 1) kv rb v X S a Pa na ca hD7 hPw.out hao (by omega) (by omega))
          obtain ⟨S2, hS2⟩ : ∃ S2, actS S a = S2 := ⟨_, rfl⟩
          rw [hS2] at hnew HAC
          have y0 := hV7.cell 0
          have y1 := hV7.cell 1
          have y2 := hV7.cell 2
          have y3 := hV7.cell 3
          have y4 := hV7.cell 4
          have y5 := hV7.cell 5
          clear hD hPa ha hb7 hV7 hD7 hao hszs hS2
          go_wp2_with fail
          refine HAC.out.mono ?_
          rintro e w8 ⟨rfl, hA8⟩
          have R : Hid (Dnd2 wx w8 (z0 + 1 + 1) (z0 + 1) rb (j + 1)) := by
            obtain ⟨kv2, v2, X2, h1, -⟩ := hA8
            exact ⟨kv2, v2, X2, S2, h1, hnew.out.1, hnew.out.2⟩
          clear hA8 HAC y0 y1 y2 y3 y4 y5 hw7
          go_wp2
          go_roundw
          case rel => exact ⟨j + 1, by go_num, by omega, R⟩
          case measure => simp [intOf]; omega
        · obtain rfl : j = n := by omega
          have HD := Lib.hid hD
          have HCP := Lib.hid (scopy_calls (z0 + 1 + 1) (z0 + 1) kv X S wr hD.my.st)
          clear hD hAt
          go_wp2_with fail
          refine HCP.out.mono ?_
          rintro e w6 ⟨pc, mc, kc, rfl, hcp⟩
          obtain ⟨hb6, hp6, hm6, hk6, hs6⟩ := hcp.out
          obtain ⟨hT6, -⟩ := HD.out.trio hb6 hp6 hm6 hk6 hs6
          obtain ⟨X6, hX6⟩ : ∃ X6, pc :: mc :: (kc.ownBlock.toList ++ X) = X6 := ⟨_, rfl⟩
          rw [hX6] at hT6
          have HT6 := Lib.hid hT6
          have HOK := Lib.hid hT6.cp.ok
          obtain ⟨la, hla'⟩ : ∃ la, S.last = la := ⟨_, rfl⟩
          have hla0 : 0 ≤ la := by have := hT6.cp.ok.fl; have := hT6.cp.ok.le; omega
          have H14 := Lib.hid (slast_calls pc mc kc X6 S w6 hT6.cp)
          have H15 := Lib.hid (scan_calls pc mc kc X6 S cE cF S.last 1000 w6 hT6.cp (by decide) (by decide))
          obtain ⟨L, hL⟩ : ∃ L, (scan S.ents cE cF S.last).take (1000 : Int).toNat = L := ⟨_, rfl⟩
          have hsL : scanS S cE cF S.last 1000 = (L, 0) := by rw [scanS_last HOK.out, hL]
          have HSL := Lib.hid hsL
          rw [hsL] at H15
          rw [hla'] at H14 H15 hla
          have HLA := Lib.hid hla'
          clear hcp hb6 hp6 hm6 hk6 hs6 hT6 hX6 HCP hL hsL hla'
          go_wp2_with fail
          refine H14.out.mono ?_
          rintro e w7 ⟨rfl, rfl⟩
          go_wp2_with fail
          refine H15.out.mono ?_
          rintro e w7 ⟨u, rfl, hs7, hb7⟩
          obtain ⟨P7, c7, rfl, -⟩ := hs7.form
          obtain ⟨m7, hm7⟩ : ∃ m, L.length = m := ⟨_, rfl⟩
          rw [hm7] at hs7 ⊢
          have HT7 := Lib.hid (HT6.out.below hb7)
          have HS7 : Hid (Sl tPair w7 (· ∉ X6) (.slice P7 m7 c7) L) := hs7.mono fun b hb hm => by have := HT6.out.cp.lt b hm; omega
          clear hs7 hb7 H14 H15 HT6
          have hy7 := HBX.out.below HT7.out.duo.my.be (by omega)
          have y3 := hy7.cell 3
          have hz7 : z0 < w7.heap.size := hy7.lt
          have hbad : inst S la x.l = (2, S) := by rw [inst, if_neg (by rw [HLA.out]; rintro ⟨-, h⟩; omega)]
          have hle : S.ents.length + x.l.length ≤ 100000 := by omega
          have h14 : Hid (∀ W, Below w7.heap.size w7 W → Calls Try.prog 14 #[.pointer (some ⟨z0 + 1 + 1, 0, none⟩)] W fun e w' => e = .returned (.int .i64 la) ∧ W = w') := fun W h => HLA.out ▸ slast_calls (z0 + 1 + 1) (z0 + 1) kv X6 S W (HT7.out.below h).duo.my.st
          have h13 : Hid (∀ W, Below w7.heap.size w7 W → Calls Try.prog 13 #[.pointer (some ⟨z0 + 1 + 1, 0, none⟩), .int .i64 la, .slice P np cp] W fun e w' => e = .returned (.int .i64 2) ∧ Hid (∃ kv' X', Trio wx w' (z0 + 1 + 1) (z0 + 1) kv' rb v pc mc kc X' S S S ∧ Out w7 w' X6 X')) := fun W h => by
            have := HT7.out.install (m := la) HP.out HX.out.2.2.1 (by omega) (by omega) hle (by have := HLA.out; omega) W h
            rw [hbad] at this
            exact this
          have hbW : Below w7.heap.size w7 w7 := Below.refl _ _
          clear hy7 hbad
          go_wp2_with fail
          apply via1 (fun w8 => Hid (∃ kv' X', Trio wx w8 (z0 + 1 + 1) (z0 + 1) kv' rb v pc mc kc X' S S S ∧ Out w7 w8 X6 X'))
          case main =>
            intro HKEY
            go_region_law (first
              | (go_simp; go_at_call 14; refine (h14.out _ ?_).mono ?_; (focus (repeat (first | with_reducible exact hbW | apply Below.drew))); rintro e wz ⟨rfl, rfl⟩)
              | (go_simp; go_at_call 13; refine (h13.out _ ?_).mono ?_; (focus (repeat (first | with_reducible exact hbW | apply Below.drew))); rintro e wB ⟨rfl, hR⟩))
            all_goals exact HKEY.out _ hR
          case key =>
            intro w8 h8
            obtain ⟨kv8, X8, hT8, hO8⟩ := h8.out
            have HS8 := Lib.hid (hO8.sl HS7.out)
            have HT8 := Lib.hid hT8
            clear h14 h13 y3 hbW HS7 HT7 h8 hT8 hO8
            have hy8 := HBX.out.below HT8.out.duo.my.be (by omega)
            have y3 := hy8.cell 3
            have hz8 : z0 < w8.heap.size := hy8.lt
            have hwr : IntKind.i64.wrap (la + 1) = la + 1 := IntWalk.i64_in _ (by omega)
            obtain ⟨gl, hgl⟩ : ∃ g, goodL x.l = g := ⟨_, rfl⟩
            obtain ⟨r, S9, hi⟩ : ∃ r S9, inst S (la + 1) x.l = (r, S9) := ⟨_, _, rfl⟩
            have hrg : (gl = true ∧ r = 0) ∨ (gl = false ∧ r = 2) := by
              rcases inst_cases S (la + 1) x.l with ⟨g1, -, g3⟩ | ⟨-, g2, -⟩ | ⟨g1, g3⟩
              · rw [hi] at g3; injection g3 with g3; exact .inl ⟨by rw [← hgl]; exact g1, g3⟩
              · exact absurd (by rw [HLA.out]) g2
              · rw [hi] at g3; injection g3 with g3; exact .inr ⟨by rw [← hgl]; exact g1, g3⟩
            have h14 : Hid (∀ W, Below w8.heap.size w8 W → Calls Try.prog 14 #[.pointer (some ⟨z0 + 1 + 1, 0, none⟩)] W fun e w' => e = .returned (.int .i64 la) ∧ W = w') := fun W h => HLA.out ▸ slast_calls (z0 + 1 + 1) (z0 + 1) kv8 X8 S W (HT8.out.below h).duo.my.st
            have h13 : Hid (∀ W, Below w8.heap.size w8 W → Calls Try.prog 13 #[.pointer (some ⟨z0 + 1 + 1, 0, none⟩), .int .i64 (la + 1), .slice P np cp] W fun e w' => e = .returned (.int .i64 r) ∧ Hid (∃ kv' X', Trio wx w' (z0 + 1 + 1) (z0 + 1) kv' rb v pc mc kc X' S9 S S ∧ Out w8 w' X8 X')) := fun W h => by
              have := HT8.out.install (m := la + 1) HP.out HX.out.2.2.1 (by omega) (by omega) hle (by have := HLA.out; omega) W h
              rw [hi] at this
              exact this
            have hbW : Below w8.heap.size w8 w8 := Below.refl _ _
            have HGL := Lib.hid hgl
            have HRG := Lib.hid hrg
            clear hy8 hi hgl hrg
            go_wp2_with fail
            apply via1 (fun w9 => Hid (∃ kv' X', Trio wx w9 (z0 + 1 + 1) (z0 + 1) kv' rb v pc mc kc X' S9 S S ∧ Out w8 w9 X8 X'))
            case main =>
              intro HKEY
              go_region_law (first
                | (go_simp; go_at_call 14; refine (h14.out _ ?_).mono ?_; (focus (repeat (first | with_reducible exact hbW | apply Below.drew))); rintro e wz ⟨rfl, rfl⟩)
                | (go_simp; go_at_call 13; refine (h13.out _ ?_).mono ?_; (focus (repeat (first | with_reducible exact hbW | apply Below.drew))); rintro e wB ⟨rfl, hR⟩))
              all_goals exact HKEY.out _ hR
            case key =>
              intro w9 h9
              obtain ⟨kv9, X9, hT9, hO9⟩ := h9.out
              have HS9 := Lib.hid (hO9.sl HS8.out)
              have HT9 := Lib.hid hT9
              have H14 := Lib.hid (slast_calls (z0 + 1 + 1) (z0 + 1) kv9 X9 S9 w9 hT9.duo.my.st)
              obtain ⟨lz, hlz⟩ : ∃ l, S9.last = l := ⟨_, rfl⟩
              rw [hlz] at H14
              have H22 := Lib.hid (HT9.out.coll lz w9 (Below.refl _ _))
              obtain ⟨r2, S10, hco⟩ : ∃ r S', coll S9 lz = (r, S') := ⟨_, _, rfl⟩
              rw [hco] at H22
              clear h14 h13 y3 hbW HS8 HT8 h9 hT9 hO9 hlz hco hwr
              go_wp2_with fail
              refine H14.out.mono ?_
              rintro e wz ⟨rfl, rfl⟩
              go_wp2_with fail
              refine H22.out.mono ?_
              rintro e w10 ⟨rfl, h10⟩
              obtain ⟨kvA, XA, hTA, hOA⟩ := h10.out
              have HSA := Lib.hid (hOA.sl HS9.out)
              have HTA := Lib.hid hTA
              have H14 := Lib.hid (slast_calls pc mc kc XA S w10 hTA.cp)
              have H15 := Lib.hid (scan_calls pc mc kc XA S cE cF S.last 1000 w10 hTA.cp (by decide) (by decide))
              rw [HSL.out] at H15
              rw [HLA.out] at H14 H15
              clear h10 H22 HS9 HT9 hTA hOA
              go_wp2_with fail
              refine H14.out.mono ?_
              rintro e wz ⟨rfl, rfl⟩
              go_wp2_with fail
              refine H15.out.mono ?_
              rintro e w11 ⟨u, rfl, hs11, hb11⟩
              obtain ⟨P11, c11, rfl, -⟩ := hs11.form
              have hm11 : L.length = m7 := HSA.out.length.1
              rw [hm11] at hs11 ⊢
              have HTB := Lib.hid (HTA.out.below hb11)
              have HSB := Lib.hid ((HSA.out.below hb11).mono (ok' := fun _ => True) fun _ _ => trivial)
              have HSC := Lib.hid (hs11.mono (ok' := fun _ => True) fun _ _ => trivial)
              clear hs11 hb11 H14 H15 HSA HTA hm11
              have hyB := HBX.out.below HTB.out.duo.my.be (by omega)
              have y3 := hyB.cell 3
              have hzB : z0 < w11.heap.size := hyB.lt
              have c1 : w11.cell? ⟨rb, 1, none⟩ = some (.int .i64 la) := by have := HTB.out.duo.ref.cells.2.1; rw [HLA.out] at this; exact this
              have hrB : rb < w11.heap.size := HTB.out.duo.ref.lt _ HTB.out.duo.ref.inP
              obtain ⟨vn, hvn⟩ : ∃ vn, vers S.ents = vn := ⟨_, rfl⟩
              have HPB := Lib.hid ((HTB.out.duo.arg HP.out).mono (ok' := fun _ => True) fun _ _ => trivial)
              have h17 : Hid (∀ W, Below w11.heap.size w11 W → Calls Try.prog 17 #[.slice P7 m7 c7, .slice P11 m7 c11] W fun e w' => e = .returned (.bool true) ∧ Below W.heap.size W w') := fun W hb => same_calls L P7 P11 m7 c7 c11 W (HSB.out.below hb) (HSC.out.below hb)
              have h21 : Hid (∀ W, Below w11.heap.size w11 W → Calls Try.prog 21 #[.slice P np cp] W fun e w' => e = .returned (.bool gl) ∧ Below W.heap.size W w') := fun W hb => HGL.out ▸ goodl_calls x.l P np cp W (HPB.out.below hb) HX.out.2.2.1
              have h14 : Hid (∀ W, Below w11.heap.size w11 W → Calls Try.prog 14 #[.pointer (some ⟨pc, 0, none⟩)] W fun e w' => e = .returned (.int .i64 la) ∧ Below W.heap.size W w') := fun W hb => HLA.out ▸ (slast_calls pc mc kc XA S W (HTB.out.below hb).cp).mono fun e w' ⟨h1, h2⟩ => ⟨h1, h2 ▸ Below.refl _ _⟩
              have h25 : Hid (∀ W, Below w11.heap.size w11 W → Calls Try.prog 25 #[.pointer (some ⟨pc, 0, none⟩)] W fun e w' => e = .returned (.int .i64 (vn : Nat)) ∧ Below W.heap.size W w') := fun W hb => hvn ▸ svers_calls pc mc kc XA S W (HTB.out.below hb).cp
              have h26 : Hid (∀ W, Below w11.heap.size w11 W → Calls Try.prog 26 #[.pointer (some ⟨rb, 0, none⟩)] W fun e w' => e = .returned (.int .i64 (vn : Nat)) ∧ Below W.heap.size W w') := fun W hb => hvn ▸ rvers_calls rb v XA S W (HTB.out.below hb).duo.ref
              have h12 : Hid (∀ W, Calls Try.prog 12 #[] W fun e w' => e = .returned (.bool true) ∧ Below W.heap.size W w') := fun W => lives_calls W
              have HBE : Hid (Below w.heap.size w w11) := HWX.out.trans (HTB.out.duo.my.be.mono HWX.out.size)
              clear hyB hvn HSB HSC HPB HTB
              rcases HRG.out with ⟨rfl, rfl⟩ | ⟨rfl, rfl⟩
              all_goals
                go_wp2_with fail
                refine wp_region_later (by kernel_rfl) (by kernel_rfl) ?_
                repeat (go_big_quiet_step (first
                  | (go_at_call 17; exact calls_later (h17.out _ (later_below _)))
                  | (go_at_call 21; exact calls_later (h21.out _ (later_below _)))
                  | (go_at_call 14; exact calls_later (h14.out _ (later_below _)))
                  | (go_at_call 25; exact calls_later (h25.out _ (later_below _)))
                  | (go_at_call 26; exact calls_later (h26.out _ (later_below _)))
                  | (go_at_call 12; exact calls_later (h12.out _))))
                refine wpQuiet_nil ?_
                rintro _ ⟨e, rfl⟩
                have HBz := Lib.hid (HBE.out.trans ((later_below e).mono HBE.out.size))
                generalize later w11 e = wz at *
                clear h17 h21 h14 h25 h26 h12 y3 c1
                go_wp2
                go_ret
                exact ⟨rfl, HBz.out⟩
end Go.Proofs.Ytnleldogmogkgaa
