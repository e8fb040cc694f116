import Derived.Test.YtnleldogmogkgaaW47
/-! One act, on both. -/
namespace Go.Proofs.Ytnleldogmogkgaa
open Go.RowKit Go.Op

/-- What an act leaves. -/
def Acted (w0 w w' : World) (pb mb rb : Nat) (X : List Nat) (S : Sto) : Prop := ∃ kv' v' X', Duo w0 w' pb mb kv' rb v' X' S S ∧ Out w w' X X'
theorem acted_inst {w0 w1 wA : World} {pb mb rb : Nat} {v : Value} {X : List Nat} {S : Sto} {m : Int} {l : List Pair} {A : Option Addr} {n c : Nat} {ok : Nat → Prop} {S2 : Sto} {r : Int} (hi : inst S m l = (r, S2)) (h : Hid (∃ kv' X', Duo w0 wA pb mb kv' rb v X' S2 S ∧ Out w1 wA X X')) (hl : Sl tPair w0 ok (.slice A n c) l) (hs : Short l) (hle : S.ents.length + l.length ≤ 100000) (hla : S.last < 1000000) :
    Hid (∀ W, Below wA.heap.size wA W → Calls Try.prog 42 #[.pointer (some ⟨rb, 0, none⟩), .int .i64 m, .slice A n c] W fun e w' => e = .returned (.int .i64 r) ∧ Hid (Acted w0 w1 w' pb mb rb X S2)) := fun W hb => by
  obtain ⟨kv1, X1, hD, hO⟩ := h.out
  refine (hD.rinst2 (m := m) hl hs hle hla W hb).mono ?_
  rintro e w' ⟨e1, h2⟩
  rw [hi] at e1 h2
  obtain ⟨v2, X2, h3, h4⟩ := h2.out
  exact ⟨e1, kv1, v2, X2, h3, hO.trans h4⟩
theorem acted_coll {w0 w1 wA : World} {pb mb rb : Nat} {v : Value} {X : List Nat} {S : Sto} {n : Int} {S2 : Sto} {r : Int} (hi : coll S n = (r, S2)) (h : Hid (∃ kv' X', Duo w0 wA pb mb kv' rb v X' S2 S ∧ Out w1 wA X X')) :
    Hid (∀ W, Below wA.heap.size wA W → Calls Try.prog 43 #[.pointer (some ⟨rb, 0, none⟩), .int .i64 n] W fun e w' => e = .returned (.int .i64 r) ∧ Hid (Acted w0 w1 w' pb mb rb X S2)) := fun W hb => by
  obtain ⟨kv1, X1, hD, hO⟩ := h.out
  refine (hD.rcoll2 n W hb).mono ?_
  rintro e w' ⟨e1, h2⟩
  rw [hi] at e1 h2
  obtain ⟨v2, X2, h3, h4⟩ := h2.out
  exact ⟨e1, kv1, v2, X2, h3, hO.trans h4⟩
theorem via1 {α : Type} {Goal : Prop} (H : α → Prop) {G : α → Prop} (main : Hid (∀ a, H a → G a) → Goal) (key : ∀ a, H a → G a) : Goal := main key

set_option maxHeartbeats 8000000 in
set_option maxRecDepth 100000 in
theorem act_calls (w0 w : World) (pb mb : Nat) (kv : Value) (rb : Nat) (v : Value) (X : List Nat) (S : Sto) (a : SAct) (P : Option Addr) (np cp : Nat) (h : Duo w0 w pb mb kv rb v X S S) (hp : Sl tPair w0 (fun _ => True) (.slice P np cp) a.l) (ha : ActOk a) (hle : S.ents.length + a.l.length ≤ 100000) (hla : S.last < 1000000) :
    Calls Try.prog 23 #[.pointer (some ⟨pb, 0, none⟩), .pointer (some ⟨rb, 0, none⟩), .agg #[.int .i64 a.kind, .int .i64 a.n, .int .i64 a.most, .slice P np cp, .string a.fr, .string a.to]] w fun e w' => e = .returned (.bool true) ∧ Acted w0 w w' pb mb rb X (actS S a) := by
  obtain ⟨w1, hw1⟩ : ∃ w1, w.alloc (.cells #[.int .i64 a.kind, .int .i64 a.n, .int .i64 a.most, .slice P np cp, .string a.fr, .string a.to] 25) = w1 := ⟨_, rfl⟩
  obtain ⟨ga, hga⟩ : ∃ ga, w.heap.size = ga := ⟨_, rfl⟩
  have hb1 : Below w.heap.size w w1 := by rw [← hw1]; exact (Below.refl _ _).alloc (Nat.le_refl _) _
  have hA1 : Blk w1 ga #[.int .i64 a.kind, .int .i64 a.n, .int .i64 a.most, .slice P np cp, .string a.fr, .string a.to] 25 := by rw [← hw1, ← hga]; exact Blk.new _ _ _
  have hD1 := h.below hb1
  have hgX : ga ∉ X := fun hm => by have := h.my.st.lt _ hm; omega
  have HX := Lib.hid hgX
  have HP := Lib.hid hp
  have HA := Lib.hid ha
  have HO1 : Hid (Out w w1 X X) := Out.of_below hb1 X
  have HD1 := Lib.hid hD1
  have HB1 := Lib.hid hA1
  have c1 := hD1.ref.cells.2.1
  have y0 := hA1.cell 0
  have y1 := hA1.cell 1
  have y2 := hA1.cell 2
  have y3 := hA1.cell 3
  have y4 := hA1.cell 4
  have y5 := hA1.cell 5
  have hla0 : 0 ≤ S.last := by have := h.my.st.ok.fl; have := h.my.st.ok.le; omega
  have hwr : IntKind.i64.wrap (S.last + 1) = S.last + 1 := IntWalk.i64_in _ (by omega)
  have hbW : Below w1.heap.size w1 w1 := Below.refl _ _
  have hgl : ga < w1.heap.size := hA1.lt
  have hrl : rb < w1.heap.size := hD1.ref.lt _ hD1.ref.inP
  obtain ⟨ak, hak⟩ : ∃ q, a.kind = q := ⟨_, rfl⟩
  have HAK := Lib.hid hak
  rw [hak] at y0 HB1 hw1 ⊢
  clear h hp ha hb1 hA1 hD1 hgX hak
  by_cases k0 : ak = 0
  · subst k0
    obtain ⟨r, S2, hi⟩ : ∃ r S2, inst S (S.last + 1) a.l = (r, S2) := ⟨_, _, rfl⟩
    have hact : actS S a = S2 := by simp [actS, HAK.out, hi]
    rw [hact]
    have HI := Lib.hid hi
    have hS : Hid (∀ W, Below w1.heap.size w1 W → Calls Try.prog 13 #[.pointer (some ⟨pb, 0, none⟩), .int .i64 (S.last + 1), .slice P np cp] W fun e w' => e = .returned (.int .i64 r) ∧ Hid (∃ kv' X', Duo w0 w' pb mb kv' rb v X' S2 S ∧ Out w1 w' X X')) := fun W hb => by
      have := HD1.out.inst2 (m := S.last + 1) HP.out HA.out.2.2.1 (by omega) (by omega) hle hla W hb
      rw [HI.out] at this
      exact this
    clear hact hi
    go_enter Try.func23, Try.ntmps23
    go_wp2_with fail
    clear hw1
    apply via1 (fun wB => Hid (Acted w0 w1 wB pb mb rb X S2))
    case main =>
      intro HKEY
      go_region_law (first
        | (go_simp; go_at_call 13; refine (hS.out _ ?_).mono ?_; (focus (repeat (first | with_reducible exact hbW | apply Below.drew))); rintro e wA ⟨rfl, hRA⟩
           have c1A : wA.cell? ⟨rb, 1, none⟩ = some (.int .i64 S.last) := (by obtain ⟨_, _, h1, _⟩ := hRA.out; exact h1.ref.cells.2.1)
           have hBA : Blk wA ga #[.int .i64 0, .int .i64 a.n, .int .i64 a.most, .slice P np cp, .string a.fr, .string a.to] 25 := (by obtain ⟨_, _, _, h2⟩ := hRA.out; exact h2.blk HB1.out HX.out)
           have y1A := hBA.cell 1
           have y3A := hBA.cell 3
           have hglA := hBA.lt
           have hrlA : rb < wA.heap.size := (by obtain ⟨_, _, h1, _⟩ := hRA.out; exact h1.ref.lt _ h1.ref.inP)
           have hbA : Below wA.heap.size wA wA := Below.refl _ _
           have h42 := acted_inst HI.out hRA HP.out HA.out.2.2.1 hle hla
           clear hRA hBA)
        | (go_simp; go_at_call 42; refine (h42.out _ ?_).mono ?_; (focus (repeat (first | with_reducible exact hbA | apply Below.drew))); rintro e wB ⟨rfl, hRB⟩))
      all_goals exact HKEY.out _ hRB
    case key =>
      intro wB hRB
      clear hS y0 y1 y2 y3 y4 y5 c1
      go_wp2
      go_ret
      obtain ⟨kv2, v2, X2, h1, h2⟩ := hRB.out
      exact ⟨rfl, kv2, v2, X2, h1, HO1.out.trans h2⟩
  by_cases k1 : ak = 1
  · subst k1
    clear k0
    obtain ⟨r, S2, hi⟩ : ∃ r S2, inst S a.n a.l = (r, S2) := ⟨_, _, rfl⟩
    have hact : actS S a = S2 := by simp [actS, HAK.out, hi]
    rw [hact]
    have HI := Lib.hid hi
    have hS : Hid (∀ W, Below w1.heap.size w1 W → Calls Try.prog 13 #[.pointer (some ⟨pb, 0, none⟩), .int .i64 (a.n), .slice P np cp] W fun e w' => e = .returned (.int .i64 r) ∧ Hid (∃ kv' X', Duo w0 w' pb mb kv' rb v X' S2 S ∧ Out w1 w' X X')) := fun W hb => by
      have := HD1.out.inst2 (m := a.n) HP.out HA.out.2.2.1 (HA.out.2.2.2.1) (HA.out.2.2.2.2) hle hla W hb
      rw [HI.out] at this
      exact this
    clear hact hi
    go_enter Try.func23, Try.ntmps23
    go_wp2_with fail
    clear hw1
    apply via1 (fun wB => Hid (Acted w0 w1 wB pb mb rb X S2))
    case main =>
      intro HKEY
      go_region_law (first
        | (go_simp; go_at_call 13; refine (hS.out _ ?_).mono ?_; (focus (repeat (first | with_reducible exact hbW | apply Below.drew))); rintro e wA ⟨rfl, hRA⟩
           have c1A : wA.cell? ⟨rb, 1, none⟩ = some (.int .i64 S.last) := (by obtain ⟨_, _, h1, _⟩ := hRA.out; exact h1.ref.cells.2.1)
           have hBA : Blk wA ga #[.int .i64 1, .int .i64 a.n, .int .i64 a.most, .slice P np cp, .string a.fr, .string a.to] 25 := (by obtain ⟨_, _, _, h2⟩ := hRA.out; exact h2.blk HB1.out HX.out)
           have y1A := hBA.cell 1
           have y3A := hBA.cell 3
           have hglA := hBA.lt
           have hrlA : rb < wA.heap.size := (by obtain ⟨_, _, h1, _⟩ := hRA.out; exact h1.ref.lt _ h1.ref.inP)
           have hbA : Below wA.heap.size wA wA := Below.refl _ _
           have h42 := acted_inst HI.out hRA HP.out HA.out.2.2.1 hle hla
           clear hRA hBA)
        | (go_simp; go_at_call 42; refine (h42.out _ ?_).mono ?_; (focus (repeat (first | with_reducible exact hbA | apply Below.drew))); rintro e wB ⟨rfl, hRB⟩))
      all_goals exact HKEY.out _ hRB
    case key =>
      intro wB hRB
      clear hS y0 y1 y2 y3 y4 y5 c1
      go_wp2
      go_ret
      obtain ⟨kv2, v2, X2, h1, h2⟩ := hRB.out
      exact ⟨rfl, kv2, v2, X2, h1, HO1.out.trans h2⟩
  by_cases k2 : ak = 2
  · subst k2
    clear k0 k1
    obtain ⟨r, S2, hi⟩ : ∃ r S2, coll S a.n = (r, S2) := ⟨_, _, rfl⟩
    have hact : actS S a = S2 := by simp [actS, HAK.out, hi]
    rw [hact]
    have HI := Lib.hid hi
    have hS : Hid (∀ W, Below w1.heap.size w1 W → Calls Try.prog 22 #[.pointer (some ⟨pb, 0, none⟩), .int .i64 a.n] W fun e w' => e = .returned (.int .i64 r) ∧ Hid (∃ kv' X', Duo w0 w' pb mb kv' rb v X' S2 S ∧ Out w1 w' X X')) := fun W hb => by
      have := HD1.out.coll2 a.n W hb
      rw [HI.out] at this
      exact this
    clear hact hi
    go_enter Try.func23, Try.ntmps23
    go_wp2_with fail
    clear hw1
    apply via1 (fun wB => Hid (Acted w0 w1 wB pb mb rb X S2))
    case main =>
      intro HKEY
      go_region_law (first
        | (go_simp; go_at_call 22; refine (hS.out _ ?_).mono ?_; (focus (repeat (first | with_reducible exact hbW | apply Below.drew))); rintro e wA ⟨rfl, hRA⟩
           have c1A : wA.cell? ⟨rb, 1, none⟩ = some (.int .i64 S.last) := (by obtain ⟨_, _, h1, _⟩ := hRA.out; exact h1.ref.cells.2.1)
           have hBA : Blk wA ga #[.int .i64 2, .int .i64 a.n, .int .i64 a.most, .slice P np cp, .string a.fr, .string a.to] 25 := (by obtain ⟨_, _, _, h2⟩ := hRA.out; exact h2.blk HB1.out HX.out)
           have y1A := hBA.cell 1
           have y3A := hBA.cell 3
           have hglA := hBA.lt
           have hrlA : rb < wA.heap.size := (by obtain ⟨_, _, h1, _⟩ := hRA.out; exact h1.ref.lt _ h1.ref.inP)
           have hbA : Below wA.heap.size wA wA := Below.refl _ _
           have h42 := acted_coll HI.out hRA
           clear hRA hBA)
        | (go_simp; go_at_call 43; refine (h42.out _ ?_).mono ?_; (focus (repeat (first | with_reducible exact hbA | apply Below.drew))); rintro e wB ⟨rfl, hRB⟩))
      all_goals exact HKEY.out _ hRB
    case key =>
      intro wB hRB
      clear hS y0 y1 y2 y3 y4 y5 c1
      go_wp2
      go_ret
      obtain ⟨kv2, v2, X2, h1, h2⟩ := hRB.out
      exact ⟨rfl, kv2, v2, X2, h1, HO1.out.trans h2⟩
  have hact : actS S a = S := by simp [actS, HAK.out, k0, k1, k2]
  rw [hact]
  have q0 : (ak == 0) = false := by simpa using k0
  have q1 : (ak == 1) = false := by simpa using k1
  have q2 : (ak == 2) = false := by simpa using k2
  have HF := Lib.hid (max_of HA.out.1)
  have HT := Lib.hid (max_of HA.out.2.1)
  clear hact k0 k1 k2
  by_cases k3 : ak = 3
  · subst k3
    have HS := Lib.hid (scan_calls pb mb kv X S a.fr a.to a.n a.most w1 HD1.out.my.st HT.out HF.out)
    go_enter Try.func23, Try.ntmps23
    go_wp2_with fail
    refine HS.out.mono ?_
    rintro e w2 ⟨u, rfl, hs2, hb2⟩
    obtain ⟨P2, c2, rfl, -⟩ := hs2.form
    have HS2 := Lib.hid hs2
    have HB2 := Lib.hid hb2
    have HD2 := Lib.hid (HD1.out.below hb2)
    have hA2 := HB1.out.below hb2 HB1.out.lt
    have y1 := hA2.cell 1
    have y2 := hA2.cell 2
    have y4 := hA2.cell 4
    have y5 := hA2.cell 5
    have HR := Lib.hid (rscan_calls rb v X S a.fr a.to a.n a.most w2 HD2.out.ref)
    obtain ⟨l, er, hl⟩ : ∃ l er, scanS S a.fr a.to a.n a.most = (l, er) := ⟨_, _, rfl⟩
    rw [hl] at HS2 HR ⊢
    have HS2' := Lib.hid HS2.out
    clear hs2 hb2 hA2 HS hl HS2
    go_wp2_with fail
    refine HR.out.mono ?_
    rintro e w3 ⟨u, rfl, hs3, hb3⟩
    obtain ⟨P3, c3, rfl, -⟩ := hs3.form
    have HSM := Lib.hid (same_calls l P2 P3 _ c2 c3 w3 ((HS2'.out.below hb3).mono fun _ _ => trivial) (hs3.mono fun _ _ => trivial))
    have HB3 := Lib.hid hb3
    clear hs3 hb3 HR y1 y2 y4 y5
    go_wp2_with fail
    refine HSM.out.mono ?_
    rintro e w4 ⟨rfl, hb4⟩
    have HB4 := Lib.hid hb4
    clear hb4 HSM
    go_wp2
    go_ret
    exact ⟨rfl, kv, v, X, (HD2.out.below HB3.out).below HB4.out, HO1.out.trans (Out.of_below ((HB2.out.trans (HB3.out.mono HB2.out.size)).trans (HB4.out.mono (HB2.out.trans (HB3.out.mono HB2.out.size)).size)) X)⟩
  have q3 : (ak == 3) = false := by simpa using k3
  clear k3
  by_cases k4 : ak = 4
  · subst k4
    have HS := Lib.hid (sget_calls pb mb kv X S a.fr a.n w1 HD1.out.my.st HF.out)
    go_enter Try.func23, Try.ntmps23
    go_wp2_with fail
    refine HS.out.mono ?_
    rintro e w2 ⟨rfl, hb2⟩
    have HB2 := Lib.hid hb2
    have HD2 := Lib.hid (HD1.out.below hb2)
    have hA2 := HB1.out.below hb2 HB1.out.lt
    have y1 := hA2.cell 1
    have y4 := hA2.cell 4
    have HR := Lib.hid (rget2_calls rb v X S a.fr a.n w2 HD2.out.ref)
    obtain ⟨l, er, hl⟩ : ∃ l er, getS S a.fr a.n = (l, er) := ⟨_, _, rfl⟩
    rw [hl] at HR ⊢
    clear hb2 hA2 HS hl
    go_wp2_with fail
    refine HR.out.mono ?_
    rintro e w3 ⟨rfl, hb3⟩
    have HB3 := Lib.hid hb3
    clear hb3 HR y1 y4
    go_wp2
    go_ret
    exact ⟨rfl, kv, v, X, HD2.out.below HB3.out, HO1.out.trans (Out.of_below (HB2.out.trans (HB3.out.mono HB2.out.size)) X)⟩
  have q4 : (ak == 4) = false := by simpa using k4
  clear k4
  go_enter Try.func23, Try.ntmps23
  go_wp2
  go_ret
  exact ⟨rfl, kv, v, X, HD1.out, HO1.out⟩
end Go.Proofs.Ytnleldogmogkgaa
