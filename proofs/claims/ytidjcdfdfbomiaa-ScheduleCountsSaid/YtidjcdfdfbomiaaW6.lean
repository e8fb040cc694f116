import Derived.Test.YtidjcdfdfbomiaaPure2
/-! Run. -/
namespace Go.Proofs.Ytidjcdfdfbomiaa
open Go.RowKit Go.Op

theorem Desk.grown {w w' : World} {gd ga : Nat} {A : Option Addr} {n cap : Nat} {at_ : List Nat} {row : Option Nat} (h : Desk w gd ga A n cap at_) (hg : w.grownBy w' row) (h1 : row ≠ some gd) (h2 : row ≠ some ga) : Desk w' gd ga A n cap at_ := by
  obtain ⟨k1, ⟨cs, k2, k3⟩, k4⟩ := h
  exact ⟨(hg.block gd k1.lt (fun e => h1 e.symm)).trans k1, ⟨cs, (hg.block ga k2.lt (fun e => h2 e.symm)).trans k2, k3⟩, k4⟩
theorem below_row {B : Nat} {a w w' : World} {row : Option Nat} (h : Below B a w) (hg : w.grownBy w' row) (hB : B ≤ w.heap.size) (hr : ∀ k, row = some k → B ≤ k) : Below B a w' := h.grown hg hB hr
theorem info48 : (Try.prog.info? 48).map (fun i => (i.zero, i.size, i.bytes)) = some (some (.agg #[.int .i64 0, .int .i64 0, .bool false, .string ⟨#[]⟩, .string ⟨#[]⟩, .int .i64 0]), 6, 64) := by kernel_rfl
theorem max_nat (x : Int) : (max x 0) = ((x.toNat : Nat) : Int) := by omega

/-- A slice cut off at its front, wherever it lies. -/
theorem sl_from {α : Type} {t : Ty α} {w : World} {ok : Nat → Prop} {A : Option Addr} {n cap : Nat} {l : List α} (h : Sl t w ok (.slice A n cap) l) {k : Nat} (hk : k ≤ n) (hs : 0 < t.sz) :
    ∃ A', A' = (if cap = k then A else A.map (·.add (k * t.sz))) ∧ Sl t w ok (.slice A' (n - k) (cap - k)) (l.drop k) := by
  obtain ⟨hln, hcap, hm⟩ := h.length
  refine ⟨_, rfl, ?_⟩
  by_cases hc : cap = k
  · rw [if_pos hc]
    have e1 : l.drop k = [] := List.drop_of_length_le (by omega)
    rw [e1, show n - k = 0 by omega]
    obtain ⟨A', cap', cs, e, h1, h2, h3, h4⟩ := h
    injection e with e1 e2 e3
    exact ⟨A, cap - k, [], rfl, Nat.zero_le _, ⟨by omega, fun h => by have := h2.2 (by rw [← e1]; exact h); omega⟩, rfl, .inl rfl⟩
  · rw [if_neg hc]
    obtain ⟨A', cap', cs, e, h1, h2, h3, h4⟩ := id h
    injection e with e1 e2 e3
    subst e1 e2 e3
    rcases h4 with h4 | ⟨b, off, rfl, hb, hcell⟩
    · have hl0 := h3.len
      rw [h4, List.length_nil] at hl0
      have h0 : l.length = 0 := by
        rcases Nat.eq_zero_or_pos l.length with h | h
        · exact h
        · have := Nat.mul_pos h hs; omega
      rw [show l.drop k = [] from List.drop_of_length_le (by omega), show l.length - k = 0 by omega]
      exact ⟨_, cap - k, [], rfl, Nat.zero_le _, ⟨by omega, fun h => by have := h2.2 (by simpa using h); omega⟩, rfl, .inl rfl⟩
    · have h5 := h.drop (k := k) hk
      have e4 : (some (⟨b, off, .none⟩ : Addr)).map (·.add (k * t.sz)) = some ⟨b, off + k * t.sz, .none⟩ := by simp [Addr.add]
      rw [e4]; exact h5

set_option maxHeartbeats 8000000 in
theorem run_calls (l : List Plan) (A : Option Addr) (n cap : Nat) (pk0 : List Int) (A2 : Option Addr) (n2 cap2 : Nat) (w : World) (hl : Sl tPlan w (fun _ => True) (.slice A n cap) l) (hp : Sl tI w (fun _ => True) (.slice A2 n2 cap2) pk0) (hgd : good l = true) :
    Calls Try.prog 13 #[.slice A n cap, .slice A2 n2 cap2] w fun e w' => ∃ v is, e = .returned v ∧ RunRel l (List.replicate n 0) pk0 is ∧ Sl tOp w' (fun b => w.heap.size ≤ b) v (opsOf l (List.replicate n 0) is) ∧ (opsOf l (List.replicate n 0) is).length ≤ 12800 ∧ Below w.heap.size w w' := by
  obtain ⟨hln, hcap, hcm⟩ := hl.length
  have H := Lib.hid hl.inb
  have HG := Lib.hid (good_calls l A n cap w hl)
  rw [hgd] at HG
  obtain ⟨hg64, hgp⟩ := good_len hgd
  have HGP := Lib.hid hgp
  have HP := Lib.hid hp.inb
  clear hl hp hgp hgd
  go_enter Try.func13, Try.ntmps13
  go_wp2_with fail
  refine HG.out.mono ?_
  rintro e w1 ⟨rfl, hb1⟩
  clear HG
  go_wp2_with fail
  refine (lay_calls A n cap w1 (by omega)).mono ?_
  rintro e w2 ⟨gd, ga, rfl, hd2, hgd1, hga1, hb2⟩
  have HB2 := Lib.hid (hb1.trans (hb2.mono hb1.size))
  have HD2 := Lib.hid hd2
  have hgd0 : w.heap.size ≤ gd := Nat.le_trans hb1.size hgd1
  have hga0 : w.heap.size ≤ ga := Nat.le_trans hb1.size hga1
  clear hb1 hb2 hd2 hgd1 hga1
  go_wp2_with fail
  refine (open_calls l A n cap gd ga _ w2 ((H.out.below HB2.out).mono fun _ _ => trivial) HD2.out (by omega)).mono ?_
  rintro e w3 ⟨vo, rfl, ho3, hb3⟩
  obtain ⟨Ao, co, rfl, hoc1, hoc2, -⟩ := ho3.form
  rw [List.length_map] at ho3 hoc1 ⊢
  have HB3 := Lib.hid (HB2.out.trans (hb3.mono HB2.out.size))
  have HD3 := Lib.hid (HD2.out.below hb3)
  have HO3 := Lib.hid ho3
  have HW0 := Lib.hid (Own.nil tOp w3 w.heap.size 48 (fun _ => False))
  clear ho3 hb3 HB2 HD2
  go_wp2
  have hrest : Hid (rest l (List.replicate n 0) ≤ 12800) := by
    have := rest_le (l := l) (at_ := List.replicate n 0) fun p hp => (HGP.out p hp).1
    show _ ≤ _
    omega
  obtain ⟨T, hT⟩ : ∃ T, rest l (List.replicate n 0) = T := ⟨_, rfl⟩
  rw [hT] at hrest
  have hT0 := Lib.hid hT
  clear hT
  have hK0 : Hid (∀ is, RunRel l (List.replicate n 0) pk0 is → ∃ is0, RunRel l (List.replicate n 0) pk0 is0 ∧ [] ++ opsOf l (List.replicate n 0) is = opsOf l (List.replicate n 0) is0) := fun is h => ⟨is, h, rfl⟩
  have HP3 := Lib.hid ((HP.out.below HB3.out).mono (ok' := fun b => b < w.heap.size) fun b h => h.2)
  go_loopw [1, 6, 7, 8] (fun vp vv vo _ w' => ∃ (at_ : List Nat) (pk : List Int) (acc : List HOp) (A2 : Option Addr) (n2 c2 : Nat) (A3 : Option Addr) (c3 : Nat) (A4 : Option Addr) (c4 : Nat),
      vp = .slice A2 n2 c2 ∧ Hid (Sl tI w' (fun b => b < w.heap.size) (.slice A2 n2 c2) pk) ∧ vv = .slice A3 acc.length c3 ∧ Hid (Own tOp w' w.heap.size 48 (fun _ => False) (.slice A3 acc.length c3) acc) ∧ Hid ((Value.slice A3 acc.length c3).ownBlock ≠ some gd ∧ (Value.slice A3 acc.length c3).ownBlock ≠ some ga) ∧
      vo = .slice A4 (openL l at_).length c4 ∧ Hid (Sl tI w' (fun _ => True) (.slice A4 (openL l at_).length c4) ((openL l at_).map fun i : Nat => (i : Int))) ∧ Hid (Desk w' gd ga A n cap at_) ∧ acc.length + rest l at_ = T ∧
      Hid (∀ is, RunRel l at_ pk is → ∃ is0, RunRel l (List.replicate n 0) pk0 is0 ∧ acc ++ opsOf l at_ is = opsOf l (List.replicate n 0) is0) ∧ Hid (Below w.heap.size w w')) (fun _ vv _ _ _ => T - lenOf vv)
  case atStart => exact ⟨List.replicate n 0, pk0, [], A2, n2, cap2, none, 0, Ao, co, rfl, HP3, rfl, HW0, ⟨by simp [Value.ownBlock], by simp [Value.ownBlock]⟩, rfl, HO3.out.mono fun _ _ => trivial, HD3, by rw [hT0.out]; simp, hK0, HB3⟩
  case round =>
    clear HP3 HW0 HO3 HD3 hK0 HB3 hoc1 hoc2
    obtain ⟨at_, pk, acc, A2, n2, c2, A3, c3, A4, c4, rfl, hpk, rfl, hO, hne, rfl, hop, hd, hrs, hK, hb⟩ := hrel
    obtain ⟨hpl, hpc, hpcm⟩ := hpk.out.length
    obtain ⟨hol, hoc, hocm⟩ := hop.out.length
    by_cases hopen : openL l at_ = []
    · have hz : (openL l at_).length = 0 := by rw [hopen]; rfl
      have hdone : Hid (RunRel l at_ pk []) := RunRel.done hopen
      generalize (openL l at_).length = m at *
      subst hz
      go_wp2
      go_ret
      obtain ⟨is0, h1, h2⟩ := hK.out [] hdone.out
      rw [opsOf, List.append_nil] at h2
      refine ⟨_, is0, rfl, h1, ?_, ?_, hb.out⟩
      · rw [← h2]; exact hO.out.sl.mono fun b hb => hb.elim False.elim And.left
      · rw [← h2]; have := hrest.out; omega
    · have hm : 0 < (openL l at_).length := List.length_pos_iff.2 hopen
      rcases pk with _ | ⟨x, pk⟩
      · obtain rfl : n2 = 0 := by simpa using hpl.symm
        obtain ⟨i, hi⟩ := some_at hm
        obtain ⟨b4, off4, rfl, hb4, i0⟩ := sl_int (z := (i : Int)) hop.out (i := 0) (by rw [List.getElem?_map, hi]; rfl)
        rw [Nat.add_zero] at i0
        obtain ⟨p, a, o, hp, ha, hoo⟩ := left_get (open_left (List.mem_of_getElem? hi))
        have hstep : Hid (∀ is, RunRel l (inc at_ i) [] is → RunRel l at_ [] (i :: is)) := fun is h => RunRel.step hi h
        have hoe := opAt_eq hp ha hoo
        have hie := inc_eq ha
        have halt : a < p.ops.length := (List.getElem?_eq_some_iff.1 hoo).1
        have hri := rest_inc hp ha halt
        rw [← hie] at hri
        have HDO := Lib.hid (fun X (h1 : Sl tPlan X (fun _ => True) (.slice A n cap) l) (h2 : Desk X gd ga A n cap at_) => do_calls l A n cap gd ga at_ i p a o X h1 h2 hp ha hoo)
        rw [← hie] at HDO
        clear hp ha hoo hie halt hi
        go_wp2_with fail
        have hdw : Hid (Desk wr gd ga A n cap at_) := hd.out.below (Below.refl _ _)
        have hbw := Lib.hid (hb.out.trans (((Below.refl _ _) : Below wr.heap.size wr wr).mono hb.out.size))
        have hOw := Lib.hid (hO.out.below (Below.refl _ _))
        refine (HDO.out wr ((H.out.below hbw.out).mono fun _ _ => trivial) hdw.out).mono ?_
        rintro e w5 ⟨rfl, hd5, hg5⟩
        have HD5 := Lib.hid hd5
        have HO5 := Lib.hid (hOw.out.grown hg5 (fun b hb e => hne.out.2 (by rw [hb, e])) (fun _ h => h.elim))
        have HB5 := Lib.hid (below_row hbw.out hg5 hbw.out.size (fun k h => by injection h with h; omega))
        have hpk5 : Hid (Sl tI w5 (fun b => b < w.heap.size) (.slice A2 0 c2) []) := hpk.out.step fun b hbb => hg5.block b (by have := hbw.out.size; omega) (fun e => by injection e with e; omega)
        have hK5 : Hid (tOp.K w5 (fun b => False ∧ (Value.slice A3 acc.length c3).ownBlock ≠ some b) o [.int .i64 o.kind, .int .i64 o.sess, .bool o.strict, .string o.key, .string o.val, .int .i64 o.n]) := rfl
        have hacc : acc.length < 12800 := by have := hrest.out; omega
        clear hd5 hdw hbw hOw HDO hd hO hb
        go_wp2_with (at_builtin; refine wpList_app1 (o := ⟨some 41, _, _, _, _, _⟩) (t := tOp) (w0 := w) (g := w5.heap.size) (cs := [.int .i64 o.kind, .int .i64 o.sess, .bool o.strict, .string o.key, .string o.val, .int .i64 o.n]) (y := o) w.heap.size rfl _ _ 38 48 _ 64 rfl Try.underlying38 info48 rfl (by decide) (by decide) rfl rfl rfl HO5.out hK5.out HB5.out ?c2 ?c3 ?_; (case c2 => exact HB5.out.size); (case c3 => omega); intro v6 w6 hO6 hB6 hg6 hv6)
        have hv6' : v6.ownBlock ≠ some gd ∧ v6.ownBlock ≠ some ga := by
          have h1 := HD5.out.lt
          rcases hv6 with h | ⟨b, h, h2⟩
          · rw [h]; exact hne.out
          · rw [h]; exact ⟨fun e => by injection e with e; omega, fun e => by injection e with e; omega⟩
        have HD6 := Lib.hid (HD5.out.grown hg6 hne.out.1 hne.out.2)
        have hpk6 : Hid (Sl tI w6 (fun b => b < w.heap.size) (.slice A2 0 c2) []) := hpk5.out.step fun b hbb => hg6.block b (by have := HB5.out.size; omega) (fun e => by have := (HO5.out.lo e.symm).1; omega)
        have HO6 := Lib.hid hO6
        have HB6 := Lib.hid hB6
        obtain ⟨A6, c6, rfl, hc61, hc62, -⟩ := hO6.form
        clear hO6 hB6 hg6 hv6 HD5 HO5 HB5 hpk5 hK5
        go_wp2_with fail
        refine (open_calls l A n cap gd ga (inc at_ i) w6 ((H.out.below HB6.out).mono fun _ _ => trivial) HD6.out (by omega)).mono ?_
        rintro e w7 ⟨v7, rfl, ho7, hb7⟩
        obtain ⟨A7, c7, rfl, hc71, hc72, -⟩ := ho7.form
        rw [List.length_map] at ho7 hc71 ⊢
        have hO7 := Lib.hid (HO6.out.below hb7)
        have hd7 := Lib.hid (HD6.out.below hb7)
        have hp7 := Lib.hid (hpk6.out.below hb7)
        have hb8 := Lib.hid (HB6.out.trans (hb7.mono HB6.out.size))
        have ho8 := Lib.hid (ho7.mono (ok' := fun _ => True) fun _ _ => trivial)
        have hv7 := Lib.hid hv6'
        clear ho7 hb7 HO6 HD6 hpk6 HB6 hv6'
        go_wp2
        refine ⟨⟨inc at_ i, [], acc ++ [o], _, _, _, _, _, _, _, rfl, hp7, by rw [List.length_append]; rfl, hO7, hv7, rfl, ho8, hd7, by rw [List.length_append, List.length_singleton]; omega, ?_, hb8⟩, ?_⟩
        · intro is h
          obtain ⟨is0, h1, h2⟩ := hK.out _ (hstep.out is h)
          refine ⟨is0, h1, ?_⟩
          rw [← h2, opsOf, hoe, List.append_assoc]; rfl
        · simp only [lenOf]; omega
      · obtain ⟨m, hmm⟩ : ∃ m, (openL l at_).length = m := ⟨_, rfl⟩
        obtain ⟨r, hr⟩ : ∃ r, x.toNat % m = r := ⟨_, rfl⟩
        have hrm : r < (openL l at_).length := by rw [← hr, ← hmm]; exact Nat.mod_lt _ hm
        obtain ⟨i, hi0⟩ := some_at hrm
        have hi : (openL l at_)[pickOf (x :: pk) (openL l at_).length]? = some i := by
          show (openL l at_)[x.toNat % (openL l at_).length]? = _
          rw [hmm, hr]; exact hi0
        obtain ⟨b4, off4, rfl, hb4, i0⟩ := sl_int (z := (i : Int)) hop.out (i := r) (by rw [List.getElem?_map, hi0]; rfl)
        obtain ⟨b2, off2, hA2, hb2, x0⟩ := sl_int hpk.out (i := 0) (z := x) rfl
        rw [Nat.add_zero] at x0
        have h1n : 1 ≤ n2 := by rw [← hpl]; simp
        obtain ⟨As, hAs, htl⟩ := sl_from hpk.out h1n (by decide)
        have hsl : ∀ W', (Instr.slice 34 (.slice A2 n2 c2) (some (.int .i64 1)) none none).run Try.prog W' = .ok (.slice As (n2 - 1) (c2 - 1)) W' := fun W' => by
          rw [hAs]; exact run_slice_lo (sz := 1) (k := 1) Try.underlying34 (by kernel_rfl) A2 h1n W'
        have hTL : Hid (Sl tI wr (fun b => b < w.heap.size) (.slice As (n2 - 1) (c2 - 1)) pk) := htl
        have hlo : 0 < off2 + 1 := by omega
        subst hA2
        clear hAs htl hi0
        obtain ⟨p, a, o, hp, ha, hoo⟩ := left_get (open_left (List.mem_of_getElem? hi))
        have hstep : Hid (∀ is, RunRel l (inc at_ i) pk is → RunRel l at_ (x :: pk) (i :: is)) := fun is h => RunRel.step hi h
        have hoe := opAt_eq hp ha hoo
        have hie := inc_eq ha
        have halt : a < p.ops.length := (List.getElem?_eq_some_iff.1 hoo).1
        have hri := rest_inc hp ha halt
        rw [← hie] at hri
        have HDO := Lib.hid (fun X (h1 : Sl tPlan X (fun _ => True) (.slice A n cap) l) (h2 : Desk X gd ga A n cap at_) => do_calls l A n cap gd ga at_ i p a o X h1 h2 hp ha hoo)
        rw [← hie] at HDO
        clear hp ha hoo hie halt hi
        have er : ((x.toNat : Int)) % (m : Int) = (r : Int) := by rw [← hr]; exact (Int.natCast_emod x.toNat m).symm
        have er2 : Int.tmod (x.toNat : Int) (m : Int) = (r : Int) := by rw [Int.tmod_eq_emod_of_nonneg (by omega)]; exact er
        have em : ¬ (m : Int) = 0 := by omega
        rw [hmm] at hop hol hoc hrm ⊢
        rcases Int.lt_trichotomy x 0 with hx | hx | hx
        · have hr0 : r = 0 := by rw [← hr, show x.toNat = 0 by omega, Nat.zero_mod]
          subst hr0
          rw [Nat.add_zero] at i0
          go_wp2_with fail
          go_region
          have hb4w : Hid (Below wr.heap.size wr wr.drew) := (Below.refl _ _).drew
          have hTLw := Lib.hid (hTL.out.below hb4w.out)
          have i0' : wr.drew.cell? ⟨b4, off4, none⟩ = some (.int .i64 (i : Int)) := i0
          have hb4' : b4 < wr.drew.heap.size := hb4
          generalize wr.drew = w4 at *
          go_wp2_with fail
          have hdw : Hid (Desk w4 gd ga A n cap at_) := hd.out.below hb4w.out
          have hbw := Lib.hid (hb.out.trans (hb4w.out.mono hb.out.size))
          have hOw := Lib.hid (hO.out.below hb4w.out)
          refine (HDO.out w4 ((H.out.below hbw.out).mono fun _ _ => trivial) hdw.out).mono ?_
          rintro e w5 ⟨rfl, hd5, hg5⟩
          have HD5 := Lib.hid hd5
          have HO5 := Lib.hid (hOw.out.grown hg5 (fun b hb e => hne.out.2 (by rw [hb, e])) (fun _ h => h.elim))
          have HB5 := Lib.hid (below_row hbw.out hg5 hbw.out.size (fun k h => by injection h with h; omega))
          have hpk5 : Hid (Sl tI w5 (fun b => b < w.heap.size) (.slice As (n2 - 1) (c2 - 1)) pk) := hTLw.out.step fun b hbb => hg5.block b (by have := hbw.out.size; omega) (fun e => by injection e with e; omega)
          have hK5 : Hid (tOp.K w5 (fun b => False ∧ (Value.slice A3 acc.length c3).ownBlock ≠ some b) o [.int .i64 o.kind, .int .i64 o.sess, .bool o.strict, .string o.key, .string o.val, .int .i64 o.n]) := rfl
          have hacc : acc.length < 12800 := by have := hrest.out; omega
          clear hd5 hdw hbw hOw HDO hd hO hb
          go_wp2_with (at_builtin; refine wpList_app1 (o := ⟨some 41, _, _, _, _, _⟩) (t := tOp) (w0 := w) (g := w5.heap.size) (cs := [.int .i64 o.kind, .int .i64 o.sess, .bool o.strict, .string o.key, .string o.val, .int .i64 o.n]) (y := o) w.heap.size rfl _ _ 38 48 _ 64 rfl Try.underlying38 info48 rfl (by decide) (by decide) rfl rfl rfl HO5.out hK5.out HB5.out ?c2 ?c3 ?_; (case c2 => exact HB5.out.size); (case c3 => omega); intro v6 w6 hO6 hB6 hg6 hv6)
          have hv6' : v6.ownBlock ≠ some gd ∧ v6.ownBlock ≠ some ga := by
            have h1 := HD5.out.lt
            rcases hv6 with h | ⟨b, h, h2⟩
            · rw [h]; exact hne.out
            · rw [h]; exact ⟨fun e => by injection e with e; omega, fun e => by injection e with e; omega⟩
          have HD6 := Lib.hid (HD5.out.grown hg6 hne.out.1 hne.out.2)
          have hpk6 : Hid (Sl tI w6 (fun b => b < w.heap.size) (.slice As (n2 - 1) (c2 - 1)) pk) := hpk5.out.step fun b hbb => hg6.block b (by have := HB5.out.size; omega) (fun e => by have := (HO5.out.lo e.symm).1; omega)
          have HO6 := Lib.hid hO6
          have HB6 := Lib.hid hB6
          obtain ⟨A6, c6, rfl, hc61, hc62, -⟩ := hO6.form
          clear hO6 hB6 hg6 hv6 HD5 HO5 HB5 hpk5 hK5
          go_wp2_with fail
          refine (open_calls l A n cap gd ga (inc at_ i) w6 ((H.out.below HB6.out).mono fun _ _ => trivial) HD6.out (by omega)).mono ?_
          rintro e w7 ⟨v7, rfl, ho7, hb7⟩
          obtain ⟨A7, c7, rfl, hc71, hc72, -⟩ := ho7.form
          rw [List.length_map] at ho7 hc71 ⊢
          have hO7 := Lib.hid (HO6.out.below hb7)
          have hd7 := Lib.hid (HD6.out.below hb7)
          have hp7 := Lib.hid (hpk6.out.below hb7)
          have hb8 := Lib.hid (HB6.out.trans (hb7.mono HB6.out.size))
          have ho8 := Lib.hid (ho7.mono (ok' := fun _ => True) fun _ _ => trivial)
          have hv7 := Lib.hid hv6'
          clear ho7 hb7 HO6 HD6 hpk6 HB6 hv6'
          go_wp2
          refine ⟨⟨inc at_ i, pk, acc ++ [o], _, _, _, _, _, _, _, rfl, hp7, by rw [List.length_append]; rfl, hO7, hv7, rfl, ho8, hd7, by rw [List.length_append, List.length_singleton]; omega, ?_, hb8⟩, ?_⟩
          · intro is h
            obtain ⟨is0, h1, h2⟩ := hK.out _ (hstep.out is h)
            refine ⟨is0, h1, ?_⟩
            rw [← h2, opsOf, hoe, List.append_assoc]; rfl
          · simp only [lenOf]; omega
        · subst hx
          have hr0 : r = 0 := by rw [← hr, show (0 : Int).toNat = 0 from rfl, Nat.zero_mod]
          subst hr0
          rw [Nat.add_zero] at i0
          go_wp2_with fail
          go_region
          have hb4w : Hid (Below wr.heap.size wr wr.drew) := (Below.refl _ _).drew
          have hTLw := Lib.hid (hTL.out.below hb4w.out)
          have i0' : wr.drew.cell? ⟨b4, off4, none⟩ = some (.int .i64 (i : Int)) := i0
          have hb4' : b4 < wr.drew.heap.size := hb4
          generalize wr.drew = w4 at *
          go_wp2_with fail
          have hdw : Hid (Desk w4 gd ga A n cap at_) := hd.out.below hb4w.out
          have hbw := Lib.hid (hb.out.trans (hb4w.out.mono hb.out.size))
          have hOw := Lib.hid (hO.out.below hb4w.out)
          refine (HDO.out w4 ((H.out.below hbw.out).mono fun _ _ => trivial) hdw.out).mono ?_
          rintro e w5 ⟨rfl, hd5, hg5⟩
          have HD5 := Lib.hid hd5
          have HO5 := Lib.hid (hOw.out.grown hg5 (fun b hb e => hne.out.2 (by rw [hb, e])) (fun _ h => h.elim))
          have HB5 := Lib.hid (below_row hbw.out hg5 hbw.out.size (fun k h => by injection h with h; omega))
          have hpk5 : Hid (Sl tI w5 (fun b => b < w.heap.size) (.slice As (n2 - 1) (c2 - 1)) pk) := hTLw.out.step fun b hbb => hg5.block b (by have := hbw.out.size; omega) (fun e => by injection e with e; omega)
          have hK5 : Hid (tOp.K w5 (fun b => False ∧ (Value.slice A3 acc.length c3).ownBlock ≠ some b) o [.int .i64 o.kind, .int .i64 o.sess, .bool o.strict, .string o.key, .string o.val, .int .i64 o.n]) := rfl
          have hacc : acc.length < 12800 := by have := hrest.out; omega
          clear hd5 hdw hbw hOw HDO hd hO hb
          go_wp2_with (at_builtin; refine wpList_app1 (o := ⟨some 41, _, _, _, _, _⟩) (t := tOp) (w0 := w) (g := w5.heap.size) (cs := [.int .i64 o.kind, .int .i64 o.sess, .bool o.strict, .string o.key, .string o.val, .int .i64 o.n]) (y := o) w.heap.size rfl _ _ 38 48 _ 64 rfl Try.underlying38 info48 rfl (by decide) (by decide) rfl rfl rfl HO5.out hK5.out HB5.out ?c2 ?c3 ?_; (case c2 => exact HB5.out.size); (case c3 => omega); intro v6 w6 hO6 hB6 hg6 hv6)
          have hv6' : v6.ownBlock ≠ some gd ∧ v6.ownBlock ≠ some ga := by
            have h1 := HD5.out.lt
            rcases hv6 with h | ⟨b, h, h2⟩
            · rw [h]; exact hne.out
            · rw [h]; exact ⟨fun e => by injection e with e; omega, fun e => by injection e with e; omega⟩
          have HD6 := Lib.hid (HD5.out.grown hg6 hne.out.1 hne.out.2)
          have hpk6 : Hid (Sl tI w6 (fun b => b < w.heap.size) (.slice As (n2 - 1) (c2 - 1)) pk) := hpk5.out.step fun b hbb => hg6.block b (by have := HB5.out.size; omega) (fun e => by have := (HO5.out.lo e.symm).1; omega)
          have HO6 := Lib.hid hO6
          have HB6 := Lib.hid hB6
          obtain ⟨A6, c6, rfl, hc61, hc62, -⟩ := hO6.form
          clear hO6 hB6 hg6 hv6 HD5 HO5 HB5 hpk5 hK5
          go_wp2_with fail
          refine (open_calls l A n cap gd ga (inc at_ i) w6 ((H.out.below HB6.out).mono fun _ _ => trivial) HD6.out (by omega)).mono ?_
          rintro e w7 ⟨v7, rfl, ho7, hb7⟩
          obtain ⟨A7, c7, rfl, hc71, hc72, -⟩ := ho7.form
          rw [List.length_map] at ho7 hc71 ⊢
          have hO7 := Lib.hid (HO6.out.below hb7)
          have hd7 := Lib.hid (HD6.out.below hb7)
          have hp7 := Lib.hid (hpk6.out.below hb7)
          have hb8 := Lib.hid (HB6.out.trans (hb7.mono HB6.out.size))
          have ho8 := Lib.hid (ho7.mono (ok' := fun _ => True) fun _ _ => trivial)
          have hv7 := Lib.hid hv6'
          clear ho7 hb7 HO6 HD6 hpk6 HB6 hv6'
          go_wp2
          refine ⟨⟨inc at_ i, pk, acc ++ [o], _, _, _, _, _, _, _, rfl, hp7, by rw [List.length_append]; rfl, hO7, hv7, rfl, ho8, hd7, by rw [List.length_append, List.length_singleton]; omega, ?_, hb8⟩, ?_⟩
          · intro is h
            obtain ⟨is0, h1, h2⟩ := hK.out _ (hstep.out is h)
            refine ⟨is0, h1, ?_⟩
            rw [← h2, opsOf, hoe, List.append_assoc]; rfl
          · simp only [lenOf]; omega
        · have hxm : x % (m : Int) = (r : Int) := by rw [← er, show ((x.toNat : Nat) : Int) = x by omega]
          go_wp2_with fail
          go_region
          have hb4w : Hid (Below wr.heap.size wr wr.drew) := (Below.refl _ _).drew
          have hTLw := Lib.hid (hTL.out.below hb4w.out)
          have i0' : wr.drew.cell? ⟨b4, off4 + r, none⟩ = some (.int .i64 (i : Int)) := i0
          have hb4' : b4 < wr.drew.heap.size := hb4
          generalize wr.drew = w4 at *
          go_wp2_with fail
          have hdw : Hid (Desk w4 gd ga A n cap at_) := hd.out.below hb4w.out
          have hbw := Lib.hid (hb.out.trans (hb4w.out.mono hb.out.size))
          have hOw := Lib.hid (hO.out.below hb4w.out)
          refine (HDO.out w4 ((H.out.below hbw.out).mono fun _ _ => trivial) hdw.out).mono ?_
          rintro e w5 ⟨rfl, hd5, hg5⟩
          have HD5 := Lib.hid hd5
          have HO5 := Lib.hid (hOw.out.grown hg5 (fun b hb e => hne.out.2 (by rw [hb, e])) (fun _ h => h.elim))
          have HB5 := Lib.hid (below_row hbw.out hg5 hbw.out.size (fun k h => by injection h with h; omega))
          have hpk5 : Hid (Sl tI w5 (fun b => b < w.heap.size) (.slice As (n2 - 1) (c2 - 1)) pk) := hTLw.out.step fun b hbb => hg5.block b (by have := hbw.out.size; omega) (fun e => by injection e with e; omega)
          have hK5 : Hid (tOp.K w5 (fun b => False ∧ (Value.slice A3 acc.length c3).ownBlock ≠ some b) o [.int .i64 o.kind, .int .i64 o.sess, .bool o.strict, .string o.key, .string o.val, .int .i64 o.n]) := rfl
          have hacc : acc.length < 12800 := by have := hrest.out; omega
          clear hd5 hdw hbw hOw HDO hd hO hb
          go_wp2_with (at_builtin; refine wpList_app1 (o := ⟨some 41, _, _, _, _, _⟩) (t := tOp) (w0 := w) (g := w5.heap.size) (cs := [.int .i64 o.kind, .int .i64 o.sess, .bool o.strict, .string o.key, .string o.val, .int .i64 o.n]) (y := o) w.heap.size rfl _ _ 38 48 _ 64 rfl Try.underlying38 info48 rfl (by decide) (by decide) rfl rfl rfl HO5.out hK5.out HB5.out ?c2 ?c3 ?_; (case c2 => exact HB5.out.size); (case c3 => omega); intro v6 w6 hO6 hB6 hg6 hv6)
          have hv6' : v6.ownBlock ≠ some gd ∧ v6.ownBlock ≠ some ga := by
            have h1 := HD5.out.lt
            rcases hv6 with h | ⟨b, h, h2⟩
            · rw [h]; exact hne.out
            · rw [h]; exact ⟨fun e => by injection e with e; omega, fun e => by injection e with e; omega⟩
          have HD6 := Lib.hid (HD5.out.grown hg6 hne.out.1 hne.out.2)
          have hpk6 : Hid (Sl tI w6 (fun b => b < w.heap.size) (.slice As (n2 - 1) (c2 - 1)) pk) := hpk5.out.step fun b hbb => hg6.block b (by have := HB5.out.size; omega) (fun e => by have := (HO5.out.lo e.symm).1; omega)
          have HO6 := Lib.hid hO6
          have HB6 := Lib.hid hB6
          obtain ⟨A6, c6, rfl, hc61, hc62, -⟩ := hO6.form
          clear hO6 hB6 hg6 hv6 HD5 HO5 HB5 hpk5 hK5
          go_wp2_with fail
          refine (open_calls l A n cap gd ga (inc at_ i) w6 ((H.out.below HB6.out).mono fun _ _ => trivial) HD6.out (by omega)).mono ?_
          rintro e w7 ⟨v7, rfl, ho7, hb7⟩
          obtain ⟨A7, c7, rfl, hc71, hc72, -⟩ := ho7.form
          rw [List.length_map] at ho7 hc71 ⊢
          have hO7 := Lib.hid (HO6.out.below hb7)
          have hd7 := Lib.hid (HD6.out.below hb7)
          have hp7 := Lib.hid (hpk6.out.below hb7)
          have hb8 := Lib.hid (HB6.out.trans (hb7.mono HB6.out.size))
          have ho8 := Lib.hid (ho7.mono (ok' := fun _ => True) fun _ _ => trivial)
          have hv7 := Lib.hid hv6'
          clear ho7 hb7 HO6 HD6 hpk6 HB6 hv6'
          go_wp2
          refine ⟨⟨inc at_ i, pk, acc ++ [o], _, _, _, _, _, _, _, rfl, hp7, by rw [List.length_append]; rfl, hO7, hv7, rfl, ho8, hd7, by rw [List.length_append, List.length_singleton]; omega, ?_, hb8⟩, ?_⟩
          · intro is h
            obtain ⟨is0, h1, h2⟩ := hK.out _ (hstep.out is h)
            refine ⟨is0, h1, ?_⟩
            rw [← h2, opsOf, hoe, List.append_assoc]; rfl
          · simp only [lenOf]; omega
end Go.Proofs.Ytidjcdfdfbomiaa
