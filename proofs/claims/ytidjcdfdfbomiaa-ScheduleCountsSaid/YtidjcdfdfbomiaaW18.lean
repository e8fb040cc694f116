import Derived.Test.YtidjcdfdfbomiaaW17
/-! each: the picks of all orders, one by one. -/
namespace Go.Proofs.Ytidjcdfdfbomiaa
open Go.RowKit Go.Op Go.Shelf
attribute [local go_sem] Oper.semAt_some

theorem desk_of {w : World} {gd ga : Nat} {A : Option Addr} {n cap : Nat} {at_ : List Nat} (h1 : Blk w gd #[.slice A n cap, .slice (some ⟨ga, 0, none⟩) n n] 69) (h2 : Ats w ga at_) (h3 : at_.length = n) (h4 : gd ≠ ga) : Desk w gd ga A n cap at_ := by
  obtain ⟨cs, k1, k2⟩ := h2
  refine ⟨h1, ⟨cs, k1, fun i a hi => ?_⟩, h3, h4⟩
  rw [← Array.getElem?_toList, k2, List.getElem?_map, hi]; rfl
theorem part_le {l : List Plan} {f : Nat} {at_ : List Nat} {ahead : List Int} (j : Nat) : part l f at_ ahead j <+: (full l (f + 1) at_).map fun t => ahead ++ t := by
  rw [← part_all (j := (openL l at_).length) (Nat.le_refl _)]
  rcases Nat.le_total (openL l at_).length j with hj | hj
  · rw [part_all hj, part_all (Nat.le_refl _)]
    exact List.prefix_rfl
  · obtain ⟨d, hd⟩ : ∃ d, (openL l at_).length = j + d := ⟨_, (Nat.add_sub_cancel' hj).symm⟩
    rw [hd]
    refine ⟨(((openL l at_).zipIdx.drop j).take d).flatMap fun x => (full l f (inc at_ x.1)).map fun t => (ahead ++ [(x.2 : Int)]) ++ t, ?_⟩
    rw [part, part, List.take_add, List.flatMap_append]

/-- What each leaves as it was. -/
structure Moves (lo n0 ga : Nat) (v : Value) (at_ : List Nat) (ahead : List Int) (A B : World) : Prop where
  size : A.heap.size ≤ B.heap.size
  block : ∀ b, (b < lo ∨ n0 ≤ b) → b < A.heap.size → b ≠ ga → v.ownBlock ≠ some b → B.heap[b]? = A.heap[b]?
  ats : Ats B ga at_
  path : Path B n0 v ahead

theorem Path.same {w w' : World} {base : Nat} {v : Value} {l : List Int} (h : Path w base v l) (hb : ∀ b, v.ownBlock = some b → w'.heap[b]? = w.heap[b]?) : Path w' base v l := by
  have hr := h.row
  refine Path.mk ⟨hr.1, ?_⟩
  rcases hr.2 with k | ⟨g, cap, cur, rfl, k1, k2, k3⟩
  · exact .inl k
  · exact .inr ⟨g, cap, cur, rfl, k1, (hb g rfl).trans k2, k3⟩
theorem Ats.keep {w w' : World} {ga : Nat} {at_ : List Nat} (h : Ats w ga at_) (hb : w'.heap[ga]? = w.heap[ga]?) : Ats w' ga at_ := by
  obtain ⟨cs, k1, k2⟩ := h
  exact ⟨cs, hb.trans k1, k2⟩
theorem Moves.of_same {lo n0 ga : Nat} {v : Value} {at_ : List Nat} {ahead : List Int} {A B : World} (hs : A.heap.size ≤ B.heap.size) (hb : ∀ b, (b < lo ∨ n0 ≤ b) → b < A.heap.size → B.heap[b]? = A.heap[b]?) (hga : n0 ≤ ga) (ha : Ats A ga at_) (hp : Path A n0 v ahead) : Moves lo n0 ga v at_ ahead A B :=
  ⟨hs, fun b h1 h2 _ _ => hb b h1 h2, ha.keep (hb ga (.inr hga) ha.lt), hp.same fun b h => hb b (.inr (hp.lo h).1) (hp.lo h).2⟩
theorem stays_of_below {lo n0 : Nat} {A B : World} (h : Below A.heap.size A B) : Stays lo n0 A B := ⟨h.size, fun b _ hb => h.block b hb⟩

set_option maxHeartbeats 2000000 in
theorem each_leaf (l : List Plan) (A : Option Addr) (n cap lo n0 gd ga : Nat) (hn : n ≤ 64) (_h1 : lo ≤ n0) (hgd : n0 ≤ gd) (hga : n0 ≤ ga) (hne : gd ≠ ga) (lid : Nat) (J Jx : List (List Int) → World → Prop) (S : List (List Int))
    (hJ : ∀ s A B, J s A → Below n0 A B → J s B)
    (hY : ∀ m pre x v W1, J pre W1 → pre ++ [x] <+: S → Sl tI W1 (fun b => n0 ≤ b) v x → YieldAt Fence.wide m Try.prog lid #[v] W1 fun e W' => (e = .returned (.bool true) ∧ J (pre ++ [x]) W' ∧ Stays lo n0 W1 W') ∨ (e = .returned (.bool false) ∧ Jx (pre ++ [x]) W' ∧ Stays lo n0 W1 W'))
    (m : Nat) (at_ : List Nat) (ahead : List Int) (P : Option Addr) (np cp : Nat) (pre : List (List Int)) (X : World) (hl : Sl tPlan X (fun b => b < lo) (.slice A n cap) l) (hd : Blk X gd #[.slice A n cap, .slice (some ⟨ga, 0, none⟩) n n] 69) (ha : Ats X ga at_) (hal : at_.length = n)
    (hop : openL l at_ = []) (hp : Path X n0 (.slice P np cp) ahead) (_hv1 : (Value.slice P np cp).ownBlock ≠ some gd) (_hv2 : (Value.slice P np cp).ownBlock ≠ some ga) (hln : ahead.length < 100000) (hj : J pre X) (hS : pre ++ [ahead] <+: S) :
    CallsIn Fence.wide m Try.prog 21 #[.pointer (some ⟨gd, 0, none⟩), .slice P np cp, .func (.yield lid) #[] #[]] X fun e W' =>
      (e = .returned (.bool true) ∧ J (pre ++ [ahead]) W' ∧ Moves lo n0 ga (.slice P np cp) at_ ahead X W') ∨ (e = .returned (.bool false) ∧ (∃ q, Jx q W') ∧ Moves lo n0 ga (.slice P np cp) at_ ahead X W') := by
  have hn0 : n0 ≤ X.heap.size := Nat.le_trans hgd (Nat.le_of_lt hd.lt)
  have HO := Lib.hid (open_calls l A n cap gd ga at_ X (hl.mono fun _ _ => trivial) (desk_of hd ha hal hne) (by omega))
  rw [hop] at HO
  have hpl := hp.sl.length
  refine callsIn_of_wp Try.func21 rfl trivial ?_ rfl
  simp only [Try.ntmps21, List.size_toArray, List.length_cons, List.length_nil, Nat.reduceAdd, Nat.reduceSub, Array.replicate_succ, Array.replicate_zero, List.push_toArray, List.append_toArray, List.nil_append, List.cons_append]
  have hdd : ∀ k : Nat, (Fence.wide.depth.isSome = true → 1 ≤ k) := fun k h => by cases h
  gi_wp2_with (refine ⟨trivial, hdd _, ?_⟩
               gi_at_call 25
               refine (callsIn_wide.2 HO.out).mono ?_
               rintro e w1 ⟨v, rfl, hs, hb⟩
               obtain ⟨A1, c1, rfl, -⟩ := hs.form
               rw [List.map_nil, List.length_nil])
  have hb1 := hb.mono hn0
  have hz1 := hb.size
  have HC := Lib.hid (clone_calls ahead P np cp w1 ((hp.sl.mono fun _ _ => trivial).below hb) (by omega))
  gi_wp2_with (first
    | (refine ⟨trivial, hdd _, ?_⟩
       gi_at_call 32
       refine (callsIn_wide.2 HC.out).mono ?_
       rintro e w2 ⟨v, rfl, hs2, hb2⟩
       clear HC
       obtain ⟨fn, tmps, assign, body, hy, hR⟩ := hY (m - 1) pre ahead v w2 (hJ _ _ _ hj (hb1.trans (hb2.mono (by omega)))) hS (hs2.mono fun b hb => by omega))
    | (refine ⟨hdd _, ?_⟩
       refine hR.mono ?_
       clear hR
       rintro e w3 (⟨rfl, hJ3, hk3⟩ | ⟨rfl, hJx3, hk3⟩)))
  · go_ret
    have hst : Stays lo n0 X w3 := ((stays_of_below hb).trans (stays_of_below hb2)).trans hk3
    exact .inl ⟨rfl, hJ3, Moves.of_same hst.1 hst.2 hga ha hp⟩
  · go_ret
    have hst : Stays lo n0 X w3 := ((stays_of_below hb).trans (stays_of_below hb2)).trans hk3
    exact .inr ⟨rfl, ⟨_, hJx3⟩, Moves.of_same hst.1 hst.2 hga ha hp⟩

set_option maxHeartbeats 16000000 in
theorem each_node (l : List Plan) (A : Option Addr) (n cap lo n0 gd ga : Nat) (hn : n ≤ 64) (h1 : lo ≤ n0) (hgd : n0 ≤ gd) (hga : n0 ≤ ga) (hne : gd ≠ ga) (hop200 : ∀ p ∈ l, p.ops.length ≤ 200) (lid : Nat) (J Jx : List (List Int) → World → Prop) (S : List (List Int))
    (hJ : ∀ s A B, J s A → Below n0 A B → J s B) (hJx : ∀ s A B, Jx s A → Below n0 A B → Jx s B) (f : Nat)
    (IH : ∀ (m : Nat) (at_ : List Nat) (ahead : List Int) (P : Option Addr) (np cp : Nat) (pre : List (List Int)) (X : World), Sl tPlan X (fun b => b < lo) (.slice A n cap) l → Blk X gd #[.slice A n cap, .slice (some ⟨ga, 0, none⟩) n n] 69 → Ats X ga at_ → at_.length = n → rest l at_ = f →
      Path X n0 (.slice P np cp) ahead → (Value.slice P np cp).ownBlock ≠ some gd → (Value.slice P np cp).ownBlock ≠ some ga → ahead.length + f < 100000 → J pre X → pre ++ ((full l f at_).map fun t => ahead ++ t) <+: S →
      CallsIn Fence.wide m Try.prog 21 #[.pointer (some ⟨gd, 0, none⟩), .slice P np cp, .func (.yield lid) #[] #[]] X fun e W' =>
        (e = .returned (.bool true) ∧ J (pre ++ (full l f at_).map fun t => ahead ++ t) W' ∧ Moves lo n0 ga (.slice P np cp) at_ ahead X W') ∨ (e = .returned (.bool false) ∧ (∃ q, Jx q W') ∧ Moves lo n0 ga (.slice P np cp) at_ ahead X W'))
    (m : Nat) (at_ : List Nat) (ahead : List Int) (P : Option Addr) (np cp : Nat) (pre : List (List Int)) (X : World) (hl : Sl tPlan X (fun b => b < lo) (.slice A n cap) l) (hd : Blk X gd #[.slice A n cap, .slice (some ⟨ga, 0, none⟩) n n] 69) (ha : Ats X ga at_) (hal : at_.length = n)
    (hr : rest l at_ = f + 1) (hp : Path X n0 (.slice P np cp) ahead) (hv1 : (Value.slice P np cp).ownBlock ≠ some gd) (hv2 : (Value.slice P np cp).ownBlock ≠ some ga) (hln : ahead.length + (f + 1) < 100000) (hj : J pre X) (hS : pre ++ ((full l (f + 1) at_).map fun t => ahead ++ t) <+: S) :
    CallsIn Fence.wide m Try.prog 21 #[.pointer (some ⟨gd, 0, none⟩), .slice P np cp, .func (.yield lid) #[] #[]] X fun e W' =>
      (e = .returned (.bool true) ∧ J (pre ++ (full l (f + 1) at_).map fun t => ahead ++ t) W' ∧ Moves lo n0 ga (.slice P np cp) at_ ahead X W') ∨ (e = .returned (.bool false) ∧ (∃ q, Jx q W') ∧ Moves lo n0 ga (.slice P np cp) at_ ahead X W') := by
  have hon : openL l at_ ≠ [] := fun h => by
    have := rest_none (by rw [hal]; exact hl.length.1.symm) h
    omega
  have hn0 : n0 ≤ X.heap.size := Nat.le_trans hgd (Nat.le_of_lt hd.lt)
  have hpl := hp.sl.length
  have HO := Lib.hid (open_calls l A n cap gd ga at_ X (hl.mono fun _ _ => trivial) (desk_of hd ha hal hne) (by omega))
  have hlen0 : 0 < (openL l at_).length := List.length_pos_iff.2 hon
  have hvb : ∀ b, (Value.slice P np cp).ownBlock = some b → n0 ≤ b ∧ b < X.heap.size := fun b h => hp.lo h
  have hgl := ha.lt
  have hdl := hd.lt
  have HP := Lib.hid hp
  have HD := Lib.hid hd
  have HL := Lib.hid hl
  have HA := Lib.hid ha
  have HVB := Lib.hid hvb
  have H200 := Lib.hid hop200
  have HIH := Lib.hid IH
  clear hl hd ha hop200 IH hon hp hvb
  have hdd : ∀ k : Nat, (Fence.wide.depth.isSome = true → 1 ≤ k) := fun k h => by cases h
  refine callsIn_of_wp Try.func21 rfl trivial ?_ rfl
  simp only [Try.ntmps21, List.size_toArray, List.length_cons, List.length_nil, Nat.reduceAdd, Nat.reduceSub, Array.replicate_succ, Array.replicate_zero, List.push_toArray, List.append_toArray, List.nil_append, List.cons_append]
  obtain ⟨k, hk⟩ : ∃ k, (openL l at_).length = k := ⟨_, rfl⟩
  have hmz : ((k : Int) == 0) = false := beq_eq_false_iff_ne.2 (by omega)
  gi_wp2_with (refine ⟨trivial, hdd _, ?_⟩
               gi_at_call 25
               refine (callsIn_wide.2 HO.out).mono ?_
               rintro e w1 ⟨v, rfl, hs, hb⟩
               obtain ⟨A1, c1, rfl, hc11, hc12, -⟩ := hs.form
               rw [List.length_map, hk] at hs hc11 ⊢)
  have HS1 := Lib.hid hs
  have HB1 := Lib.hid hb
  have HM1 : Hid (Moves lo n0 ga (.slice P np cp) at_ ahead w1 w1) := Moves.of_same (Nat.le_refl _) (fun _ _ _ => rfl) hga (HA.out.below hb hgl) (HP.out.below hb)
  have HJ1 : Hid (J (pre ++ part l f at_ ahead 0) w1) := by
    have : part l f at_ ahead 0 = [] := by simp [part]
    rw [this, List.append_nil]
    exact hJ _ _ _ hj (hb.mono hn0)
  have HKK := Lib.hid hk
  clear hs hb HO hk
  gi_loopw [8, 9, 10, 22] (fun _ _ _ vi w' => ∃ j : Nat, j ≤ k ∧ vi = .int .i64 j ∧ Hid (J (pre ++ part l f at_ ahead j) w') ∧ Hid (Moves lo n0 ga (.slice P np cp) at_ ahead w1 w')) (fun _ _ _ i _ => k - (intOf i).toNat)
  case atStart => exact ⟨0, by omega, rfl, HJ1, HM1⟩
  case round =>
    clear HJ1 HM1
    obtain ⟨j, hjk, rfl, hJr, hM⟩ := hrel
    have hz1 := HB1.out.size
    have hzr := hM.out.size
    have hother : ∀ b, (b < lo ∨ n0 ≤ b) → b < X.heap.size → b ≠ ga → (Value.slice P np cp).ownBlock ≠ some b → wr.heap[b]? = X.heap[b]? := fun b a1 a2 a3 a4 => (hM.out.block b a1 (by omega) a3 a4).trans (HB1.out.block b a2)
    by_cases hlt : j < k
    · obtain ⟨i, hi⟩ := some_at (show j < (openL l at_).length by rw [HKK.out]; exact hlt)
      obtain ⟨p, a, o, hp, ha, hoo⟩ := left_get (open_left (List.mem_of_getElem? hi))
      have halt : a < p.ops.length := (List.getElem?_eq_some_iff.1 hoo).1
      have ha200 : a < 200 := Nat.lt_of_lt_of_le halt (H200.out p (List.mem_of_getElem? hp))
      have hri := rest_inc hp ha halt
      have hie := inc_eq ha
      have HPS := Lib.hid (part_step (f := f) (ahead := ahead) hi)
      have hsl : Sl tI wr (fun b => X.heap.size ≤ b) (.slice A1 k c1) ((openL l at_).map fun i : Nat => (i : Int)) := (HS1.out.inb.step fun b hb => hM.out.block b (.inr (by omega)) hb.2 (by omega) (fun e => by have := (HVB.out _ e).2; omega)).mono fun b hb => hb.1
      obtain ⟨b1, off1, hAe, hbl1, i0⟩ := sl_int (z := (i : Int)) hsl (i := j) (by rw [List.getElem?_map, hi]; rfl)
      subst hAe
      obtain ⟨k3, k4⟩ := hM.out.ats.cell ha
      have hdr : Blk wr gd #[.slice A n cap, .slice (some ⟨ga, 0, none⟩) n n] 69 := (hother gd (.inr hgd) hdl hne hv1).trans HD.out
      have k5 := hdr.cell 1
      have hin : i < n := by rw [← hal]; exact (List.getElem?_eq_some_iff.1 ha).1
      have hgr : ga < wr.heap.size := by omega
      have hA := hM.out.ats
      have hW2 : wr.grownBy (wr.setCell ⟨ga, i, none⟩ (.int .i64 ((a : Int) + 1))) (some ga) :=
        ⟨rfl, rfl, rfl, by simp, fun m hm hne => Below.heap_setCell _ _ _ _ (by show m ≠ ga; intro e; exact hne (by rw [e]))⟩
      have hz2 : (wr.setCell ⟨ga, i, none⟩ (.int .i64 ((a : Int) + 1))).heap.size = wr.heap.size := by simp
      have hA2 : Ats (wr.setCell ⟨ga, i, none⟩ (.int .i64 ((a : Int) + 1))) ga (at_.set i (a + 1)) := hA.set i (a + 1)
      have hP2 : Hid (Path (wr.setCell ⟨ga, i, none⟩ (.int .i64 ((a : Int) + 1))) n0 (.slice P np cp) ahead) := hM.out.path.same fun b hb => hW2.block b (by have := (HVB.out _ hb).2; omega) (fun e => hv2 (by rw [hb, e]))
      have hD2 : Blk (wr.setCell ⟨ga, i, none⟩ (.int .i64 ((a : Int) + 1))) gd #[.slice A n cap, .slice (some ⟨ga, 0, none⟩) n n] 69 := hdr.far (show gd ≠ ga from hne) _
      have hL2 : Sl tPlan (wr.setCell ⟨ga, i, none⟩ (.int .i64 ((a : Int) + 1))) (fun b => b < lo) (.slice A n cap) l := (HL.out.inb.step fun b hb => (hW2.block b (by omega) (fun e => by injection e with e; have := hb.1; omega)).trans (hother b (.inl hb.1) hb.2 (fun e => by have := hb.1; omega) (fun e => by have := (HVB.out _ e).1; have := hb.1; omega))).mono fun b hb => hb.1
      have hJ2 : J (pre ++ part l f at_ ahead j) (wr.setCell ⟨ga, i, none⟩ (.int .i64 ((a : Int) + 1))) := hJ _ _ _ hJr.out ((Below.refl n0 wr).grown hW2 (by omega) (fun k e => by cases e; exact hga))
      have HW2 := Lib.hid hW2
      have HAR := Lib.hid hA
      have HAI := Lib.hid ha
      have HA2 := Lib.hid hA2
      have HD2 := Lib.hid hD2
      have HL2 := Lib.hid hL2
      have HJ2 := Lib.hid hJ2
      clear hp ha hoo halt hi hW2 hA2 hD2 hL2 hJ2 hA
      have hlen5 : Hid ((ahead ++ [(j : Int)]).length = np + 1) := by show _ = _; rw [List.length_append, hpl.1]; rfl
      gi_wp2_with (gi_at_builtin
                   refine wpListIn_push (base := n0) (k := (j : Int)) (l := ahead) (W := wr.setCell ⟨ga, i, none⟩ (.int .i64 ((a : Int) + 1))) (o := ⟨some 40, _, _, _, _, _⟩) (g := wr.heap.size) rfl _ _ rfl hz2 rfl rfl hP2.out (by rw [hz2]; omega) (by omega) ?_
                   intro v5 w5 hP5 hG5 hat5 hback
                   rw [hz2] at hat5
                   obtain ⟨P5, c5, rfl, -⟩ := hP5.form
                   rw [hlen5.out] at hP5 hat5 hback ⊢)
      have hA5 := HA2.out.grown hG5 hv2
      have hD5 := (hG5.block gd (by rw [hz2]; omega) (fun e => hv1 e.symm)).trans HD2.out
      have hL5 := (HL2.out.inb.step fun b hb => hG5.block b hb.2 (fun e => by have := (HVB.out _ e.symm).1; have := hb.1; omega)).mono (ok' := fun b => b < lo) fun b hb => hb.1
      have hJ5 := hJ _ _ _ HJ2.out ((Below.refl n0 _).grown hG5 (by rw [hz2]; omega) (fun b e => (HVB.out b e).1))
      have hv51 : (Value.slice P5 (np + 1) c5).ownBlock ≠ some gd := by
        rcases hat5 with h | ⟨b, h, hb⟩
        · rw [h]; exact hv1
        · rw [h]; intro e; injection e with e; omega
      have hv52 : (Value.slice P5 (np + 1) c5).ownBlock ≠ some ga := by
        rcases hat5 with h | ⟨b, h, hb⟩
        · rw [h]; exact hv2
        · rw [h]; intro e; injection e with e; omega
      have hC := HIH.out (m - 1) (at_.set i (a + 1)) (ahead ++ [(j : Int)]) P5 (np + 1) c5 (pre ++ part l f at_ ahead j) w5 hL5 hD5 hA5 (by rw [List.length_set]; exact hal) (by omega) hP5 hv51 hv52 (by simp; omega) hJ5 (by
        have h7 : (pre ++ part l f at_ ahead j) ++ ((full l f (at_.set i (a + 1))).map fun t => (ahead ++ [(j : Int)]) ++ t) = pre ++ part l f at_ ahead (j + 1) := by
          rw [HPS.out, hie, List.append_assoc]
        rw [h7]
        exact ((List.prefix_append_right_inj pre).2 (part_le (j + 1))).trans hS)
      have HP5 := Lib.hid hP5
      have HG5 := Lib.hid (show (wr.setCell ⟨ga, i, none⟩ (.int .i64 ((a : Int) + 1))).grownBy w5 (Value.slice P np cp).ownBlock from hG5)
      have HBK := Lib.hid (show ∀ w2, Path w2 n0 (.slice P5 (np + 1) c5) (ahead ++ [(j : Int)]) → (∀ b, (Value.slice P np cp).ownBlock = some b → (Value.slice P5 (np + 1) c5).ownBlock ≠ some b → w2.heap[b]? = w5.heap[b]?) → Path w2 n0 (.slice P np cp) ahead from hback)
      have HD5 := Lib.hid (show Blk w5 gd #[.slice A n cap, .slice (some ⟨ga, 0, none⟩) n n] 69 from hD5)
      have HAT5 := Lib.hid (show (Value.slice P5 (np + 1) c5).ownBlock = (Value.slice P np cp).ownBlock ∨ ∃ b, (Value.slice P5 (np + 1) c5).ownBlock = some b ∧ wr.heap.size ≤ b from hat5)
      clear hP5 hG5 hback hA5 hD5 hL5 hJ5 hat5
      refine ⟨trivial, hdd _, ?_⟩
      have hC' := hC.mono (R' := fun e w6 => Moves lo n0 ga (.slice P5 (np + 1) c5) (at_.set i (a + 1)) (ahead ++ [(j : Int)]) w5 w6 ∧ ((e = .returned (.bool true) ∧ J ((pre ++ part l f at_ ahead j) ++ ((full l f (at_.set i (a + 1))).map fun t => (ahead ++ [(j : Int)]) ++ t)) w6) ∨ (e = .returned (.bool false) ∧ ∃ q, Jx q w6))) (by
        rintro e w6 (⟨rfl, k1, k2⟩ | ⟨rfl, k1, k2⟩)
        · exact ⟨k2, .inl ⟨rfl, k1⟩⟩
        · exact ⟨k2, .inr ⟨rfl, k1⟩⟩)
      refine hC'.mono ?_
      clear hC hC'
      rintro e w6 ⟨hM6, hor⟩
      have hb6 : Blk w6 gd #[.slice A n cap, .slice (some ⟨ga, 0, none⟩) n n] 69 := (hM6.block gd (.inr hgd) HD5.out.lt hne hv51).trans HD5.out
      have k6 := hb6.cell 1
      obtain ⟨k7, k8⟩ := hM6.ats.cell (i := i) (a := a + 1) (List.getElem?_set_self (by rw [hal]; exact hin))
      have HM6 := Lib.hid hM6
      clear hM6 hb6
      have hz5 := HG5.out.size
      rw [hz2] at hz5
      have hz6 := HM6.out.size
      have hW7 : w6.grownBy (w6.setCell ⟨ga, i, none⟩ (.int .i64 (a : Int))) (some ga) :=
        ⟨rfl, rfl, rfl, by simp, fun m hm hne => Below.heap_setCell _ _ _ _ (by show m ≠ ga; intro e; exact hne (by rw [e]))⟩
      have hz7 : (w6.setCell ⟨ga, i, none⟩ (.int .i64 (a : Int))).heap.size = w6.heap.size := by simp
      have hA7 : Ats (w6.setCell ⟨ga, i, none⟩ (.int .i64 (a : Int))) ga at_ := by
        have h := HM6.out.ats.set i a
        rwa [set_back HAI.out] at h
      have hP6 : Path w6 n0 (.slice P np cp) ahead := HBK.out w6 HM6.out.path fun b e1 e2 => HM6.out.block b (.inr (HVB.out _ e1).1) (by have := (HVB.out _ e1).2; omega) (fun e => hv2 (by rw [e1, e])) e2
      have hP7 := hP6.same (w' := w6.setCell ⟨ga, i, none⟩ (.int .i64 (a : Int))) fun b hb => hW7.block b (by have := (HVB.out _ hb).2; omega) (fun e => hv2 (by rw [hb, e]))
      have hM7 : Hid (Moves lo n0 ga (.slice P np cp) at_ ahead w1 (w6.setCell ⟨ga, i, none⟩ (.int .i64 (a : Int)))) := by
        refine ⟨by omega, fun b e1 e2 e3 e4 => ?_, hA7, hP7⟩
        have g1 := hM.out.block b e1 e2 e3 e4
        have g2 := HW2.out.block b (by omega) (fun e => e3 (by injection e))
        have g3 := HG5.out.block b (by omega) (fun e => e4 e.symm)
        have g4 := HM6.out.block b e1 (by omega) e3 (by
          rcases HAT5.out with h | ⟨b', h, hb'⟩
          · rw [h]; exact e4
          · rw [h]; intro e; injection e with e; omega)
        have g5 := hW7.block b (by omega) (fun e => e3 (by injection e))
        exact g5.trans (g4.trans (g3.trans (g2.trans g1)))
      have HM7 := Lib.hid hM7
      have HW7 := Lib.hid hW7
      clear hM7 hA7 hP6 hP7 hW7
      rcases hor with ⟨rfl, hJ6⟩ | ⟨rfl, q, hq⟩
      · have HJ6 := Lib.hid hJ6
        clear hJ6
        have hJ7 : Hid (J (pre ++ part l f at_ ahead (j + 1)) (w6.setCell ⟨ga, i, none⟩ (.int .i64 (a : Int)))) := by
          have h7 : (pre ++ part l f at_ ahead j) ++ ((full l f (at_.set i (a + 1))).map fun t => (ahead ++ [(j : Int)]) ++ t) = pre ++ part l f at_ ahead (j + 1) := by
            rw [HPS.out, hie, List.append_assoc]
          rw [← h7]
          exact hJ _ _ _ HJ6.out ((Below.refl n0 w6).grown HW7.out (by omega) (fun k e => by cases e; exact hga))
        clear HJ6
        gi_wp2
        exact ⟨⟨j + 1, by omega, by go_num, hJ7, HM7.out⟩, by simp [intOf]; omega⟩
      · have hs6 : Hid (Jx q (w6.setCell ⟨ga, i, none⟩ (.int .i64 (a : Int)))) := hJx _ _ _ hq ((Below.refl n0 w6).grown HW7.out (by omega) (fun k e => by cases e; exact hga))
        gi_wp2
        go_ret
        refine .inr ⟨rfl, ⟨_, hs6.out⟩, by have := HM7.out.size; omega, fun b a1 a2 a3 a4 => (HM7.out.block b a1 (by omega) a3 a4).trans (HB1.out.block b a2), HM7.out.ats, HM7.out.path⟩
    · obtain rfl : j = k := by omega
      have hfin : Hid (pre ++ part l f at_ ahead j = pre ++ (full l (f + 1) at_).map fun t => ahead ++ t) := by
        show _ = _
        rw [part_all (by rw [HKK.out]; exact Nat.le_refl _)]
      gi_wp2
      go_ret
      refine .inl ⟨rfl, by rw [← hfin.out]; exact hJr.out, by omega, fun b a1 a2 a3 a4 => hother b a1 a2 a3 a4, hM.out.ats, hM.out.path⟩

theorem each_in (l : List Plan) (A : Option Addr) (n cap lo n0 gd ga : Nat) (hn : n ≤ 64) (h1 : lo ≤ n0) (hgd : n0 ≤ gd) (hga : n0 ≤ ga) (hne : gd ≠ ga) (hop200 : ∀ p ∈ l, p.ops.length ≤ 200) (lid : Nat) (J Jx : List (List Int) → World → Prop) (S : List (List Int))
    (hJ : ∀ s A B, J s A → Below n0 A B → J s B) (hJx : ∀ s A B, Jx s A → Below n0 A B → Jx s B)
    (hY : ∀ m pre x v W1, J pre W1 → pre ++ [x] <+: S → Sl tI W1 (fun b => n0 ≤ b) v x → YieldAt Fence.wide m Try.prog lid #[v] W1 fun e W' => (e = .returned (.bool true) ∧ J (pre ++ [x]) W' ∧ Stays lo n0 W1 W') ∨ (e = .returned (.bool false) ∧ Jx (pre ++ [x]) W' ∧ Stays lo n0 W1 W')) : ∀ (f : Nat)
    (m : Nat) (at_ : List Nat) (ahead : List Int) (P : Option Addr) (np cp : Nat) (pre : List (List Int)) (X : World), Sl tPlan X (fun b => b < lo) (.slice A n cap) l → Blk X gd #[.slice A n cap, .slice (some ⟨ga, 0, none⟩) n n] 69 → Ats X ga at_ → at_.length = n → rest l at_ = f →
      Path X n0 (.slice P np cp) ahead → (Value.slice P np cp).ownBlock ≠ some gd → (Value.slice P np cp).ownBlock ≠ some ga → ahead.length + f < 100000 → J pre X → pre ++ ((full l f at_).map fun t => ahead ++ t) <+: S →
      CallsIn Fence.wide m Try.prog 21 #[.pointer (some ⟨gd, 0, none⟩), .slice P np cp, .func (.yield lid) #[] #[]] X fun e W' =>
        (e = .returned (.bool true) ∧ J (pre ++ (full l f at_).map fun t => ahead ++ t) W' ∧ Moves lo n0 ga (.slice P np cp) at_ ahead X W') ∨ (e = .returned (.bool false) ∧ (∃ q, Jx q W') ∧ Moves lo n0 ga (.slice P np cp) at_ ahead X W') := by
  intro f
  induction f with
  | zero =>
    intro m at_ ahead P np cp pre X hl hd ha hal hr hp hv1 hv2 hln hj hS
    have e : ((full l 0 at_).map fun t => ahead ++ t) = [ahead] := by rw [full, List.map_cons, List.map_nil, List.append_nil]
    rw [e] at hS ⊢
    refine each_leaf l A n cap lo n0 gd ga hn h1 hgd hga hne lid J Jx S hJ hY m at_ ahead P np cp pre X hl hd ha hal ?_ hp hv1 hv2 (by omega) hj hS
    apply Classical.byContradiction
    intro h
    have := rest_some h
    omega
  | succ f ih =>
    intro m at_ ahead P np cp pre X hl hd ha hal hr hp hv1 hv2 hln hj hS
    exact each_node l A n cap lo n0 gd ga hn h1 hgd hga hne hop200 lid J Jx S hJ hJx f ih m at_ ahead P np cp pre X hl hd ha hal hr hp hv1 hv2 hln hj hS
