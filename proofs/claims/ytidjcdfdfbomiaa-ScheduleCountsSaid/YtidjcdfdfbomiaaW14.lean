import Derived.Test.YtidjcdfdfbomiaaW13
/-! The document's all. -/
namespace Go.Proofs.Ytidjcdfdfbomiaa
open Go.RowKit Go.Op

theorem Ats.same {w w' : World} {ga : Nat} {at_ : List Nat} (h : Ats w ga at_) (h' : Ats w' ga at_) : w'.heap[ga]? = w.heap[ga]? := by
  obtain ⟨cs, h1, h2⟩ := h
  obtain ⟨cs', h3, h4⟩ := h'
  have e : cs = cs' := Array.toList_inj.1 (h2.trans h4.symm)
  subst e
  exact (show w'.heap[ga]? = _ from h3).trans (show w.heap[ga]? = _ from h1).symm
theorem Ats.grown {w w' : World} {ga : Nat} {at_ : List Nat} {row : Option Nat} (h : Ats w ga at_) (hg : w.grownBy w' row) (hr : row ≠ some ga) : Ats w' ga at_ := by
  obtain ⟨cs, h1, h2⟩ := h
  exact ⟨cs, (hg.block ga h1.lt (fun e => hr e.symm)).trans h1, h2⟩
theorem set_back {at_ : List Nat} {i a b : Nat} (h : at_[i]? = some a) : (at_.set i b).set i a = at_ := by
  rw [List.set_set]
  obtain ⟨hi, e⟩ := List.getElem?_eq_some_iff.1 h
  rw [← e, List.set_getElem_self]
theorem rest_none : ∀ {l : List Plan} {at_ : List Nat}, at_.length = l.length → openL l at_ = [] → rest l at_ = 0 := by
  intro l at_ hl ho
  have h0 : ∀ (i : Nat) (p : Plan) (a : Nat), l[i]? = some p → at_[i]? = some a → p.ops.length ≤ a := by
    intro i p a hp ha
    rcases Nat.lt_or_ge a p.ops.length with h | h
    · exfalso
      have hm : i ∈ openL l at_ := List.mem_filter.2 ⟨List.mem_range.2 (List.getElem?_eq_some_iff.1 hp).1, by rw [left_some hp ha]; exact decide_eq_true h⟩
      rw [ho] at hm; cases hm
    · exact h
  clear ho
  induction l generalizing at_ with
  | nil => cases at_ <;> rfl
  | cons p l ih =>
    cases at_ with
    | nil => rfl
    | cons a at_ =>
      have h1 := h0 0 p a rfl rfl
      have h2 := ih (at_ := at_) (by simpa using hl) (fun i q b hq hb => h0 (i + 1) q b (by simpa using hq) (by simpa using hb))
      rw [rest, h2]; omega
theorem rest_some {l : List Plan} {at_ : List Nat} (ho : openL l at_ ≠ []) : 0 < rest l at_ := by
  obtain ⟨i, hi⟩ := List.exists_mem_of_ne_nil _ ho
  obtain ⟨p, a, o, hp, ha, hoo⟩ := left_get (open_left hi)
  have := rest_inc hp ha (List.getElem?_eq_some_iff.1 hoo).1
  omega
theorem info34 : (Try.prog.info? 34).map (fun i => (i.zero, i.size, i.bytes)) = some (some (.slice none 0 0), 1, 24) := by kernel_rfl

/-- What the first j of those that have Ops left give. -/
def part (l : List Plan) (f : Nat) (at_ : List Nat) (ahead : List Int) (j : Nat) : List (List Int) :=
  ((openL l at_).zipIdx.take j).flatMap fun x => (full l f (inc at_ x.1)).map fun t => (ahead ++ [(x.2 : Int)]) ++ t
theorem part_step {l : List Plan} {f : Nat} {at_ : List Nat} {ahead : List Int} {j i : Nat} (h : (openL l at_)[j]? = some i) : part l f at_ ahead (j + 1) = part l f at_ ahead j ++ (full l f (inc at_ i)).map fun t => (ahead ++ [(j : Int)]) ++ t := by
  have hz : (openL l at_).zipIdx[j]? = some (i, j) := by
    rw [List.getElem?_zipIdx, h]; simp
  rw [part, part, List.take_add_one, hz, Option.toList_some, List.flatMap_append]
  simp
theorem part_all {l : List Plan} {f : Nat} {at_ : List Nat} {ahead : List Int} {j : Nat} (h : (openL l at_).length ≤ j) : part l f at_ ahead j = (full l (f + 1) at_).map fun t => ahead ++ t := by
  rw [part, full, List.take_of_length_le (by rw [List.length_zipIdx]; exact h), List.map_flatMap]
  congr 1
  funext x
  rw [List.map_map]
  apply List.map_congr_left
  intro t _
  simp
theorem part_pre {l : List Plan} {f : Nat} {at_ : List Nat} {ahead : List Int} (j m : Nat) (h : m ≤ ((part l f at_ ahead j).take m).length) : ((full l (f + 1) at_).map fun t => ahead ++ t).take m = (part l f at_ ahead j).take m := by
  rw [← part_all (j := (openL l at_).length) (Nat.le_refl _)]
  rw [List.length_take] at h
  rcases Nat.le_total (openL l at_).length j with hj | hj
  · have e : part l f at_ ahead j = part l f at_ ahead (openL l at_).length := by
      rw [part_all hj, part_all (Nat.le_refl _)]
    rw [e]
  · obtain ⟨d, hd⟩ : ∃ d, (openL l at_).length = j + d := ⟨_, (Nat.add_sub_cancel' hj).symm⟩
    have hp : ∃ r, part l f at_ ahead (j + d) = part l f at_ ahead j ++ r := by
      refine ⟨(((openL l at_).zipIdx.drop j).take d).flatMap fun x => (full l f (inc at_ x.1)).map fun t => (ahead ++ [(x.2 : Int)]) ++ t, ?_⟩
      rw [part, part, List.take_add, List.flatMap_append]
    obtain ⟨r, hr⟩ := hp
    rw [hd, hr, List.take_append_of_le_length (by omega)]

theorem cells_int {w : World} {ok okE : Nat → Prop} : ∀ {l : List Int} {cs : List Value}, Cells tI w ok l cs → Cells tI w okE l cs
  | [], _, h => h
  | _ :: _, _, ⟨c, d, e, hk, hd⟩ => ⟨c, d, e, hk, cells_int hd⟩
theorem sl_int_x {w : World} {ok : Nat → Prop} {v : Value} {l : List Int} (h : Sl tI w ok v l) (okE : Nat → Prop) : SlX tI w okE v l := by
  obtain ⟨A, cap, cs, e, h1, h2, h3, h4⟩ := h
  exact ⟨A, cap, cs, e, h1, h2, cells_int h3, h4.mono fun _ _ => trivial⟩

set_option maxHeartbeats 4000000 in
theorem rall_leaf (l : List Plan) (A : Option Addr) (n cap B ga : Nat) (at_ : List Nat) (ahead : List Int) (Ah : Option Addr) (nh ch most : Nat) (w : World) (hl : Sl tPlan w (fun b => b < B) (.slice A n cap) l) (hd : Ats w ga at_) (hal : at_.length = n)
    (hah : Sl tI w (fun b => b ≠ ga) (.slice Ah nh ch) ahead) (hn : n ≤ 64) (hnh : nh ≤ 20000) (hm : 1 ≤ most) (hop : openL l at_ = []) :
    Calls Try.prog 18 #[.slice A n cap, .slice (some ⟨ga, 0, none⟩) n n, .slice Ah nh ch, .int .i64 (most : Int)] w fun e w' => ∃ v, e = .returned v ∧ Sl tI.slice w' (fun b => w.heap.size ≤ b) v (((full l 0 at_).map fun t => ahead ++ t).take most) ∧ Below w.heap.size w w' := by
  have hres : ((full l 0 at_).map fun t => ahead ++ t).take most = [ahead] := by
    rw [full, List.map_cons, List.map_nil, List.append_nil]
    exact List.take_of_length_le (by simpa using hm)
  rw [hres]
  have hahn := hah.length.1
  have HAH := Lib.hid hah
  have HO := Lib.hid (ropen_calls l A n cap ga at_ w (hl.mono fun _ _ => trivial) hd hal (by omega))
  rw [hop] at HO
  clear hl hd hah
  go_enter Try.func18, Try.ntmps18
  go_wp2_with fail
  refine HO.out.mono ?_
  rintro e w1 ⟨v, rfl, hs, hb⟩
  obtain ⟨A1, c1, rfl, -⟩ := hs.form
  rw [List.map_nil, List.length_nil]
  have HB := Lib.hid hb
  have HAH1 := Lib.hid (HAH.out.below hb)
  clear hs hb HO
  have HE : Hid (Own tI (w1.alloc (.cells #[] 3)) w.heap.size 3 (fun _ => False) (.slice (some ⟨w1.heap.size, 0, none⟩) 0 0) []) := Own.empty tI w1 3 _ HB.out.size
  have HB2 := Lib.hid (HB.out.alloc HB.out.size (.cells #[] 3))
  have HX2 := Lib.hid (sl_int_x (HAH1.out.below ((Below.refl _ _).alloc (Nat.le_refl _) (.cells #[] 3))) (fun b => False ∧ (Value.slice (some ⟨w1.heap.size, 0, none⟩) 0 0).ownBlock ≠ some b))
  go_wp2_with (at_builtin
               refine wpList_appSl (o := ⟨some 21, _, _, _, _, _⟩) (t := tI) (w0 := w) (l := []) (m := ahead) w.heap.size rfl _ _ 34 3 _ 8 rfl Try.underlying34 info3 rfl (by decide) (by decide) rfl rfl HE.out HX2.out HB2.out ?c2 ?c3 ?_; (case c2 => exact HB2.out.size); (case c3 => rw [List.length_nil, hahn]; omega); intro v3 w3 hO3 hB3 _ _
               rw [List.nil_append] at hO3
               obtain ⟨A3, c3, rfl, -⟩ := hO3.form
               rw [hahn] at hO3 ⊢
               have HO3 := Lib.hid hO3
               have HB3 := Lib.hid hB3
               clear hO3 hB3)
  go_ret
  have hb4 : Below w.heap.size w (w3.alloc (.cells #[.slice A3 nh c3] 34)) := HB3.out.alloc HB3.out.size _
  have hbk : Blk (w3.alloc (.cells #[.slice A3 nh c3] 34)) w3.heap.size #[.slice A3 nh c3] 34 := Blk.new _ _ _
  have hs4 : Sl tI (w3.alloc (.cells #[.slice A3 nh c3] 34)) (fun b => w.heap.size ≤ b) (.slice A3 nh c3) ahead := (HO3.out.sl.mono fun b hb => hb.elim False.elim And.left).below ((Below.refl _ _).alloc (Nat.le_refl _) _)
  refine ⟨_, rfl, ⟨_, 1, [.slice A3 nh c3], rfl, Nat.le_refl _, ⟨by omega, fun h => by cases h⟩, Cells.one (t := tI.slice) (x := ahead) ⟨_, rfl, hs4⟩, .inr ⟨w3.heap.size, 0, rfl, HB3.out.size, fun j u hj => by rw [hbk.cell (0 + j)]; simpa using hj⟩⟩, hb4⟩

set_option maxHeartbeats 16000000 in
theorem rall_node (l : List Plan) (A : Option Addr) (n cap B ga f : Nat) (hn : n ≤ 64) (hBg : B ≤ ga) (hop200 : ∀ p ∈ l, p.ops.length ≤ 200)
    (IH : ∀ (at' : List Nat) (ahead' : List Int) (Ah' : Option Addr) (nh' ch' most' : Nat) (X : World), Sl tPlan X (fun b => b < B) (.slice A n cap) l → Ats X ga at' → at'.length = n → rest l at' = f → Sl tI X (fun b => b ≠ ga) (.slice Ah' nh' ch') ahead' → nh' + f ≤ 20000 → 1 ≤ most' → most' ≤ 1000 →
      Calls Try.prog 18 #[.slice A n cap, .slice (some ⟨ga, 0, none⟩) n n, .slice Ah' nh' ch', .int .i64 (most' : Int)] X fun e w' => ∃ v, e = .returned v ∧ Sl tI.slice w' (fun b => X.heap.size ≤ b) v (((full l f at').map fun t => ahead' ++ t).take most') ∧ Below X.heap.size X w')
    (at_ : List Nat) (ahead : List Int) (Ah : Option Addr) (nh ch most : Nat) (w : World) (hl : Sl tPlan w (fun b => b < B) (.slice A n cap) l) (hd : Ats w ga at_) (hal : at_.length = n) (hr : rest l at_ = f + 1)
    (hah : Sl tI w (fun b => b ≠ ga) (.slice Ah nh ch) ahead) (hnh : nh + (f + 1) ≤ 20000) (hm : 1 ≤ most) (hm1 : most ≤ 1000) :
    Calls Try.prog 18 #[.slice A n cap, .slice (some ⟨ga, 0, none⟩) n n, .slice Ah nh ch, .int .i64 (most : Int)] w fun e w' => ∃ v, e = .returned v ∧ Sl tI.slice w' (fun b => w.heap.size ≤ b) v (((full l (f + 1) at_).map fun t => ahead ++ t).take most) ∧ Below w.heap.size w w' := by
  have hon : openL l at_ ≠ [] := fun h => by
    have := rest_none (by rw [hal]; exact hl.length.1.symm) h
    omega
  have hahn := hah.length.1
  have HAH := Lib.hid hah
  have HL := Lib.hid hl
  have HAT := Lib.hid hd
  have hgl := hd.lt
  have HO := Lib.hid (ropen_calls l A n cap ga at_ w (hl.mono fun _ _ => trivial) hd hal (by omega))
  have H200 := Lib.hid hop200
  have HIH := Lib.hid IH
  have hlen0 : 0 < (openL l at_).length := List.length_pos_iff.2 hon
  clear hl hd hah hop200 IH hon
  go_enter Try.func18, Try.ntmps18
  go_wp2_with fail
  refine HO.out.mono ?_
  rintro e w1 ⟨v, rfl, hs, hb⟩
  obtain ⟨A1, c1, rfl, hc11, hc12, -⟩ := hs.form
  rw [List.length_map] at hs hc11 ⊢
  have HB1 := Lib.hid hb
  have HS1 := Lib.hid hs
  have HAH1 := Lib.hid (HAH.out.below hb)
  have HL1 := Lib.hid (HL.out.below hb)
  have HAT1 := Lib.hid (HAT.out.below hb hgl)
  have hgl1 : ga < w1.heap.size := Nat.lt_of_lt_of_le hgl hb.size
  have hX1 := Lib.hid (Below.refl w1.heap.size w1)
  have HO0 := Lib.hid (Own.nil tI.slice w1 w1.heap.size 34 (fun b => w1.heap.size ≤ b))
  have hP0 : Hid ((part l f at_ ahead 0).take most = []) := by show _ = _; simp [part]
  obtain ⟨m, hmm⟩ : ∃ m, (openL l at_).length = m := ⟨_, rfl⟩
  rw [hmm] at hs HS1 hc11 hlen0 ⊢
  have HMM := Lib.hid hmm
  clear hs hb HO HAH HL HAT hmm
  have hmz : ((m : Int) == 0) = false := beq_eq_false_iff_ne.2 (by omega)
  go_wp2
  go_loopw [10, 11, 12, 25] (fun vo _ _ vi w' => ∃ (j : Nat) (A3 : Option Addr) (n3 c3 : Nat), j ≤ m ∧ vi = .int .i64 j ∧ vo = .slice A3 n3 c3 ∧ Hid (Own tI.slice w' w1.heap.size 34 (fun b => w1.heap.size ≤ b) (.slice A3 n3 c3) ((part l f at_ ahead j).take most)) ∧ n3 = ((part l f at_ ahead j).take most).length ∧ Hid (Ats w' ga at_) ∧ Hid (Below w1.heap.size w1 w')) (fun _ _ _ i _ => m - (intOf i).toNat)
  case atStart => exact ⟨0, none, 0, 0, by omega, rfl, rfl, by rw [hP0.out]; exact HO0, by rw [hP0.out]; rfl, HAT1, hX1⟩
  case round =>
    clear hP0 HO0 hX1 HAT1
    obtain ⟨j, A3, n3, c3, hj, rfl, rfl, hO, hn3, hat, hb⟩ := hrel
    have hbw := Lib.hid (HB1.out.trans (hb.out.mono HB1.out.size))
    by_cases hlt : j < m
    · obtain ⟨i, hi⟩ := some_at (show j < (openL l at_).length by rw [HMM.out]; exact hlt)
      obtain ⟨b1, off1, hAe, hbl1, i0⟩ := sl_int (z := (i : Int)) (HS1.out.below hb.out) (i := j) (by rw [List.getElem?_map, hi]; rfl)
      subst hAe
      by_cases hbr : most ≤ n3
      · have hpre : Hid (((full l (f + 1) at_).map fun t => ahead ++ t).take most = (part l f at_ ahead j).take most) := part_pre j most (by rw [← hn3]; exact hbr)
        clear hn3
        go_wp2
        go_ret
        refine ⟨_, rfl, ?_, hbw.out⟩
        rw [hpre.out]
        have h1 := HB1.out.size
        exact hO.out.sl.mono fun b hb => hb.elim (fun h => by omega) (fun h => by omega)
      · obtain ⟨p, a, o, hp, ha, hoo⟩ := left_get (open_left (List.mem_of_getElem? hi))
        have halt : a < p.ops.length := (List.getElem?_eq_some_iff.1 hoo).1
        have ha200 : a < 200 := Nat.lt_of_lt_of_le halt (H200.out p (List.mem_of_getElem? hp))
        have hri := rest_inc hp ha halt
        have hie := inc_eq ha
        have HPS := Lib.hid (part_step (f := f) (ahead := ahead) hi)
        obtain ⟨k3, k4⟩ := hat.out.cell ha
        have hga : ga < wr.heap.size := Nat.lt_of_lt_of_le hgl1 hb.out.size
        have hin : i < n := by rw [← hal]; exact (List.getElem?_eq_some_iff.1 ha).1
        have HA := Lib.hid ha
        have HN3 := Lib.hid hn3
        have hn31 : n3 < 1000 := by omega
        clear hp ha hoo halt hi hn3
        have hA1 : Hid (Ats (wr.setCell ⟨ga, i, none⟩ (.int .i64 ((a : Int) + 1))) ga (at_.set i (a + 1))) := hat.out.set i (a + 1)
        have hg1 : wr.grownBy (wr.setCell ⟨ga, i, none⟩ (.int .i64 ((a : Int) + 1))) (some ga) :=
          ⟨rfl, rfl, rfl, by simp, fun m hm hne => Below.heap_setCell _ _ _ _ (by show m ≠ ga; intro e; exact hne (by rw [e]))⟩
        have hsz1 : (wr.setCell ⟨ga, i, none⟩ (.int .i64 ((a : Int) + 1))).heap.size = wr.heap.size := by simp
        have hO1 := Lib.hid (hO.out.grown hg1 (fun b hb e => by have := (hO.out.lo hb).1; injection e with e; omega) (fun b h e => by injection e with e; omega))
        have hAH1 := Lib.hid ((HAH1.out.below hb.out).inb.step fun b hb => hg1.block b hb.2 (fun e => hb.1 (by injection e)))
        have hL1 := Lib.hid ((HL1.out.below hb.out).inb.step fun b hb => hg1.block b hb.2 (fun e => by have := hb.1; injection e with e; omega))
        have HG1 := Lib.hid hg1
        have hE2 : Hid (Own tI ((wr.setCell ⟨ga, i, none⟩ (.int .i64 ((a : Int) + 1))).alloc (.cells #[] 3)) wr.heap.size 3 (fun _ => False) (.slice (some ⟨wr.heap.size, 0, none⟩) 0 0) []) := by
          have := Own.empty tI (wr.setCell ⟨ga, i, none⟩ (.int .i64 ((a : Int) + 1))) (base := wr.heap.size) 3 (fun _ => False) (by rw [hsz1]; exact Nat.le_refl _)
          rwa [hsz1] at this
        have hB2 : Hid (Below wr.heap.size (wr.setCell ⟨ga, i, none⟩ (.int .i64 ((a : Int) + 1))) ((wr.setCell ⟨ga, i, none⟩ (.int .i64 ((a : Int) + 1))).alloc (.cells #[] 3))) := (Below.refl _ _).alloc (by rw [hsz1]; exact Nat.le_refl _) _
        have hX2 := Lib.hid (sl_int_x (hAH1.out.below ((Below.refl _ _).alloc (Nat.le_refl _) (.cells #[] 3))) (fun b => False ∧ (Value.slice (some ⟨wr.heap.size, 0, none⟩) 0 0).ownBlock ≠ some b))
        clear hg1
        go_wp2_with (first
          | (at_builtin
             refine wpList_appSl (o := ⟨some 45, _, _, _, _, _⟩) (t := tI) (w0 := (wr.setCell ⟨ga, i, none⟩ (.int .i64 ((a : Int) + 1)))) (l := []) (m := ahead) wr.heap.size rfl _ _ 34 3 _ 8 rfl Try.underlying34 info3 rfl (by decide) (by decide) rfl rfl hE2.out hX2.out hB2.out ?c2 ?c3 ?_; (case c2 => simp); (case c3 => rw [List.length_nil, hahn]; omega); intro v4 w4 hO4 hB4 _ _
             rw [List.nil_append] at hO4
             obtain ⟨A4, c4, rfl, -⟩ := hO4.form
             rw [hahn] at hO4 ⊢
             have HO4 := Lib.hid hO4
             have HB4 := Lib.hid hB4
             have hK4 : Hid (tI.K w4 (fun b => False ∧ (Value.slice A4 nh c4).ownBlock ≠ some b) (j : Int) [.int .i64 (j : Int)]) := rfl
             have hz4 := (hB4.size : (wr.setCell ⟨ga, i, none⟩ (.int .i64 ((a : Int) + 1))).heap.size ≤ w4.heap.size)
             rw [hsz1] at hz4
             clear hO4 hB4)
          | (at_builtin
             refine wpList_app1 (o := ⟨some 48, _, _, _, _, _⟩) (t := tI) (w0 := (wr.setCell ⟨ga, i, none⟩ (.int .i64 ((a : Int) + 1)))) (g := w4.heap.size) (cs := [.int .i64 (j : Int)]) (y := (j : Int)) wr.heap.size rfl _ _ 34 3 _ 8 rfl Try.underlying34 info3 rfl (by decide) (by decide) rfl rfl rfl HO4.out hK4.out HB4.out ?d2 ?d3 ?_; (case d2 => exact hz4); (case d3 => rw [hahn]; omega); intro v5 w5 hO5 hB5 _ _
             obtain ⟨A5, c5, rfl, -⟩ := hO5.form
             have hl5 : (ahead ++ [(j : Int)]).length = nh + 1 := (by rw [List.length_append, hahn]; rfl)
             rw [hl5] at hO5 ⊢
             have HO5 := Lib.hid hO5
             have HB5 := Lib.hid hB5
             clear hO5 hB5))
        have hA5 := Lib.hid (hA1.out.below HB5.out hga)
        have hL5 := Lib.hid ((hL1.out.step fun b hb => HB5.out.block b hb.2).mono (ok' := fun b => b < B) fun b hb => hb.1)
        have hI5 := Lib.hid (HO5.out.sl.mono (ok' := fun b => b ≠ ga) fun b hb => hb.elim False.elim (fun h e => by omega))
        have hcall := HIH.out (at_.set i (a + 1)) (ahead ++ [(j : Int)]) A5 (nh + 1) c5 (most - n3) w5 hL5.out hA5.out (by rw [List.length_set]; exact hal) (by omega) hI5.out (by omega) (by omega) (by omega)
        rw [show ((most - n3 : Nat) : Int) = (most : Int) - (n3 : Int) by omega] at hcall
        refine hcall.mono ?_
        rintro e w6 ⟨v6, rfl, hs6, hb6⟩
        obtain ⟨L6, hL6⟩ : ∃ L6, ((full l f (at_.set i (a + 1))).map fun t => (ahead ++ [(j : Int)]) ++ t).take (most - n3) = L6 := ⟨_, rfl⟩
        have hL6n : L6.length ≤ most - n3 := by rw [← hL6, List.length_take]; exact Nat.min_le_left _ _
        rw [hL6] at hs6
        have hpart : Hid ((part l f at_ ahead (j + 1)).take most = (part l f at_ ahead j).take most ++ L6) := by
          show _ = _
          have hn3' := HN3.out
          rw [List.length_take] at hn3'
          have hlt3 : (part l f at_ ahead j).length = n3 := by omega
          rw [HPS.out, hie, List.take_append, hlt3, hL6]
        clear hcall hL6
        have h51 : wr.heap.size ≤ w5.heap.size := by have := HB5.out.size; rw [hsz1] at this; exact this
        have hO6 := Lib.hid ((hO1.out.below (by rw [hsz1]; exact HB5.out)).below hb6)
        have hA6 := Lib.hid (hA5.out.below hb6 (Nat.lt_of_lt_of_le hga h51))
        have hb1w : w1.heap.size ≤ wr.heap.size := hb.out.size
        have hX6 : Hid (Below w1.heap.size (wr.setCell ⟨ga, i, none⟩ (.int .i64 ((a : Int) + 1))) w6) := (HB5.out.mono hb1w).trans (hb6.mono (by omega))
        have hlo : ∀ b, (Value.slice A3 n3 c3).ownBlock = some b → b < wr.heap.size := fun b e => by have := (hO1.out.lo e).2; rwa [hsz1] at this
        have hS6 : Hid (SlX tI.slice w6 (fun b => w1.heap.size ≤ b ∧ (Value.slice A3 n3 c3).ownBlock ≠ some b) v6 L6) := (hs6.mono fun b hb => ⟨by omega, fun e => by have := hlo _ e; omega⟩).x
        have hpl : ((part l f at_ ahead j).take most).length = n3 := HN3.out.symm
        have hz6 : w1.heap.size ≤ w6.heap.size := by have := hb6.size; omega
        have hne : (Value.slice A3 n3 c3).ownBlock ≠ some ga := fun e => by have := (hO.out.lo e).1; omega
        clear hs6 hb6 hlo hO1 hA1 hAH1 hL1 hE2 hB2 hX2 HO4 HB4 hK4 HO5 HB5 hA5 hL5 hI5
        go_wp2_with (at_builtin
                     refine wpList_appSl (o := ⟨some 54, _, _, _, _, _⟩) (t := tI.slice) (w0 := (wr.setCell ⟨ga, i, none⟩ (.int .i64 ((a : Int) + 1)))) (ok := fun b => w1.heap.size ≤ b) (l := (part l f at_ ahead j).take most) (m := L6) w1.heap.size rfl _ _ 28 34 _ 24 rfl Try.underlying28 info34 rfl (by decide) (by decide) rfl rfl hO6.out hS6.out hX6.out ?c2 ?c3 ?_; (case c2 => exact hz6); (case c3 => rw [hpl]; omega); intro v7 w7 hO7 hB7 hg7 _
                     rw [← hpart.out] at hO7
                     obtain ⟨A7, c7, rfl, -⟩ := hO7.form
                     obtain ⟨n7, hn7⟩ : ∃ n7, ((part l f at_ ahead (j + 1)).take most).length = n7 := ⟨_, rfl⟩
                     rw [hn7] at hO7 ⊢
                     have HN7 := Lib.hid hn7
                     clear hn7
                     have hA7 := hA6.out.grown hg7 hne
                     have k3 : w7.cell? ⟨ga, i, none⟩ = some (.int .i64 ((a : Int) + 1)) := (hA7.cell (i := i) (a := a + 1) (List.getElem?_set_self (by rw [hal]; exact hin))).1
                     have k4 := (hA7.cell (i := i) (a := a + 1) (List.getElem?_set_self (by rw [hal]; exact hin))).2
                     have k5 := hA7.lt
                     have HO7 := Lib.hid hO7
                     have HB7 := Lib.hid hB7
                     have HA7 := Lib.hid hA7
                     clear hO7 hB7 hg7 hA7)
        have hA8 : Hid (Ats (w7.setCell ⟨ga, i, none⟩ (.int .i64 (a : Int))) ga at_) := by
          have h := HA7.out.set i a
          rwa [set_back HA.out] at h
        have hG8 : w7.grownBy (w7.setCell ⟨ga, i, none⟩ (.int .i64 (a : Int))) (some ga) :=
          ⟨rfl, rfl, rfl, by simp, fun m hm hne => Below.heap_setCell _ _ _ _ (by show m ≠ ga; intro e; exact hne (by rw [e]))⟩
        have hO8 := Lib.hid (HO7.out.grown hG8 (fun b hb e => by have := (HO7.out.lo hb).1; injection e with e; omega) (fun b h e => by injection e with e; omega))
        have hB8 : Hid (Below w1.heap.size w1 (w7.setCell ⟨ga, i, none⟩ (.int .i64 (a : Int)))) := by
          have h1 : (w7.setCell ⟨ga, i, none⟩ (.int .i64 (a : Int))).heap.size = w7.heap.size := by simp
          refine ⟨HB7.out.os.trans (HG1.out.os.trans hb.out.os), HB7.out.tape.trans (HG1.out.tape.trans hb.out.tape), HB7.out.output.trans (HG1.out.output.trans hb.out.output), ?_, fun k hk => ?_⟩
          · have := HB7.out.size
            rw [hsz1] at this
            rw [h1]; omega
          · by_cases hkg : k = ga
            · subst hkg
              exact (Ats.same hat.out hA8.out).trans (hb.out.block k hk)
            · have e1 : (w7.setCell ⟨ga, i, none⟩ (.int .i64 (a : Int))).heap[k]? = w7.heap[k]? := Below.heap_setCell _ _ _ _ hkg
              exact e1.trans ((HB7.out.block k hk).trans ((HG1.out.block k (by omega) (fun e => hkg (by injection e))).trans (hb.out.block k hk)))
        go_roundw
        case rel => exact ⟨j + 1, A7, n7, c7, by omega, by go_num, rfl, hO8, HN7.out.symm, hA8, hB8⟩
        case measure => simp [intOf]; omega
    · obtain rfl : j = m := by omega
      have hfin : Hid (((full l (f + 1) at_).map fun t => ahead ++ t).take most = (part l f at_ ahead j).take most) := by
        show _ = _
        rw [part_all (by rw [HMM.out]; exact Nat.le_refl _)]
      clear hn3
      go_wp2
      go_ret
      refine ⟨_, rfl, ?_, hbw.out⟩
      rw [hfin.out]
      have h1 := HB1.out.size
      exact hO.out.sl.mono fun b hb => hb.elim (fun h => by omega) (fun h => by omega)
end Go.Proofs.Ytidjcdfdfbomiaa
