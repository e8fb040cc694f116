import Derived.Test.YtidjcdfdfbomiaaW7
/-! Picks. -/
namespace Go.Proofs.Ytidjcdfdfbomiaa
open Go.RowKit Go.Op

inductive Walk (l : List Plan) : List Nat → List Nat → Prop
  | done {at_ : List Nat} : openL l at_ = [] → Walk l at_ []
  | step {at_ : List Nat} {i : Nat} {is : List Nat} : i ∈ openL l at_ → Walk l (inc at_ i) is → Walk l at_ (i :: is)
theorem RunRel.walk {l : List Plan} {at_ : List Nat} {pk : List Int} {is : List Nat} (h : RunRel l at_ pk is) : Walk l at_ is := by
  induction h with
  | done h => exact .done h
  | step h _ ih => exact .step (List.mem_of_getElem? h) ih
def placesOf (l : List Plan) : List Nat → List Nat → List Int
  | _, [] => []
  | at_, i :: is => placeV l at_ i :: placesOf l (inc at_ i) is
theorem good_before : ∀ (l : List Plan) (S : List Int), goodGo S l = true → (∀ p ∈ l, p.sess ∉ S) ∧ ∀ (a b : Nat) (p q : Plan), a < b → l[a]? = some p → l[b]? = some q → p.sess ≠ q.sess
  | [], _, _ => ⟨fun p hp => (by cases hp), fun a b p q _ h => by simp at h⟩
  | r :: l, S, h => by
    simp only [goodGo, Bool.and_eq_true, decide_eq_true_eq, Bool.not_eq_true', List.all_eq_true] at h
    obtain ⟨h1, h2⟩ := good_before l _ h.2.2.2.2.2
    have hS : r.sess ∉ S := by
      intro hm
      have := h.2.2.1
      simp [hm] at this
    refine ⟨fun p hp => ?_, fun a b p q hab hp hq => ?_⟩
    · rcases List.mem_cons.1 hp with rfl | hp
      · exact hS
      · exact fun hm => h1 p hp (List.mem_cons_of_mem _ hm)
    · cases b with
      | zero => omega
      | succ b =>
        have hq' : l[b]? = some q := by simpa using hq
        cases a with
        | zero =>
          have e : r = p := by simpa using hp
          subst e
          intro e
          exact h1 q (List.mem_of_getElem? hq') (by rw [← e]; exact List.mem_cons_self)
        | succ a => exact h2 a b p q (by omega) (by simpa using hp) hq'
theorem idx_sess {l : List Plan} (hg : good l = true) {i : Nat} {p : Plan} (hp : l[i]? = some p) : idx (fun q : Plan => q.sess == p.sess) l = (i : Int) := by
  have hgo : goodGo [] l = true := by simp only [good, Bool.and_eq_true] at hg; exact hg.2
  obtain ⟨-, h2⟩ := good_before l [] hgo
  exact idx_hit (fun a y ha hy => beq_eq_false_iff_ne.2 (h2 a i y p ha hy hp)) hp (by simp)

set_option maxHeartbeats 8000000 in
theorem picks_calls (l : List Plan) (A : Option Addr) (n cap : Nat) (is : List Nat) (A2 : Option Addr) (n2 cap2 : Nat) (w : World) (hl : Sl tPlan w (fun _ => True) (.slice A n cap) l) (htr : Sl tOp w (fun _ => True) (.slice A2 n2 cap2) (opsOf l (List.replicate n 0) is)) (hgd : good l = true)
    (hw : Walk l (List.replicate n 0) is) (h128 : n2 ≤ 12800) :
    Calls Try.prog 14 #[.slice A n cap, .slice A2 n2 cap2] w fun e w' => ∃ A3 n3 c3, e = .returned (.tuple #[.slice A3 n3 c3, .bool true]) ∧ Sl tI w' (fun b => w.heap.size ≤ b) (.slice A3 n3 c3) (placesOf l (List.replicate n 0) is) ∧ Below w.heap.size w w' := by
  obtain ⟨hln, hcap, hcm⟩ := hl.length
  obtain ⟨htn, htc, htm⟩ := htr.length
  have H := Lib.hid hl.inb
  have HT := Lib.hid htr.inb
  have HG := Lib.hid (good_calls l A n cap w hl)
  rw [hgd] at HG
  have HGD := Lib.hid hgd
  obtain ⟨hg64, hgp⟩ := good_len hgd
  have HGP := Lib.hid hgp
  have HW := Lib.hid hw
  clear hl htr hgp hw hgd
  obtain ⟨tr, htre⟩ : ∃ tr, opsOf l (List.replicate n 0) is = tr := ⟨_, rfl⟩
  rw [htre] at HT htn
  have HTR : Hid (tr.drop 0 = opsOf l (List.replicate n 0) is) := by show _ = _; rw [htre]; rfl
  clear htre
  have hK0 : Hid ([] ++ placesOf l (List.replicate n 0) is = placesOf l (List.replicate n 0) is) := rfl
  obtain ⟨F, hF⟩ : ∃ F, placesOf l (List.replicate n 0) is = F := ⟨_, rfl⟩
  rw [hF]
  have hK1 : Hid ([] ++ placesOf l (List.replicate n 0) is = F) := hK0.out.trans hF
  clear hK0 hF
  obtain ⟨at0, hat⟩ : ∃ at0, List.replicate n 0 = at0 := ⟨_, rfl⟩
  rw [hat] at HTR HW hK1
  go_enter Try.func14, Try.ntmps14
  go_wp2_with fail
  refine HG.out.mono ?_
  rintro e w1 ⟨rfl, hb1⟩
  clear HG
  go_wp2_with fail
  refine (lay_calls A n cap w1 (by omega)).mono ?_
  rintro e w2 ⟨gd, ga, rfl, hd2, hgd1, hga1, hb2⟩
  rw [hat] at hd2
  have HB2 := Lib.hid (hb1.trans (hb2.mono hb1.size))
  have HD2 := Lib.hid hd2
  have hgd0 : w.heap.size ≤ gd := Nat.le_trans hb1.size hgd1
  have hga0 : w.heap.size ≤ ga := Nat.le_trans hb1.size hga1
  clear hb1 hb2 hd2 hgd1 hga1 hat
  have HW0 := Lib.hid (Own.nil tI w2 w.heap.size 3 (fun _ => False))
  go_wp2
  go_loopw [7, 9, 10, 18] (fun vo _ _ vi w' => ∃ (j : Nat) (at_ js : List Nat) (acc : List Int) (A3 : Option Addr) (c3 : Nat), j ≤ n2 ∧ vi = .int .i64 j ∧ acc.length = j ∧ vo = .slice A3 acc.length c3 ∧ Hid (Own tI w' w.heap.size 3 (fun _ => False) (.slice A3 acc.length c3) acc) ∧
      Hid ((Value.slice A3 acc.length c3).ownBlock ≠ some gd ∧ (Value.slice A3 acc.length c3).ownBlock ≠ some ga) ∧ Hid (Desk w' gd ga A n cap at_) ∧ Hid (tr.drop j = opsOf l at_ js) ∧ Hid (Walk l at_ js) ∧ Hid (acc ++ placesOf l at_ js = F) ∧ Hid (Below w.heap.size w w')) (fun _ _ _ i _ => n2 - (intOf i).toNat)
  case atStart => exact ⟨0, at0, is, [], none, 0, by omega, rfl, rfl, rfl, HW0, ⟨by simp [Value.ownBlock], by simp [Value.ownBlock]⟩, HD2, HTR, HW, hK1, HB2⟩
  case round =>
    clear HW0 HD2 HTR HW hK1 HB2
    obtain ⟨j, at_, js, acc, A3, c3, hj, rfl, hal, rfl, hO, hne, hd, htd, hwk, hK, hb⟩ := hrel
    have HAL := Lib.hid hal
    clear hal
    by_cases hlt : j < n2
    · rcases js with _ | ⟨i, js⟩
      · exfalso
        have h := congrArg List.length htd.out
        rw [opsOf, List.length_drop] at h
        simp at h
        omega
      obtain ⟨hio, hwn⟩ : i ∈ openL l at_ ∧ Walk l (inc at_ i) js := by
        have h := hwk.out
        cases h with
        | step h1 h2 => exact ⟨h1, h2⟩
      obtain ⟨p, a, o, hp, ha, hoo⟩ := left_get (open_left hio)
      have hoe := opAt_eq hp ha hoo
      have hie := inc_eq ha
      have halt : a < p.ops.length := (List.getElem?_eq_some_iff.1 hoo).1
      have htd2 := htd.out
      rw [opsOf, hoe] at htd2
      have hto : tr[j]? = some o := by
        have : (tr.drop j)[0]? = some o := by rw [htd2]; rfl
        simpa using this
      have htd3 : Hid (tr.drop (j + 1) = opsOf l (inc at_ i) js) := by
        show _ = _
        have : (tr.drop j).drop 1 = opsOf l (inc at_ i) js := by rw [htd2]; rfl
        rwa [List.drop_drop] at this
      have hidx := idx_sess HGD.out hp
      have hos : o.sess = p.sess := (HGP.out p (List.mem_of_getElem? hp)).2.2.2 o (List.mem_of_getElem? hoo)
      rw [← hos] at hidx
      clear hos
      obtain ⟨b2, off2, rfl, hbl2, t0, t1, t2, t3, t4, t5⟩ := sl_op (HT.out.below hb.out) hto
      have hlt1 : leftB l at_ i = true := open_left hio
      have hbl := hb.out.size
      have hdx := Lib.hid (hd.out.below ((Below.refl _ _).alloc (Nat.le_refl _) (.cells #[.int .i64 o.kind, .int .i64 o.sess, .bool o.strict, .string o.key, .string o.val, .int .i64 o.n] 48)))
      have hbx := Lib.hid (hb.out.alloc hb.out.size (.cells #[.int .i64 o.kind, .int .i64 o.sess, .bool o.strict, .string o.key, .string o.val, .int .i64 o.n] 48))
      have hOx := Lib.hid (hO.out.below ((Below.refl _ _).alloc (Nat.le_refl _) (.cells #[.int .i64 o.kind, .int .i64 o.sess, .bool o.strict, .string o.key, .string o.val, .int .i64 o.n] 48)))
      have hBx : Hid (Blk (wr.alloc (.cells #[.int .i64 o.kind, .int .i64 o.sess, .bool o.strict, .string o.key, .string o.val, .int .i64 o.n] 48)) wr.heap.size #[.int .i64 o.kind, .int .i64 o.sess, .bool o.strict, .string o.key, .string o.val, .int .i64 o.n] 48) := Blk.new _ _ _
      have hdl := hd.out.lt
      go_wp2_with fail
      clear t0 t1 t2 t3 t4 t5 hbl2
      generalize wr.alloc (.cells #[.int .i64 o.kind, .int .i64 o.sess, .bool o.strict, .string o.key, .string o.val, .int .i64 o.n] 48) = wx at *
      generalize wr.heap.size = g9 at *
      have hc := index_plans (fun q => q.sess == o.sess) 28 #[.pointer (some ⟨g9, 0, none⟩)] l A n cap wx ((H.out.below hbx.out).mono fun _ _ => trivial) (fun _ _ => by rfl)
        (fun p P np cp W _ h => picks_in p.sess o.sess P np cp g9 W ((hBx.out.below h hBx.out.lt).cell 1))
      rw [hidx] at hc
      refine hc.mono ?_
      rintro e w5 ⟨rfl, hb5⟩
      have hd5 := Lib.hid (hdx.out.below hb5)
      have hB5 := Lib.hid (hbx.out.trans (hb5.mono hbx.out.size))
      have hO5 := Lib.hid (hOx.out.below hb5)
      have hX5 := Lib.hid (hBx.out.below hb5 hBx.out.lt)
      clear hc hb5 hdx hbx hOx hBx hd hO
      have HLF : Hid (∀ X, Below w5.heap.size w5 X → Calls Try.prog 29 #[.pointer (some ⟨gd, 0, none⟩), .int .i64 (i : Int)] X fun e w' => e = .returned (.bool true) ∧ Below X.heap.size X w') := fun X hX => by
        have := left_calls l A n cap gd ga at_ i p a X ((H.out.below (hB5.out.trans (hX.mono hB5.out.size))).mono fun _ _ => trivial) (hd5.out.below hX) hp ha
        rwa [decide_eq_true halt] at this
      have hnq : ∀ W, (Go.binOp .neq 48 (.agg #[.int .i64 o.kind, .int .i64 o.sess, .bool o.strict, .string o.key, .string o.val, .int .i64 o.n]) (.agg #[.int .i64 o.kind, .int .i64 o.sess, .bool o.strict, .string o.key, .string o.val, .int .i64 o.n])).run Try.prog W = .ok (.bool false) W := fun W => by
        rw [run_neq_op o o W, sameOp_refl]; rfl
      have hgd48 := guard48
      have hin : i < n := by rw [← hln]; exact (List.getElem?_eq_some_iff.1 hp).1
      obtain ⟨bp, offp, P, np, cp, hAe, hblp, g0, g1, hP⟩ := sl_plan (H.out.below hB5.out) hp
      have hpn := hP.length.1
      have hpc := hP.length.2
      obtain ⟨bo, offo, hPe, hblo, o0, o1, o2, o3, o4, o5⟩ := sl_op hP hoo
      obtain ⟨k0, k1, k2⟩ := hd5.out.cells
      obtain ⟨k3, k4⟩ := k2 i a ha
      obtain ⟨q0, q1⟩ := hd5.out.lt
      obtain ⟨x0, x1, x2, x3, x4, x5⟩ := op_cells o hX5.out
      have qx := hX5.out.lt
      rw [hpn] at halt
      have HIE := Lib.hid hie
      have HA := Lib.hid ha
      subst hAe hPe
      clear k2 hP hp hoo hoe hie hto htd2 ha
      have hX0 := Lib.hid (Below.refl w5.heap.size w5)
      have hi0 : decide ((i : Int) < 0) = false := decide_eq_false (by omega)
      go_wp2_with fail
      refine wp_region_later (by kernel_rfl) (by kernel_rfl) ?_
      repeat (go_big_quiet_step (first
        | (go_at_call 29; exact calls_later (HLF.out _ (later_from hX0.out (Nat.le_refl _) _)))))
      refine wpQuiet_nil ?_
      rintro _ ⟨e, rfl⟩
      have hb6 := later_below e
      have hd6 := Lib.hid (hd5.out.below hb6)
      have hB6 := Lib.hid (hB5.out.trans (hb6.mono hB5.out.size))
      have hO6 := Lib.hid (hO5.out.below hb6)
      clear HLF hnq g0 g1 o0 o1 o2 o3 o4 o5 k0 k1 k3 k4 x0 x1 x2 x3 x4 x5 q0 q1 qx hblp hblo hX5 hd5 hB5 hO5 hX0 hb6
      generalize later _ e = w6 at *
      go_wp2_with fail
      have hpl := place_calls l (some ⟨bp, offp, none⟩) n cap gd ga at_ i w6 ((H.out.below hB6.out).mono fun _ _ => trivial) hd6.out (by omega)
      refine hpl.mono ?_
      rintro e w7 ⟨rfl, hb7⟩
      have hd7 := Lib.hid (hd6.out.below hb7)
      have hB7 := Lib.hid (hB6.out.trans (hb7.mono hB6.out.size))
      have hO7 := Lib.hid (hO6.out.below hb7)
      clear hpl hb7 hd6 hB6 hO6
      obtain ⟨z, hz⟩ : ∃ z, placeV l at_ i = z := ⟨_, rfl⟩
      have HZ := Lib.hid hz
      rw [hz]
      clear hz
      have hK7 : Hid (tI.K w7 (fun b => False ∧ (Value.slice A3 acc.length c3).ownBlock ≠ some b) z [.int .i64 z]) := rfl
      have hac : acc.length ≤ 12800 := by have := HAL.out; omega
      go_wp2_with (first
        | (at_builtin
           refine wpList_app1 (o := ⟨some 56, _, _, _, _, _⟩) (t := tI) (w0 := w) (g := w7.heap.size) (cs := [.int .i64 z]) (y := z) w.heap.size rfl _ _ 34 3 _ 8 rfl Try.underlying34 info3 rfl (by decide) (by decide) rfl rfl rfl hO7.out hK7.out hB7.out ?c2 ?c3 ?_; (case c2 => exact hB7.out.size); (case c3 => omega); intro v6 w8 hO8 hB8 hg8 hv8
           have hd8 := hd7.out.grown hg8 hne.out.1 hne.out.2
           have hv8' : v6.ownBlock ≠ some gd ∧ v6.ownBlock ≠ some ga := (by
             have h1 := hd7.out.lt
             rcases hv8 with h | ⟨b, h, h2⟩
             · rw [h]; exact hne.out
             · rw [h]; exact ⟨fun e => by injection e with e; omega, fun e => by injection e with e; omega⟩)
           have HD8 := Lib.hid hd8
           have k0 := hd8.cells.1
           have k1 := hd8.cells.2.1
           have k3 := (hd8.cells.2.2 i a HA.out).1
           have k4 := (hd8.cells.2.2 i a HA.out).2
           have q0 := hd8.lt.1
           have q1 := hd8.lt.2
           have HV8 := Lib.hid hv8'
           have HO8 := Lib.hid hO8
           have HB8 := Lib.hid hB8
           clear hd8 hv8' hO8 hB8 hg8 hv8))
      clear k0 k1 k3 k4 q0 q1
      have hD9 : Hid (Desk (w8.setCell ⟨ga, i, none⟩ (.int .i64 ((a : Int) + 1))) gd ga (some ⟨bp, offp, none⟩) n cap (at_.set i (a + 1))) := HD8.out.set i (a + 1)
      have hG9 : w8.grownBy (w8.setCell ⟨ga, i, none⟩ (.int .i64 ((a : Int) + 1))) (some ga) :=
        ⟨rfl, rfl, rfl, by simp, fun k hk hne => Below.heap_setCell _ _ _ _ (by show k ≠ ga; intro e; exact hne (by rw [e]))⟩
      have hO9 := Lib.hid (HO8.out.grown hG9 (fun b hb e => HV8.out.2 (by rw [hb, e])) (fun _ h => h.elim))
      have hB9 := Lib.hid (below_row HB8.out hG9 HB8.out.size (fun k h => by injection h with h; omega))
      rw [← HIE.out] at hD9
      clear HD8 hG9 HO8 HB8
      generalize w8.setCell ⟨ga, i, none⟩ (.int .i64 ((a : Int) + 1)) = w9 at *
      obtain ⟨A9, c9, rfl, hc91, hc92, -⟩ := hO9.out.form
      go_roundw
      case rel =>
        exact ⟨j + 1, inc at_ i, js, acc ++ [z], A9, c9, by omega, by go_num, by rw [List.length_append, HAL.out]; rfl, rfl, hO9, HV8, hD9, htd3, hwn, by
          show _ = _
          rw [← hK.out, placesOf, HZ.out, List.append_assoc]; rfl, hB9⟩
      case measure => simp [intOf]; omega
    · have hjs : js = [] := by
        have h := htd.out
        rw [List.drop_of_length_le (by omega)] at h
        cases js with
        | nil => rfl
        | cons i js =>
          exfalso
          have h1 := hwk.out
          cases h1 with
          | step h1 h2 =>
            obtain ⟨p, a, o, hp, ha, hoo⟩ := left_get (open_left h1)
            rw [opsOf, opAt_eq hp ha hoo] at h
            cases h
      subst hjs
      have hop : openL l at_ = [] := by
        have h := hwk.out
        cases h with
        | done h => exact h
      have hF : acc = F := by have := hK.out; rwa [placesOf, List.append_nil] at this
      clear htd hwk
      go_wp2_with fail
      have hoc := open_calls l A n cap gd ga at_ wr ((H.out.below hb.out).mono fun _ _ => trivial) hd.out (by omega)
      rw [hop] at hoc
      refine hoc.mono ?_
      rintro e w7 ⟨v, rfl, hs7, hb7⟩
      obtain ⟨A7, c7, rfl, -⟩ := hs7.form
      have hO7 := Lib.hid (hO.out.below hb7)
      have hB7 := Lib.hid (hb.out.trans (hb7.mono hb.out.size))
      clear hoc hs7 hb7
      rw [List.map_nil, List.length_nil]
      subst hF
      go_wp2
      refine bodyPost_ret (v := .tuple #[.slice A3 acc.length c3, .bool true]) ?_ rfl ⟨A3, acc.length, c3, rfl, hO7.out.sl.mono fun b hb => hb.elim False.elim And.left, hB7.out⟩
      simp [results, Try.results14, go_sem]
end Go.Proofs.Ytidjcdfdfbomiaa
