import Derived.Test.YtidfogcilegloaaW28
import Derived.Test.YtidfogcilegloaaW11
/-! What the keys of a range had. -/
namespace Go.Proofs.Ytidfogcilegloaa
open Go.RowKit Go.Op Go.Shelf
attribute [local go_sem] Oper.semAt_some

theorem outs_snoc (E : List Ent) (n : Int) (pre : List (ByteArray × Value)) (k : ByteArray) (v : Value) : outs E n (pre ++ [(k, v)]) = match get (chainOf E k) n with | none => outs E n pre | some x => outs E n pre ++ [⟨k, x.val, false⟩] := by
  unfold outs
  rw [List.filterMap_append]
  cases h : get (chainOf E k) n <;> simp [h]
theorem outs_pre {E : List Ent} {n : Int} {pre S : List (ByteArray × Value)} (h : pre <+: S) : outs E n pre <+: outs E n S := by
  obtain ⟨t, rfl⟩ := h
  unfold outs
  rw [List.filterMap_append]
  exact List.prefix_append _ _
theorem take_pre {α : Type} {a b : List α} (h : a <+: b) {m : Nat} (h1 : a.length ≤ m) (h2 : m ≤ a.length) : b.take m = a := by
  obtain ⟨t, rfl⟩ := h
  obtain rfl : m = a.length := by omega
  simp
theorem info35 : (Try.prog.info? 68).map (fun i => (i.zero, i.size, i.bytes)) = some (some (.agg #[.string ⟨#[]⟩, .string ⟨#[]⟩, .bool false]), 3, 40) := by kernel_rfl
theorem grown_cell (w : World) (g : Nat) (v : Value) : w.grownBy (w.setCell ⟨g, 0, none⟩ v) (some g) := ⟨rfl, rfl, rfl, by simp, fun b _ hne => Below.heap_setCell w ⟨g, 0, none⟩ v b (fun e => hne (congrArg some e))⟩
theorem getV_none : getV none = .tuple #[.agg #[.int .i64 0, .string ⟨#[]⟩, .bool false], .bool false] := rfl
theorem getV_some (v : Ver) : getV (some v) = .tuple #[.agg #[.int .i64 v.at_, .string v.val, .bool v.dead], .bool true] := rfl

set_option maxHeartbeats 8000000 in
theorem scan_calls (pb mb : Nat) (kv : Value) (X : List Nat) (S : Sto) (x y : ByteArray) (n most : Int) (w : World) (h : Stm w pb mb kv X S) (hy : y.size ≤ maxLen) (_hx : x.size ≤ maxLen) :
    Calls Try.prog 22 #[.pointer (some ⟨pb, 0, none⟩), .string x, .string y, .int .i64 n, .int .i64 most] w fun e w' => ∃ v, e = .returned (.tuple #[v, .int .i64 (scanS S x y n most).2]) ∧ Sl tPair w' (fun b => w.heap.size ≤ b) v (scanS S x y n most).1 ∧ Below w.heap.size w w' := by
  obtain ⟨V, hV, hC⟩ := h.map
  obtain ⟨z0, hz0⟩ : ∃ z0, w.heap.size = z0 := ⟨_, rfl⟩
  obtain ⟨wa, hwa⟩ : ∃ wa, (w.alloc (.cells #[.int .i64 n] 3)).alloc (.cells #[.int .i64 most] 3) = wa := ⟨_, rfl⟩
  have hza : wa.heap.size = z0 + 2 := by rw [← hwa]; simp [hz0]
  have hba : Below w.heap.size w wa := by rw [← hwa]; exact ((Below.refl _ w).alloc (Nat.le_refl _) _).alloc (by simp) _
  have hN : Blk wa z0 #[.int .i64 n] 3 := by rw [← hwa, ← hz0]; exact (Blk.new _ _ _).alloc _
  have hR : Blk wa (z0 + 1) #[.int .i64 most] 3 := by rw [← hwa, ← hz0]; have := Blk.new (w.alloc (.cells #[.int .i64 n] 3)) #[.int .i64 most] 3; rwa [World.size_alloc] at this
  have HM := Lib.hid (may_calls pb mb kv X S n wa (h.below hba))
  unfold scanS
  obtain ⟨q, hq⟩ : ∃ q, may S n = q := ⟨_, rfl⟩
  rw [hq] at HM ⊢
  have c0 := hN.cell 0
  have HS := Lib.hid h
  have HV := Lib.hid hV
  have HC := Lib.hid hC
  have HBA := Lib.hid hba
  have HN := Lib.hid hN
  have HR := Lib.hid hR
  have HZ := Lib.hid hz0
  have HSC := Lib.hid (scan_eq (x := x) (y := y) (n := n) (V := V) h.ok.rising)
  clear h hV hC hba hN hR hq
  refine (callsIn_wide (n := 4)).1 ?_
  refine callsIn_of_wp_marks Try.func22 rfl trivial ?_ rfl
  simp only [Try.ntmps22, List.size_toArray, List.length_cons, List.length_nil, Nat.reduceAdd, Nat.reduceSub, Array.replicate_succ, Array.replicate_zero, List.push_toArray, List.append_toArray, List.nil_append, List.cons_append]
  refine wpIn_wide.2 ?_
  go_wp2_with fail
  refine HM.out.mono ?_
  rintro e w' ⟨rfl, rfl⟩
  clear HM
  by_cases h0 : q = 0
  case neg =>
    have h0' : (q != 0) = true := by simpa using h0
    have h0'' : (q == 0) = false := by simpa using h0
    have H0 := Lib.hid h0
    clear h0 c0
    go_wp2
    exact ⟨.tuple #[.slice none 0 0, .int .i64 q], by simp [results, Try.results22, go_sem], ⟨_, rfl, Sl.nil _ _ _, HZ.out ▸ HBA.out⟩⟩
  case pos =>
    subst h0
    go_wp2_with fail
    obtain ⟨wb, hwb⟩ : ∃ wb, wa.alloc (.cells #[.slice none 0 0] 32) = wb := ⟨_, rfl⟩
    have hzb : wb.heap.size = z0 + 3 := by rw [← hwb]; simp [hza]
    have hbb : Below wa.heap.size wa wb := by rw [← hwb]; exact (Below.refl _ _).alloc (Nat.le_refl _) _
    have hL : Blk wb (z0 + 2) #[.slice none 0 0] 32 := by rw [← hwb, ← hza]; exact Blk.new _ _ _
    rw [hwb]
    refine (between_calls pb x y wb).mono ?_
    rintro e w5 ⟨rfl, hb5, hz5, c1, c2, c3⟩
    rw [hzb] at hz5 c1 c2 c3 ⊢
    have hzw := HZ.out
    have hB5 : Below w.heap.size w w5 := (HBA.out.trans (hbb.mono HBA.out.size)).trans (hb5.mono (by omega))
    have HBT := Lib.hid (HS.out.btw (r := z0 + 2) HV.out hB5 (by omega) (by omega) hz5 c1 c2 c3)
    rw [hz5] at HBT
    have HN5 := Lib.hid ((HN.out.below hbb HN.out.lt).below hb5 (by omega))
    have HR5 := Lib.hid ((HR.out.below hbb HR.out.lt).below hb5 (by omega))
    have HL5 := Lib.hid (hL.below hb5 hL.lt)
    have HB5 := Lib.hid hB5
    have HSZ : Hid (∀ k ∈ S.ents.map (·.key), k.size ≤ maxLen) := fun k hk => by
      obtain ⟨e, he, rfl⟩ := List.mem_map.1 hk
      have := (HS.out.ok.chains e he).2.2.2.2
      unfold maxLen; omega
    clear hb5 c1 c2 c3 HN HR HBA hzw hB5 hwa hbb hL hwb c0
    go_wp2_with fail
    refine (wpIn_wide (n := 4)).1 ?_
    refine range2_law (gf := 62) (lb := #[.pointer (some ⟨z0 + 3, 0, none⟩), .pointer (some ⟨z0 + 3 + 1, 0, none⟩), .pointer (some ⟨z0 + 3 + 2, 0, none⟩)]) (by omega) rfl enters56 (z0 + 3 + 3) hz5 (· ≠ z0 + 2) (by omega) (by omega) (selV (S.ents.map (·.key)) V x y) (fun p => .string p.1) (fun p => p.2) ?seq
      (fun pre W => Kept (· ≠ z0 + 2) (z0 + 6) w5 W ∧ Below w.heap.size w W ∧ pre <+: selV (S.ents.map (·.key)) V x y ∧ ∃ v, Blk W (z0 + 2) #[v] 32 ∧ Own tPair W (z0 + 6 + 2) 68 none_ v (outs S.ents n pre) ∧ (outs S.ents n pre).length ≤ most.toNat)
      (fun c pre W => c = .exit 0 ∧ z0 + 6 ≤ W.heap.size ∧ Kept (· ≠ z0 + 2) (z0 + 6) w5 W ∧ Below w.heap.size w W ∧ ∃ v, Blk W (z0 + 2) #[v] 32 ∧ Own tPair W (z0 + 6 + 2) 68 none_ v ((scan S.ents x y n).take most.toNat))
      ?hI ?hIx ⟨Kept.refl _ _ _, HB5.out, List.nil_prefix, _, HL5.out, Own.nil _ _ _ _ _, by simp [outs]⟩
      (fun p => { tmps := #[.pointer (some ⟨pb, 0, none⟩), .string x, .string y, .int .i64 n, .int .i64 most, undef, undef, undef, .pointer (some ⟨z0, 0, none⟩), .pointer (some ⟨z0 + 1, 0, none⟩), .slice none 0 0, .int .i64 0, .int .i64 0, .pointer (some ⟨z0 + 2, 0, none⟩), .string p.1, p.2, undef, undef,
        .pointer (some ⟨pb, 0, none⟩), .int .i64 n, .int .i64 0, .int .i64 0, .bool false, undef, .pointer (some ⟨pb, 0, none⟩), .string x, .string y,
        .func (.func 62) #[] #[.pointer (some ⟨z0 + 3, 0, none⟩), .pointer (some ⟨z0 + 3 + 1, 0, none⟩), .pointer (some ⟨z0 + 3 + 2, 0, none⟩)], .string p.1, p.2, undef, undef, undef, undef, undef, undef, undef, undef, undef, undef, undef, undef, undef, undef, undef, undef, undef, undef, undef], defers := [] }) ?assign ?body ?done ?stop
    case hI =>
      rintro s A B ⟨k1, k2, k5, v, k3, k4, k6⟩ ht
      have := k1.1
      exact ⟨k1.trans (ht.kept (by omega)), k2.trans (ht.below (by have := HZ.out; omega) (by omega)), k5, v, (ht.block _ k3.lt (by omega) (by omega)).trans k3, k4.turn ht, k6⟩
    case hIx =>
      rintro c s A B ⟨k1, k5, k6, k2, v, k3, k4⟩ ht
      exact ⟨k1, Nat.le_trans k5 ht.size, k6.trans (ht.kept (by omega)), k2.trans (ht.below (by have := HZ.out; omega) (by omega)), v, (ht.block _ k3.lt (by omega) (by omega)).trans k3, k4.turn ht⟩
    case seq =>
      intro lid J Jx W hW hJ hY h0 hJx
      exact btw1_in (z0 + 6) (· ≠ z0 + 2) pb mb (z0 + 3) (z0 + 3 + 1) (z0 + 3 + 2) kv x y (S.ents.map (·.key)) V S.last S.floor (show (S.ents.map (·.key)).Pairwise fun a b => klt a b = true from List.pairwise_map.2 HS.out.ok.rising) (by have := HS.out.few; simp; omega) HSZ.out hy (4 - 1) lid J Jx W
        (HBT.out.kept (Kept.of_below (hz5 ▸ hW) (by omega))) (by have := hW.size; omega) hJ hY h0
    case assign =>
      intro lid p W K hK
      gi_wp2
      exact hK
    case body =>
      rintro lid pre p W ⟨hk, hb, hpp, v, hbk, how, hln⟩ hpre hzW
      obtain ⟨k, vv⟩ := p
      obtain ⟨hp1, hp2⟩ := sel_size (pre_mem hpre)
      obtain ⟨A, m, c, hval, hsl, hm⟩ := chain_at HS.out.ok HS.out.last HV.out HC.out HB5.out (by omega) (by omega) hk k
      obtain rfl : vv = .slice A m c := hp2.trans hval
      have HGC := Lib.hid (get_calls (chainOf S.ents k) A m c n W hsl (by omega))
      have hN := (hk.2 z0 (by omega) (by omega)).trans HN5.out
      have hR := (hk.2 (z0 + 1) (by omega) (by omega)).trans HR5.out
      have c0 : W.cell? ⟨z0, 0, none⟩ = some (.int .i64 n) := Blk.cell hN 0
      have c1 : W.cell? ⟨z0 + 1, 0, none⟩ = some (.int .i64 most) := Blk.cell hR 0
      have c2 := hbk.cell 0
      obtain ⟨len, hlen⟩ : ∃ len, (outs S.ents n pre).length = len := ⟨_, rfl⟩
      obtain ⟨A2, cap, rfl, hcap, -⟩ := how.form
      have hle6 : len ≤ 1000000 := by
        have h1 := (List.IsPrefix.length_le (outs_pre (E := S.ents) (n := n) hpp))
        have h2 : (outs S.ents n (selV (S.ents.map (·.key)) V x y)).length ≤ S.ents.length := by
          rw [← HSC.out]; exact List.length_filterMap_le _ _
        have := HS.out.few
        omega
      rw [hlen] at c2 hbk how hln hcap
      have HK := Lib.hid hk
      have HBW := Lib.hid hb
      have HBK := Lib.hid hbk
      have HOW := Lib.hid how
      have HPP := Lib.hid hpp
      have HPRE := Lib.hid hpre
      have HLEN := Lib.hid hlen
      clear hk hb hbk how hpp hpre hlen hsl hval hp2 hp1 hN hR
      by_cases hmo : most ≤ len
      · have HT : Hid ((scan S.ents x y n).take most.toNat = outs S.ents n pre) := by
          show _ = _
          rw [HSC.out]
          exact take_pre (outs_pre HPP.out) (by rw [HLEN.out]; exact hln) (by rw [HLEN.out]; omega)
        gi_wp2
        refine ⟨Kept.refl _ _ _, rfl, by omega, HK.out, HBW.out, _, HBK.out, ?_⟩
        rw [HT.out]
        exact HOW.out
      · gi_wp2_with fail
        refine ⟨trivial, (CallsIn.inRound lid (callsIn_wide.2 HGC.out)).mono ?_⟩
        rintro e w6 ⟨rfl, hb6⟩
        have hOS := outs_snoc S.ents n pre k (.slice A m c)
        obtain ⟨g, hg⟩ : ∃ g, get (chainOf S.ents k) n = g := ⟨_, rfl⟩
        rw [hg] at hOS ⊢
        have HOS := Lib.hid hOS
        have hz6 : z0 + 6 + 2 ≤ w6.heap.size := Nat.le_trans hzW hb6.size
        have HK6 := Lib.hid (HK.out.trans (Kept.of_below hb6 (by omega)))
        have HB6 := Lib.hid (HBW.out.trans (hb6.mono HBW.out.size))
        have hL6 := HBK.out.below hb6 HBK.out.lt
        have HL6 := Lib.hid hL6
        have HO6 := Lib.hid (HOW.out.below hb6)
        have HKW : Hid (Kept (· ≠ z0 + 2) (z0 + 6 + 2) W w6) := Kept.of_below hb6 hzW
        have d0 := hL6.cell 0
        have d1 := hL6.frozen 0
        clear hb6 HGC HK HBW HBK HOW c0 c1 c2 hL6 hg hOS
        cases g with
        | none =>
          rw [getV_none]
          have hba := (Below.refl w6.heap.size w6).alloc (Nat.le_refl _) (.cells #[.int .i64 0, .string ⟨#[]⟩, .bool false] 93)
          have R : Hid (Kept (· ≠ z0 + 2) (z0 + 6 + 2) W (w6.alloc (.cells #[.int .i64 0, .string ⟨#[]⟩, .bool false] 93)) ∧ Kept (· ≠ z0 + 2) (z0 + 6) w5 (w6.alloc (.cells #[.int .i64 0, .string ⟨#[]⟩, .bool false] 93)) ∧ Below w.heap.size w (w6.alloc (.cells #[.int .i64 0, .string ⟨#[]⟩, .bool false] 93)) ∧ pre ++ [(k, .slice A m c)] <+: selV (S.ents.map (·.key)) V x y ∧
              ∃ v, Blk (w6.alloc (.cells #[.int .i64 0, .string ⟨#[]⟩, .bool false] 93)) (z0 + 2) #[v] 32 ∧ Own tPair (w6.alloc (.cells #[.int .i64 0, .string ⟨#[]⟩, .bool false] 93)) (z0 + 6 + 2) 68 none_ v (outs S.ents n (pre ++ [(k, .slice A m c)])) ∧ (outs S.ents n (pre ++ [(k, .slice A m c)])).length ≤ most.toNat) := by
            refine ⟨HKW.out.trans (Kept.of_below hba (by omega)), HK6.out.trans (Kept.of_below hba (by omega)), HB6.out.trans (hba.mono HB6.out.size), HPRE.out, _, HL6.out.below hba HL6.out.lt, ?_, ?_⟩
            · rw [HOS.out]; exact HO6.out.below hba
            · rw [HOS.out]; show (outs S.ents n pre).length ≤ _; rw [HLEN.out]; exact hln
          clear hba
          gi_wp2
          exact R.out
        | some v =>
          rw [getV_some]
          obtain ⟨u, hu⟩ : ∃ u, v.val = u := ⟨_, rfl⟩
          obtain ⟨a1, ha1⟩ : ∃ a1, v.at_ = a1 := ⟨_, rfl⟩
          obtain ⟨a2, ha2⟩ : ∃ a2, v.dead = a2 := ⟨_, rfl⟩
          have HOV : Hid (outs S.ents n (pre ++ [(k, .slice A m c)]) = outs S.ents n pre ++ [⟨k, u, false⟩]) := by rw [← hu]; exact HOS.out
          rw [hu, ha1, ha2]
          obtain ⟨w7, hw7⟩ : ∃ w7, w6.alloc (.cells #[.int .i64 a1, .string u, .bool a2] 93) = w7 := ⟨_, rfl⟩
          have hz7 : w7.heap.size = w6.heap.size + 1 := by rw [← hw7]; simp
          have hb7 : Below w6.heap.size w6 w7 := by rw [← hw7]; exact (Below.refl _ _).alloc (Nat.le_refl _) _
          have hV7 : Blk w7 w6.heap.size #[.int .i64 a1, .string u, .bool a2] 93 := by rw [← hw7]; exact Blk.new _ _ _
          have hL7 := HL6.out.below hb7 HL6.out.lt
          have HO7 := Lib.hid (HO6.out.below hb7)
          have HK7 := Lib.hid (HK6.out.trans (Kept.of_below hb7 (by omega)))
          have HKW7 := Lib.hid (HKW.out.trans (Kept.of_below hb7 (by omega)))
          have HB7 := Lib.hid (HB6.out.trans (hb7.mono HB6.out.size))
          have HL7 := Lib.hid hL7
          have e0 := hL7.cell 0
          have e2 := hV7.cell 1
          have hK7 : Hid (tPair.K w7 (fun b => none_ b ∧ (Value.slice A2 len cap).ownBlock ≠ some b) ⟨k, u, false⟩ [.string k, .string u, .bool false]) := rfl
          clear hu ha1 ha2 hb7 hV7 hL7 HL6 HO6 HK6 HB6 HKW d0 d1
          gi_wp2_with (gi_at_builtin
                       refine wpListIn_app1 (o := ⟨some 47, _, _, _, _, _⟩) (t := tPair) (w0 := w7) (g := w6.heap.size + 1) (cs := [.string k, .string u, .bool false]) (y := ⟨k, u, false⟩) (z0 + 6 + 2) rfl _ _ 32 68 _ 40 rfl Try.underlying32 info35 rfl (by decide) (by decide) rfl hz7 rfl HO7.out hK7.out (Below.refl _ _) ?c2 ?c3 ?_
                       (case c2 => omega)
                       (case c3 => rw [HLEN.out]; omega)
                       intro v8 w8 hO8 hB8 hg8 hv8
                       obtain ⟨P8, c8, rfl, -⟩ := hO8.form
                       have hL8 : Blk w8 (z0 + 2) #[.slice A2 len cap] 32 := (hg8.block (z0 + 2) (by omega) (fun e => by have := (HO7.out.lo e.symm).1; omega)).trans HL7.out
                       have f0 := hL8.cell 0
                       have f1 := hL8.frozen 0
                       have HG8 := Lib.hid hg8
                       have HL8 := Lib.hid hL8
                       have HO8 := Lib.hid hO8
                       clear hO8 hB8 hg8 hv8 hL8 e0 e2)
          have hsz8 := HG8.out.size
          have HKG : Hid (∀ z' ≤ z0 + 6 + 2, Kept (· ≠ z0 + 2) z' w7 w8) := fun z' hz' => ⟨hsz8, fun b hb _ => HG8.out.block b (by omega) (fun e => by have := (HO7.out.lo e.symm).1; omega)⟩
          have hBf : Below w.heap.size w w8 := HB7.out.grown HG8.out HB7.out.size (fun b e => by have := (HO7.out.lo e).1; have := HZ.out; omega)
          refine ⟨(HKW7.out.trans (HKG.out _ (Nat.le_refl _))).trans (kept_set _ _), (HK7.out.trans (HKG.out _ (by omega))).trans (kept_set _ _), hBf.setCell (p := ⟨z0 + 2, 0, none⟩) (by have := HZ.out; show _ ≤ z0 + 2; omega) _, HPRE.out, _, HL8.out.set 0 _, ?_, ?_⟩
          · rw [HOV.out]
            have h8 := HO8.out
            simp only [List.length_append, List.length_cons, List.length_nil, Nat.zero_add] at h8
            exact h8.grown (row := some (z0 + 2)) (grown_cell w8 _ _) (fun b hb e => by injection e with e; have := (h8.lo hb).1; omega) (fun b hb => hb.elim)
          · rw [HOV.out, List.length_append, HLEN.out]; simp; omega
    case done =>
      rintro D W rfl ⟨hk, hb, hpp, v, hbk, how, hln⟩ hK
      have hT : (scan S.ents x y n).take most.toNat = outs S.ents n (selV (S.ents.map (·.key)) V x y) := by
        rw [HSC.out, List.take_of_length_le hln]
      rw [← hT] at how
      obtain ⟨P9, c9, rfl, -⟩ := how.form
      obtain ⟨n9, hn9⟩ : ∃ q, ((scan S.ents x y n).take most.toNat).length = q := ⟨_, rfl⟩
      rw [hn9] at how hbk
      have d0 := hbk.cell 0
      have hKD := Lib.hid hK
      have hR : Hid (Sl tPair (W.putObj (z0 + 3 + 3) (.deferred none)) (fun b => w.heap.size ≤ b) (.slice P9 n9 c9) ((scan S.ents x y n).take most.toNat)) :=
        (how.sl.step fun b hb => World.putObj_heap_other (by rcases hb with hb | hb; exact hb.elim; omega)).mono fun b hb => by rcases hb with hb | hb; exact hb.elim; have := HZ.out; omega
      have hBf : Hid (Below w.heap.size w (W.putObj (z0 + 3 + 3) (.deferred none))) := hb.grown (grownBy_putObj' _ _ _) hb.size (fun k e => by cases e; have := HZ.out; omega)
      clear hk hb hbk how hK hT hpp hln hz0 hn9
      gi_wp2_with fail
      go_wp2
      exact ⟨by simp, .inl ⟨_, _, rfl, run_takeDeferred hKD.out, .tuple #[.slice P9 n9 c9, .int .i64 0], by simp [results, Try.results22, go_sem], _, rfl, hR.out, hBf.out⟩⟩
    case stop =>
      rintro D c pre W rfl ⟨rfl, hz, hk, hb, v, hbk, how⟩ hK
      obtain ⟨P9, c9, rfl, -⟩ := how.form
      obtain ⟨n9, hn9⟩ : ∃ q, ((scan S.ents x y n).take most.toNat).length = q := ⟨_, rfl⟩
      rw [hn9] at how hbk
      have d0 := hbk.cell 0
      have hKD := Lib.hid hK
      have hR : Hid (Sl tPair (W.putObj (z0 + 3 + 3) (.deferred none)) (fun b => w.heap.size ≤ b) (.slice P9 n9 c9) ((scan S.ents x y n).take most.toNat)) :=
        (how.sl.step fun b hb => World.putObj_heap_other (by rcases hb with hb | hb; exact hb.elim; omega)).mono fun b hb => by rcases hb with hb | hb; exact hb.elim; have := HZ.out; omega
      have hBf : Hid (Below w.heap.size w (W.putObj (z0 + 3 + 3) (.deferred none))) := hb.grown (grownBy_putObj' _ _ _) hb.size (fun k e => by cases e; have := HZ.out; omega)
      clear hk hb hbk how hK hz0 hn9
      gi_wp2_with fail
      go_wp2
      exact ⟨by simp, .inl ⟨_, _, rfl, run_takeDeferred hKD.out, .tuple #[.slice P9 n9 c9, .int .i64 0], by simp [results, Try.results22, go_sem], _, rfl, hR.out, hBf.out⟩⟩
end Go.Proofs.Ytidfogcilegloaa
