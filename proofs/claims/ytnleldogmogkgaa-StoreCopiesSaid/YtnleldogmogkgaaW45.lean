import Derived.Test.YtnleldogmogkgaaW44
import Derived.Test.YtnleldogmogkgaaW40
/-! The document's Install. -/
namespace Go.Proofs.Ytnleldogmogkgaa
open Go.RowKit Go.Op

theorem rinst_done {w W : World} {rb : Nat} {v : Value} {X : List Nat} {E : List Ent} {l f n : Int} (h : Rsx w rb v X E l f) (hW : w.setCell ⟨rb, 1, none⟩ (.int .i64 n) = W) : Rsx W rb v X E n f ∧ Chg rb rb v w W := by
  subst hW
  have hg : w.grownBy (w.setCell ⟨rb, 1, none⟩ (.int .i64 n)) (some rb) := ⟨rfl, rfl, rfl, by simp, fun b _ hne => Below.heap_setCell w ⟨rb, 1, none⟩ _ b (fun e => hne (congrArg some e))⟩
  exact ⟨⟨h.blk.set 1 _, h.row.grown hg (fun b e e' => h.nP (by rw [e, ← e'])) (fun b hb e => hb (by injection e with e; rw [← e]; exact h.inP)), h.inP, h.inK, fun b hm => by rw [World.size_setCell]; exact h.lt b hm, h.nP⟩, Chg.of_grown hg fun b e => .inl (by injection e with e; exact e.symm)⟩

set_option maxHeartbeats 4000000 in
theorem rinst_calls (rb : Nat) (v : Value) (X : List Nat) (S : Sto) (m : Int) (l : List Pair) (A : Option Addr) (n c : Nat) (w : World) (h : Rst w rb v X S) (hl : Sl tPair w (fun b => b ≠ rb ∧ v.ownBlock ≠ some b) (.slice A n c) l)
    (hs : Short l) (hle : S.ents.length + l.length ≤ 100000) (hla : S.last < 1000000) :
    Calls Try.prog 42 #[.pointer (some ⟨rb, 0, none⟩), .int .i64 m, .slice A n c] w fun e w' => e = .returned (.int .i64 (inst S m l).1) ∧ ∃ v' X', Rst w' rb v' X' (inst S m l).2 ∧ Chg rb rb v w w' ∧ Kin w v v' ∧ Xin w X X' := by
  obtain ⟨-, c1, c2⟩ := h.cells
  have hfl := h.ok.fl
  have hfla := h.ok.le
  have hln := hl.length
  have HGL := Lib.hid (rgoodl_calls l A n c w (hl.mono fun _ _ => trivial) hs)
  have HH := Lib.hid h
  have HLE := Lib.hid hle
  have HL := Lib.hid hl
  have HSH := Lib.hid hs
  obtain ⟨hln, hcap, hcm⟩ := hln
  have HLN := Lib.hid hln
  obtain ⟨r, S2, hrS⟩ : ∃ r S2, inst S m l = (r, S2) := ⟨_, _, rfl⟩
  rw [hrS]
  have HRS := Lib.hid hrS
  obtain ⟨gl, hgl⟩ : ∃ g, goodL l = g := ⟨_, rfl⟩
  have HG := Lib.hid hgl
  rw [hgl] at HGL
  obtain ⟨la, hla'⟩ : ∃ la, S.last = la := ⟨_, rfl⟩
  rw [hla'] at c1 hla hfla
  have HLA := Lib.hid hla'
  have hwr : IntKind.i64.wrap (la + 1) = la + 1 := IntWalk.i64_in _ (by omega)
  have hrz := h.blk.lt
  clear h hl hln hle hs hrS hgl hla'
  go_enter Try.func42, Try.ntmps42
  go_wp2_with fail
  refine HGL.out.mono ?_
  rintro e w1 ⟨rfl, hb1⟩
  have HB1 := Lib.hid hb1
  have c1 := (hb1.cell hrz).trans c1
  clear hb1 HGL c2
  cases gl
  case false =>
    have h2 : (r, S2) = (2, S) := by rw [← HRS.out, inst, if_neg (by rw [HG.out]; simp)]
    injection h2 with h2 h3
    subst h2 h3
    go_wp2
    go_ret
    exact ⟨rfl, v, X, HH.out.below HB1.out, Chg.of_below HB1.out, Kin.refl _ _, Xin.refl _ _⟩
  case true =>
    by_cases hm : m = la + 1
    case neg =>
      have h2 : (r, S2) = (2, S) := by rw [← HRS.out, inst, if_neg (by rw [HLA.out]; exact fun h => hm h.2)]
      injection h2 with h2 h3
      subst h2 h3
      have hm1 : (m != la + 1) = true := by simpa using hm
      go_wp2
      go_ret
      exact ⟨rfl, v, X, HH.out.below HB1.out, Chg.of_below HB1.out, Kin.refl _ _, Xin.refl _ _⟩
    case pos =>
      subst hm
      obtain ⟨g1, g2⟩ := goodL_all HG.out
      have HG1 := Lib.hid g1
      have HG2 := Lib.hid g2
      have h2 : (r, S2) = (0, ⟨addAll (la + 1) S.ents l, la + 1, S.floor⟩) := by rw [← HRS.out, inst, if_pos ⟨HG.out, by rw [HLA.out]⟩]
      injection h2 with h2 h3
      subst h2
      have HS2 := Lib.hid h3
      have HOK : Hid (Sto.Ok S2) := by
        have := inst_ok HH.out.ok (la + 1) l
        rw [HRS.out] at this
        exact this
      have hx := HH.out.x
      rw [HLA.out] at hx
      have hla0 : 0 ≤ la := by omega
      have HX1 := Lib.hid (hx.below HB1.out)
      have HM0 := Lib.hid (HLA.out ▸ Mid.start HH.out.ok l : Mid la S.ents l)
      have HC1 : Hid (Chg rb rb v w w1) := Chg.of_below HB1.out
      clear g1 g2 h3 hx
      go_wp2
      go_loopw [23] (fun i wr => ∃ (j : Nat) (v' : Value) (X' : List Nat), i = .int .i64 j ∧ j ≤ n ∧ Hid (Rsx wr rb v' X' (addAll (la + 1) S.ents (l.take j)) la S.floor) ∧ Hid (Mid la (addAll (la + 1) S.ents (l.take j)) (l.drop j)) ∧ Hid (Chg rb rb v w wr) ∧ Hid (Kin w v v') ∧ Hid (Xin w X X')) (fun i _ => n - (intOf i).toNat)
      case atStart => exact ⟨0, v, X, rfl, by omega, HX1.out, HM0.out, HC1.out, Kin.refl _ _, Xin.refl _ _⟩
      case round =>
        obtain ⟨j, vr, Xr, rfl, hj, hSt, hMi, hCh, hKi, hXi⟩ := hrel
        clear HX1 HC1
        by_cases hlt : j < n
        · obtain ⟨p, hp⟩ := some_at (show j < l.length by rw [HLN.out]; exact hlt)
          obtain ⟨Er, hEr⟩ : ∃ Er, addAll (la + 1) S.ents (l.take j) = Er := ⟨_, rfl⟩
          rw [hEr] at hSt hMi
          obtain ⟨g, off, rfl, hgl, x0, x1, x2⟩ := sl_pair (w := wr) (ok := fun _ => True) ((HL.out.inb.step fun b hb => hCh.out.block b hb.2 hb.1.1 hb.1.1 hb.1.2).mono fun _ _ => trivial) hp
          have hmi := hMi.out
          rw [drop_at hp] at hmi
          have hgp := HG1.out p (List.mem_of_getElem? hp)
          have hcan := hmi.can hla0 hgp
          have hnext := hmi.step hla0 hgp (fun q hq => by
            have h2 := HG2.out.drop (i := j)
            rw [drop_at hp] at h2
            exact (List.pairwise_cons.1 h2).1 q hq)
          have hEn : addAll (la + 1) S.ents (l.take (j + 1)) = addE (la + 1) Er p := by
            rw [List.take_add_one, hp, addAll, List.foldl_append]
            show addE (la + 1) (addAll (la + 1) S.ents (l.take j)) p = _
            rw [hEr]
          have hElen : Er.length ≤ 100000 := by
            have h1 : (addAll (la + 1) S.ents (l.take j)).length ≤ S.ents.length + (l.take j).length := addAll_length HM0.out.rising _
            have h2 : S.ents.length + l.length ≤ 100000 := HLE.out
            rw [hEr] at h1
            rw [List.length_take] at h1
            omega
          obtain ⟨w7, hw7⟩ : ∃ w7, wr.alloc (.cells #[.string p.key, .string p.val, .bool p.dead] 35) = w7 := ⟨_, rfl⟩
          have hb7 : Below wr.heap.size wr w7 := by rw [← hw7]; exact (Below.refl _ _).alloc (Nat.le_refl _) _
          have hV7 : Blk w7 wr.heap.size #[.string p.key, .string p.val, .bool p.dead] 35 := by rw [← hw7]; exact Blk.new _ _ _
          have HS7 := Lib.hid (hSt.out.below hb7)
          have HC7 : Hid (Chg rb rb v w w7) := hCh.out.trans hKi.out (Chg.of_below hb7)
          have hce : ∀ e ∈ Er, e.c.length ≤ 1000000 := fun e he => by
            have := (hMi.out.chains e he).len (by omega)
            omega
          have HPU := Lib.hid (rputk_calls rb vr Xr Er p (la + 1) la S.floor w7 HS7.out hMi.out.rising hcan hElen hce)
          rw [← hEn] at hnext HPU
          have HNX := Lib.hid hnext
          have y0 := hV7.cell 0
          have y1 := hV7.cell 1
          have y2 : w7.cell? ⟨wr.heap.size, 2, none⟩ = some (.bool p.dead) := hV7.cell 2
          have hs7 : w.heap.size ≤ w7.heap.size := HC7.out.size
          clear hb7 hV7 hmi hEn hnext hcan hEr hp hMi hce hCh hSt
          go_wp2_with fail
          refine HPU.out.mono ?_
          rintro e w8 ⟨rfl, v8, X8, hS8, hC8, hK8, hX8⟩
          have HS8 := Lib.hid hS8
          have HC8 : Hid (Chg rb rb v w w8) := HC7.out.trans hKi.out hC8
          have HK8 : Hid (Kin w v v8) := hKi.out.trans hK8 hs7
          have HX8 : Hid (Xin w X X8) := hXi.out.trans hX8 hs7
          clear hS8 hC8 hK8 hX8 HPU HS7 HC7 y0 y1 y2 hw7
          go_wp2
          go_roundw
          case rel => exact ⟨j + 1, v8, X8, by go_num, by omega, HS8, HNX, HC8, HK8, HX8⟩
          case measure => simp [intOf]; omega
        · obtain rfl : j = n := by omega
          have hSe := hSt.out
          rw [List.take_of_length_le (by rw [HLN.out]; exact Nat.le_refl _)] at hSe
          have HSE := Lib.hid hSe
          have c1 := hSe.blk.cell 1
          have c2 := hSe.blk.frozen 1
          have hlen : (addAll (la + 1) S.ents l).length ≤ 100000 := Nat.le_trans (addAll_length HM0.out.rising _) HLE.out
          have HLE2 := Lib.hid hlen
          clear hSe hSt hlen
          go_wp2
          go_ret
          obtain ⟨d1, d2⟩ := rinst_done (n := la + 1) HSE.out rfl
          have hok := HOK.out
          rw [HS2.out] at hok
          rw [HS2.out]
          exact ⟨rfl, _, _, d1.r hok HLE2.out (by show la + 1 ≤ 1000000; omega), hCh.out.trans hKi.out d2, hKi.out, hXi.out⟩
end Go.Proofs.Ytnleldogmogkgaa
