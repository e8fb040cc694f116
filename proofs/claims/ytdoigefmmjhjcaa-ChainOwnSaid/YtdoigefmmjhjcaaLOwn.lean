import Derived.Test.YtdoigefmmjhjcaaW12
import Derived.Test.YtdoigefmmjhjcaaPure2
namespace Go.Proofs.Ytdoigefmmjhjcaa
open Go.RowKit

/-- A write to an element's place: that slice still reads, and all that lies elsewhere is as it was. -/
theorem own_write {w : World} {lo hi b off n cap i : Nat} {l : List Ver} {x : Ver} (h : Sl tVer w (fun b => (lo ≤ b ∧ b < hi) ∧ Unf w b) (.slice (some ⟨b, off, none⟩) n cap) l) (hx : l[i]? = some x) (hlo : lo ≤ b) (hhi : b < hi) (z : Int) :
    (∃ l', Sl tVer (w.setCell ⟨b, off + i * 3, none⟩ (.int .i64 z)) (fun b' => (lo ≤ b' ∧ b' < hi) ∧ Unf (w.setCell ⟨b, off + i * 3, none⟩ (.int .i64 z)) b') (.slice (some ⟨b, off, none⟩) n cap) l') ∧
    (∀ (lo' hi' : Nat) (v : Value) (l2 : List Ver), hi ≤ lo' → Sl tVer w (fun b => (lo' ≤ b ∧ b < hi') ∧ Unf w b) v l2 → Sl tVer (w.setCell ⟨b, off + i * 3, none⟩ (.int .i64 z)) (fun b' => (lo' ≤ b' ∧ b' < hi') ∧ Unf (w.setCell ⟨b, off + i * 3, none⟩ (.int .i64 z)) b') v l2) ∧
    (∀ (g : Nat) (cs : Array Value) (e : TypeId), hi ≤ g → Blk w g cs e → Blk (w.setCell ⟨b, off + i * 3, none⟩ (.int .i64 z)) g cs e) ∧
    (∀ (B : Nat) (a : World), B ≤ lo → Below B a w → Below B a (w.setCell ⟨b, off + i * 3, none⟩ (.int .i64 z))) := by
  refine ⟨⟨_, (sl_setAt h hx z).mono fun b' hb => ⟨hb.1, unf_set hb.2 _ _⟩⟩, fun lo' hi' v l2 hle h2 => ?_, fun g cs e hg hB => ?_, fun B a hB hb => hb.setCell (Nat.le_trans hB hlo) _⟩
  · refine (h2.step fun b' hb => Below.heap_setCell w _ _ b' ?_).mono fun b' hb => ⟨hb.1, unf_set hb.2 _ _⟩
    show b' ≠ b
    omega
  · refine hB.far ?_ _
    show g ≠ b
    omega

set_option maxHeartbeats 2000000 in
theorem chainOwn_calls (l : List Ver) (v : Ver) (A : Option Addr) (n cap : Nat) (y : Int) (w : World) (hl : Sl tVer w (fun _ => True) (.slice A n cap) l) (hs : ∀ x ∈ l, x.val.size ≤ 140737488351232) (hvs : v.val.size ≤ 140737488351232) :
    Calls Try.prog 8 #[.slice A n cap, .agg #[.int .i64 v.at_, .string v.val, .bool v.dead], .int .i64 y] w fun e w' => e = .returned (.bool true) ∧ Below w.heap.size w w' := by
  obtain ⟨hln, hcap, hm⟩ := hl.length
  have H := Lib.hid hl
  have hss : Hid (∀ x ∈ put l v, x.val.size ≤ 140737488351232) := by
    intro x hx
    unfold put at hx
    split at hx
    · rcases List.mem_append.1 hx with hx | hx
      · exact hs x hx
      · simp at hx; rw [hx]; exact hvs
    · exact hs x hx
  clear hl hs hvs
  have hb0 : Below w.heap.size w (w.alloc (.cells #[.int .i64 v.at_, .string v.val, .bool v.dead] 27)) := (Below.refl _ _).alloc (Nat.le_refl _) _
  have HB := Lib.hid hb0
  clear hb0
  by_cases hn : (300 : Int) < (n : Int)
  · go_enter Try.func8, Try.ntmps8
    go_wp2_with fail
    refine (lives_calls _).mono ?_
    rintro e w1 ⟨rfl, hb1⟩
    go_wp2
    go_ret
    exact ⟨rfl, HB.out.trans (hb1.mono HB.out.size)⟩
  · have hB0 := Lib.hid (Blk.new w #[.int .i64 v.at_, .string v.val, .bool v.dead] 27)
    have hmk : ∀ W : World, (Instr.makeSlice 23 (.int .i64 0) (.int .i64 ((n : Int) + 4))).run Try.prog W = .ok (.slice (some ⟨W.heap.size, 0, none⟩) 0 (n + 4)) (W.alloc (.cells (madeCells #[.int .i64 0, .string ⟨#[]⟩, .bool false] ((n + 4) * 3)) 27)) := by
      intro W
      obtain ⟨i0, hi, hzz⟩ := Option.map_eq_some_iff.1 info27
      simp only [Prod.mk.injEq] at hzz
      obtain ⟨q0, q1, q2⟩ := hzz
      have := run_make_rowN (P := Try.prog) 23 27 i0 _ Try.underlying23 hi q0 .i64 .i64 0 (n + 4) (by omega) (by rw [q2]; omega) (by omega) W
      rw [q1] at this
      have e1 : ((n : Int) + 4) = ((n + 4 : Nat) : Int) := by omega
      rw [e1]
      exact this
    have hg : (w.alloc (.cells #[.int .i64 v.at_, .string v.val, .bool v.dead] 27)).heap.size = w.heap.size + 1 := by simp
    have HG := Lib.hid hg
    clear hg
    have HM : Hid (Own tVer ((w.alloc (.cells #[.int .i64 v.at_, .string v.val, .bool v.dead] 27)).alloc (.cells (madeCells #[.int .i64 0, .string ⟨#[]⟩, .bool false] ((n + 4) * 3)) 27)) (w.heap.size + 1) 27 (fun _ => False) (.slice (some ⟨w.heap.size + 1, 0, none⟩) 0 (n + 4)) []) := by
      have h : Own tVer ((w.alloc (.cells #[.int .i64 v.at_, .string v.val, .bool v.dead] 27)).alloc (.cells (madeCells #[.int .i64 0, .string ⟨#[]⟩, .bool false] ((n + 4) * 3)) 27)) (w.heap.size + 1) 27 (fun _ => False) (.slice (some ⟨(w.alloc (.cells #[.int .i64 v.at_, .string v.val, .bool v.dead] 27)).heap.size, 0, none⟩) 0 (n + 4)) [] :=
        Own.made (t := tVer) (x := Ver.zero) (z := .agg #[.int .i64 0, .string ⟨#[]⟩, .bool false]) (fun _ => rfl) 27 (by rw [HG.out]; omega) (by omega) (by omega)
      rw [HG.out] at h
      exact h
    have HS : Hid (∀ W, Below w.heap.size w W → ∀ v : Value, SlX tVer W (fun b => False ∧ v.ownBlock ≠ some b) (.slice A n cap) l) := fun W hW v => (H.out.below hW).xflat
    have HW0 := Lib.hid hln
    have HB1 : Hid (Below (w.heap.size + 1) (w.alloc (.cells #[.int .i64 v.at_, .string v.val, .bool v.dead] 27)) ((w.alloc (.cells #[.int .i64 v.at_, .string v.val, .bool v.dead] 27)).alloc (.cells (madeCells #[.int .i64 0, .string ⟨#[]⟩, .bool false] ((n + 4) * 3)) 27))) := (Below.refl _ _).alloc (by rw [HG.out]; omega) _
    go_enter Try.func8, Try.ntmps8
    go_wp2_with (at_builtin; refine wpList_appSl (o := ⟨some 23, _, _, _, _, _⟩) (t := tVer) (ok := fun _ => False) (l := []) (m := l) (w0 := w.alloc (.cells #[.int .i64 v.at_, .string v.val, .bool v.dead] 27)) (w.heap.size + 1) rfl _ _ 23 27 _ 32 rfl Try.underlying23 info27 rfl (by decide) (by decide) rfl rfl ?c1 ?c2 ?c3 ?c4 ?c5 ?_; (case c1 => exact HM.out); (case c2 => exact HS.out _ (HB.out.alloc HB.out.size _) _); (case c3 => exact HB1.out); (case c4 => simp); (case c5 => rw [List.length_nil, HW0.out]; omega); intro v1 w3 hO hB3 hq1 hq2; clear hq1 hq2
                 have hb3 := hB0.out.below hB3 (by omega)
                 obtain ⟨c0, c1, c2⟩ := hb3.three
                 have hl3 := hb3.lt
                 have HO := Lib.hid hO
                 clear hO)
    -- x, ok := own.Put(v)
    have hW3 := HB.out.trans (hB3.mono (by omega))
    have hown := HO.out.sl.mono (ok' := fun _ => True) fun _ _ => trivial
    rw [List.nil_append] at hown
    have HOW := Lib.hid hown
    clear HO hown hB3 hb3 HM HS HB1 hmk
    obtain ⟨A1, cap1, rfl, -⟩ := HOW.out.form
    have HO := HOW
    rw [hln] at HO
    clear HOW
    rw [hln]
    refine (put_own l v A1 n cap1 _ HO.out (by omega)).mono ?_
    rintro e w4 ⟨u, rfl, hu, hb4⟩
    obtain ⟨X, capx, rfl, -⟩ := hu.form
    have hpl : (put l v).length ≤ 301 := by unfold put; split <;> first | (simp; omega) | omega
    generalize put l v = pp at *
    generalize hpm : pp.length = pm at *
    clear hpm
    clear c0 c1 c2 hl3 HB hB0
    cases hcp : canPut l v
    · rw [hcp] at hu
      clear hcp hu
      go_wp2_with fail
      have hb := hb4
      refine (trim_own l A1 n cap1 y _ (HO.out.below hb) (by omega)).mono ?_
      rintro e w5 ⟨u, rfl, hu, hb5⟩
      obtain ⟨T, capt, rfl, -⟩ := hu.form
      have hT := Lib.hid (hu.inb.mono (ok' := fun b => (w3.heap.size ≤ b ∧ b < w5.heap.size) ∧ Unf w5 b) fun b h => ⟨⟨Nat.le_trans hb.size h.1.1, h.2⟩, h.1.2⟩)
      replace hb := hb.trans (hb5.mono hb.size)
      have htl : (trim l y).length ≤ n := by rw [← hln]; exact trim_len_le l y
      clear hb5 hu
      generalize trim l y = tt at *
      generalize htm : tt.length = tm at *
      clear htm
      go_wp2_with fail
      refine (cut_own l A1 n cap1 y _ (HO.out.below hb) (by omega)).mono ?_
      rintro e w6 ⟨u, rfl, hu, hb6⟩
      obtain ⟨C, capc, rfl, -⟩ := hu.form
      have hC := Lib.hid (hu.inb.mono (ok' := fun b => (w5.heap.size ≤ b ∧ b < w6.heap.size) ∧ Unf w6 b) fun b h => ⟨⟨h.1.1, h.2⟩, h.1.2⟩)
      have hT6 := Lib.hid ((hT.out.below hb6).mono (ok' := fun b => (w3.heap.size ≤ b ∧ b < w5.heap.size) ∧ Unf w6 b) fun b h => ⟨h.1, unf_below hb6 h.2 h.1.2⟩)
      have hz35 : w3.heap.size ≤ w5.heap.size := hb.size
      have hz56 : w5.heap.size ≤ w6.heap.size := hb6.size
      replace hb := hb.trans (hb6.mono hb.size)
      have hcl : (cut l y).length ≤ n := by rw [← hln]; unfold cut; split <;> simp; omega
      clear hb6 hu hT
      generalize cut l y = cc at *
      generalize hcm : cc.length = cm at *
      clear hcm
      go_wp2
      have hz7 := hb.size
      have hb7 := hb.alloc hz7 (.cells #[.slice T tm capt, .slice C cm capc] 23)
      have hB7 := Lib.hid (Blk.new w6 #[.slice T tm capt, .slice C cm capc] 23)
      have hbn : Below w6.heap.size w6 (w6.alloc (.cells #[.slice T tm capt, .slice C cm capc] 23)) := (Below.refl _ _).alloc (Nat.le_refl _) _
      have hT7 := Lib.hid ((hT6.out.below hbn).mono (ok' := fun b => (w3.heap.size ≤ b ∧ b < w5.heap.size) ∧ Unf (w6.alloc (.cells #[.slice T tm capt, .slice C cm capc] 23)) b) fun b h => ⟨h.1, unf_below hbn h.2 (Nat.lt_of_lt_of_le h.1.2 hz56)⟩)
      have hC7 := Lib.hid ((hC.out.below hbn).mono (ok' := fun b => (w5.heap.size ≤ b ∧ b < w6.heap.size) ∧ Unf (w6.alloc (.cells #[.slice T tm capt, .slice C cm capc] 23)) b) fun b h => ⟨h.1, unf_below hbn h.2 h.1.2⟩)
      clear hT6 hC hb hbn hz7
      generalize w6.alloc (.cells #[.slice T tm capt, .slice C cm capc] 23) = w7 at *
      go_loopw [53] (fun i w' => ∃ (k : Nat), k ≤ 2 ∧ i = .int .i64 k ∧ Blk w' w6.heap.size #[.slice T tm capt, .slice C cm capc] 23 ∧ (k = 0 → ∃ l1, Sl tVer w' (fun b => (w3.heap.size ≤ b ∧ b < w5.heap.size) ∧ Unf w' b) (.slice T tm capt) l1) ∧ (k ≤ 1 → ∃ l2, Sl tVer w' (fun b => (w5.heap.size ≤ b ∧ b < w6.heap.size) ∧ Unf w' b) (.slice C cm capc) l2) ∧ Below w3.heap.size w3 w') (fun i _ => 2 - (intOf i).toNat)
      case atStart => exact ⟨0, by omega, rfl, hB7.out, fun _ => ⟨_, hT7.out⟩, fun _ => ⟨_, hC7.out⟩, hb7⟩
      case round =>
        obtain ⟨k, hk, rfl, hB, h1, h2, hb⟩ := hrel
        clear hB7 hT7 hC7 hb7
        rcases (show k = 0 ∨ k = 1 ∨ k = 2 by omega) with rfl | rfl | rfl
        · obtain ⟨l1, hs1⟩ := h1 rfl
          obtain ⟨l2, hs2⟩ := h2 (by omega)
          have e0 : wr.cell? ⟨w6.heap.size, 0, none⟩ = some (.slice T tm capt) := hB.cell 0
          have hlB : w6.heap.size < wr.heap.size := hB.lt
          have HBk := Lib.hid hB
          have HS1 := Lib.hid hs1
          have HS2 := Lib.hid hs2
          clear h1 h2 hB hs1 hs2
          go_wp2
          go_loopw [59] (fun i w' => ∃ (j : Nat), j ≤ tm ∧ i = .int .i64 j ∧ Blk w' w6.heap.size #[.slice T tm capt, .slice C cm capc] 23 ∧ (∃ l1, Sl tVer w' (fun b => (w3.heap.size ≤ b ∧ b < w5.heap.size) ∧ Unf w' b) (.slice T tm capt) l1) ∧ (∃ l2, Sl tVer w' (fun b => (w5.heap.size ≤ b ∧ b < w6.heap.size) ∧ Unf w' b) (.slice C cm capc) l2) ∧ Below w3.heap.size w3 w') (fun i _ => tm - (intOf i).toNat)
          case atStart => exact ⟨0, by omega, rfl, HBk.out, ⟨_, HS1.out⟩, ⟨_, HS2.out⟩, hb⟩
          case round =>
            clear HBk HS1 HS2 e0 hlB hb
            obtain ⟨j, hj, rfl, hB, ⟨l1, hs1⟩, ⟨l2, hs2⟩, hb⟩ := hrel
            have hlen := hs1.length.1
            have HBk := Lib.hid hB
            have HS1 := Lib.hid hs1
            have HS2 := Lib.hid hs2
            have HL := Lib.hid hlen
            clear hB hs1 hs2 hlen
            by_cases hlt : j < tm
            · obtain ⟨x, hx'⟩ := some_at (show j < l1.length by rw [HL.out]; exact hlt)
              obtain ⟨b, off, rfl, ⟨⟨hlo, hhi⟩, huf⟩, hbl, g0, g1, g2⟩ := sl_ver_ok HS1.out hx'
              have HX := Lib.hid hx'
              have hfr := huf (off + j * 3)
              clear hx' huf g1 g2
              go_wp2
              go_roundw
              case rel =>
                obtain ⟨r1, r2, r3, r4⟩ := own_write HS1.out HX.out hlo hhi (-1)
                exact ⟨j + 1, by omega, by go_num, r3 _ _ _ hz56 HBk.out, r1, ⟨_, r2 _ _ _ _ (Nat.le_refl _) HS2.out⟩, r4 _ _ (Nat.le_refl _) hb⟩
              case measure => simp [intOf]; omega
            · go_wp2
              exact ⟨⟨1, by omega, rfl, HBk.out, fun h => by omega, fun _ => ⟨_, HS2.out⟩, hb⟩, by simp [intOf]⟩
        · obtain ⟨l2, hs2⟩ := h2 (by omega)
          have e1 : wr.cell? ⟨w6.heap.size, 1, none⟩ = some (.slice C cm capc) := hB.cell 1
          have hlB : w6.heap.size < wr.heap.size := hB.lt
          have HBk := Lib.hid hB
          have HS2 := Lib.hid hs2
          clear h1 h2 hB hs2
          go_wp2
          go_loopw [59] (fun i w' => ∃ (j : Nat), j ≤ cm ∧ i = .int .i64 j ∧ Blk w' w6.heap.size #[.slice T tm capt, .slice C cm capc] 23 ∧ (∃ l2, Sl tVer w' (fun b => (w5.heap.size ≤ b ∧ b < w6.heap.size) ∧ Unf w' b) (.slice C cm capc) l2) ∧ Below w3.heap.size w3 w') (fun i _ => cm - (intOf i).toNat)
          case atStart => exact ⟨0, by omega, rfl, HBk.out, ⟨_, HS2.out⟩, hb⟩
          case round =>
            clear HBk HS2 e1 hlB hb
            obtain ⟨j, hj, rfl, hB, ⟨l2, hs2⟩, hb⟩ := hrel
            have hlen := hs2.length.1
            have HBk := Lib.hid hB
            have HS2 := Lib.hid hs2
            have HL := Lib.hid hlen
            clear hB hs2 hlen
            by_cases hlt : j < cm
            · obtain ⟨x, hx'⟩ := some_at (show j < l2.length by rw [HL.out]; exact hlt)
              obtain ⟨b, off, rfl, ⟨⟨hlo, hhi⟩, huf⟩, hbl, g0, g1, g2⟩ := sl_ver_ok HS2.out hx'
              have HX := Lib.hid hx'
              have hfr := huf (off + j * 3)
              clear hx' huf g1 g2
              go_wp2
              go_roundw
              case rel =>
                obtain ⟨r1, r2, r3, r4⟩ := own_write HS2.out HX.out hlo hhi (-1)
                exact ⟨j + 1, by omega, by go_num, r3 _ _ _ (Nat.le_refl _) HBk.out, r1, r4 _ _ hz35 hb⟩
              case measure => simp [intOf]; omega
            · go_wp2
              exact ⟨⟨2, by omega, rfl, HBk.out, fun h => by omega, fun h => by omega, hb⟩, by simp [intOf]⟩
        · clear h1 h2 hB
          have hW := hW3.trans (hb.mono hW3.size)
          go_wp2_with fail
          refine (plain_calls l A1 n cap1 _ (HO.out.below hb) (by omega)).mono ?_
          rintro e w8 ⟨u, rfl, hu, hb8⟩
          obtain ⟨D, cap8, rfl, -⟩ := hu.form
          rw [hln] at hu ⊢
          have hP := Lib.hid (hu.mono (ok' := fun _ => True) fun _ _ => trivial)
          replace hW := hW.trans (hb8.mono hW.size)
          clear hu hb8 hb
          go_wp2_with fail
          refine (plain_calls l A n cap _ (H.out.below hW) (by omega)).mono ?_
          rintro e w9 ⟨u, rfl, hu, hb9⟩
          obtain ⟨E, cap9, rfl, -⟩ := hu.form
          rw [hln] at hu ⊢
          have hQ := Lib.hid (hu.mono (ok' := fun _ => True) fun _ _ => trivial)
          have hP9 := Lib.hid (hP.out.below hb9)
          replace hW := hW.trans (hb9.mono hW.size)
          clear hu hb9 hP
          go_wp2_with fail
          refine (same_calls l D E _ _ cap8 cap9 _ hP9.out hQ.out).mono ?_
          rintro e w10 ⟨rfl, hb10⟩
          replace hW := hW.trans (hb10.mono hW.size)
          clear hb10 hP9 hQ
          go_wp2_with fail
          refine (lives_calls _).mono ?_
          rintro e w11 ⟨rfl, hb11⟩
          replace hW := hW.trans (hb11.mono hW.size)
          go_wp2
          go_ret
          exact ⟨rfl, hW⟩
    · rw [hcp] at hu
      have hx := Lib.hid (hu.mono (ok' := fun b => w3.heap.size ≤ b ∧ Unf w4 b) fun b h => h rfl)
      clear hcp hu
      go_wp2
      go_loopw [33] (fun i w' => ∃ (k : Nat) (l' : List Ver), k ≤ pm ∧ i = .int .i64 k ∧ Sl tVer w' (fun b => w3.heap.size ≤ b ∧ Unf w' b) (.slice X pm capx) l' ∧ (∀ j x, k ≤ j → l'[j]? = some x → x.val.size ≤ 140737488351232) ∧ Below w3.heap.size w3 w') (fun i _ => pm - (intOf i).toNat)
      case atStart => exact ⟨0, pp, by omega, rfl, hx.out, fun j x _ hj => hss.out x (List.mem_of_getElem? hj), hb4⟩
      case round =>
        obtain ⟨k, l', hk, rfl, hS, hsm, hb⟩ := hrel
        have HSM := Lib.hid hsm
        clear hsm
        have hlen := hS.length.1
        have HS := Lib.hid hS
        have HL := Lib.hid hlen
        clear hS hlen
        by_cases hlt : k < pm
        · obtain ⟨x, hx'⟩ := some_at (show k < l'.length by rw [HL.out]; exact hlt)
          obtain ⟨b, off, rfl, ⟨hlo, huf⟩, hbl, h0, h1, h2⟩ := sl_ver_ok HS.out hx'
          have hbd : ¬ 9223372036854775807 < x.val.size + 1 := by have := HSM.out k x (Nat.le_refl _) hx'; omega
          have HX := Lib.hid hx'
          have hfr := huf (off + k * 3 + 1)
          clear hx'
          go_wp2
          go_roundw
          case rel =>
            obtain ⟨hS', hb'⟩ := And.intro (sl_setVal HS.out HX.out (x.val ++ ⟨#[33]⟩)) (hb.setCell (p := ⟨b, off + k * 3 + 1, none⟩) hlo (.string (x.val ++ ⟨#[33]⟩)))
            refine ⟨k + 1, _, by omega, by go_num, hS'.mono fun b' hb => ⟨hb.1, unf_set hb.2 _ _⟩, fun j z hj hz => ?_, hb'⟩
            rw [List.getElem?_set_ne (by omega)] at hz
            exact HSM.out j z (by omega) hz
          case measure => simp [intOf]; omega
        · go_wp2_with fail
          refine (trim_own l A1 n cap1 y _ (HO.out.below hb) (by omega)).mono ?_
          rintro e w5 ⟨u, rfl, hu, hb5⟩
          obtain ⟨T, capt, rfl, -⟩ := hu.form
          have hT := Lib.hid (hu.inb.mono (ok' := fun b => (w3.heap.size ≤ b ∧ b < w5.heap.size) ∧ Unf w5 b) fun b h => ⟨⟨Nat.le_trans hb.size h.1.1, h.2⟩, h.1.2⟩)
          replace hb := hb.trans (hb5.mono hb.size)
          have htl : (trim l y).length ≤ n := by rw [← hln]; exact trim_len_le l y
          clear hb5 hu
          generalize trim l y = tt at *
          generalize htm : tt.length = tm at *
          clear htm
          go_wp2_with fail
          refine (cut_own l A1 n cap1 y _ (HO.out.below hb) (by omega)).mono ?_
          rintro e w6 ⟨u, rfl, hu, hb6⟩
          obtain ⟨C, capc, rfl, -⟩ := hu.form
          have hC := Lib.hid (hu.inb.mono (ok' := fun b => (w5.heap.size ≤ b ∧ b < w6.heap.size) ∧ Unf w6 b) fun b h => ⟨⟨h.1.1, h.2⟩, h.1.2⟩)
          have hT6 := Lib.hid ((hT.out.below hb6).mono (ok' := fun b => (w3.heap.size ≤ b ∧ b < w5.heap.size) ∧ Unf w6 b) fun b h => ⟨h.1, unf_below hb6 h.2 h.1.2⟩)
          have hz35 : w3.heap.size ≤ w5.heap.size := hb.size
          have hz56 : w5.heap.size ≤ w6.heap.size := hb6.size
          replace hb := hb.trans (hb6.mono hb.size)
          have hcl : (cut l y).length ≤ n := by rw [← hln]; unfold cut; split <;> simp; omega
          clear hb6 hu hT
          generalize cut l y = cc at *
          generalize hcm : cc.length = cm at *
          clear hcm
          go_wp2
          have hz7 := hb.size
          have hb7 := hb.alloc hz7 (.cells #[.slice T tm capt, .slice C cm capc] 23)
          have hB7 := Lib.hid (Blk.new w6 #[.slice T tm capt, .slice C cm capc] 23)
          have hbn : Below w6.heap.size w6 (w6.alloc (.cells #[.slice T tm capt, .slice C cm capc] 23)) := (Below.refl _ _).alloc (Nat.le_refl _) _
          have hT7 := Lib.hid ((hT6.out.below hbn).mono (ok' := fun b => (w3.heap.size ≤ b ∧ b < w5.heap.size) ∧ Unf (w6.alloc (.cells #[.slice T tm capt, .slice C cm capc] 23)) b) fun b h => ⟨h.1, unf_below hbn h.2 (Nat.lt_of_lt_of_le h.1.2 hz56)⟩)
          have hC7 := Lib.hid ((hC.out.below hbn).mono (ok' := fun b => (w5.heap.size ≤ b ∧ b < w6.heap.size) ∧ Unf (w6.alloc (.cells #[.slice T tm capt, .slice C cm capc] 23)) b) fun b h => ⟨h.1, unf_below hbn h.2 h.1.2⟩)
          clear hT6 hC hb hbn hz7
          generalize w6.alloc (.cells #[.slice T tm capt, .slice C cm capc] 23) = w7 at *
          go_loopw [53] (fun i w' => ∃ (k : Nat), k ≤ 2 ∧ i = .int .i64 k ∧ Blk w' w6.heap.size #[.slice T tm capt, .slice C cm capc] 23 ∧ (k = 0 → ∃ l1, Sl tVer w' (fun b => (w3.heap.size ≤ b ∧ b < w5.heap.size) ∧ Unf w' b) (.slice T tm capt) l1) ∧ (k ≤ 1 → ∃ l2, Sl tVer w' (fun b => (w5.heap.size ≤ b ∧ b < w6.heap.size) ∧ Unf w' b) (.slice C cm capc) l2) ∧ Below w3.heap.size w3 w') (fun i _ => 2 - (intOf i).toNat)
          case atStart => exact ⟨0, by omega, rfl, hB7.out, fun _ => ⟨_, hT7.out⟩, fun _ => ⟨_, hC7.out⟩, hb7⟩
          case round =>
            obtain ⟨k, hk, rfl, hB, h1, h2, hb⟩ := hrel
            clear hB7 hT7 hC7 hb7
            rcases (show k = 0 ∨ k = 1 ∨ k = 2 by omega) with rfl | rfl | rfl
            · obtain ⟨l1, hs1⟩ := h1 rfl
              obtain ⟨l2, hs2⟩ := h2 (by omega)
              have e0 : wr.cell? ⟨w6.heap.size, 0, none⟩ = some (.slice T tm capt) := hB.cell 0
              have hlB : w6.heap.size < wr.heap.size := hB.lt
              have HBk := Lib.hid hB
              have HS1 := Lib.hid hs1
              have HS2 := Lib.hid hs2
              clear h1 h2 hB hs1 hs2
              go_wp2
              go_loopw [59] (fun i w' => ∃ (j : Nat), j ≤ tm ∧ i = .int .i64 j ∧ Blk w' w6.heap.size #[.slice T tm capt, .slice C cm capc] 23 ∧ (∃ l1, Sl tVer w' (fun b => (w3.heap.size ≤ b ∧ b < w5.heap.size) ∧ Unf w' b) (.slice T tm capt) l1) ∧ (∃ l2, Sl tVer w' (fun b => (w5.heap.size ≤ b ∧ b < w6.heap.size) ∧ Unf w' b) (.slice C cm capc) l2) ∧ Below w3.heap.size w3 w') (fun i _ => tm - (intOf i).toNat)
              case atStart => exact ⟨0, by omega, rfl, HBk.out, ⟨_, HS1.out⟩, ⟨_, HS2.out⟩, hb⟩
              case round =>
                clear HBk HS1 HS2 e0 hlB hb
                obtain ⟨j, hj, rfl, hB, ⟨l1, hs1⟩, ⟨l2, hs2⟩, hb⟩ := hrel
                have hlen := hs1.length.1
                have HBk := Lib.hid hB
                have HS1 := Lib.hid hs1
                have HS2 := Lib.hid hs2
                have HL := Lib.hid hlen
                clear hB hs1 hs2 hlen
                by_cases hlt : j < tm
                · obtain ⟨x, hx'⟩ := some_at (show j < l1.length by rw [HL.out]; exact hlt)
                  obtain ⟨b, off, rfl, ⟨⟨hlo, hhi⟩, huf⟩, hbl, g0, g1, g2⟩ := sl_ver_ok HS1.out hx'
                  have HX := Lib.hid hx'
                  have hfr := huf (off + j * 3)
                  clear hx' huf g1 g2
                  go_wp2
                  go_roundw
                  case rel =>
                    obtain ⟨r1, r2, r3, r4⟩ := own_write HS1.out HX.out hlo hhi (-1)
                    exact ⟨j + 1, by omega, by go_num, r3 _ _ _ hz56 HBk.out, r1, ⟨_, r2 _ _ _ _ (Nat.le_refl _) HS2.out⟩, r4 _ _ (Nat.le_refl _) hb⟩
                  case measure => simp [intOf]; omega
                · go_wp2
                  exact ⟨⟨1, by omega, rfl, HBk.out, fun h => by omega, fun _ => ⟨_, HS2.out⟩, hb⟩, by simp [intOf]⟩
            · obtain ⟨l2, hs2⟩ := h2 (by omega)
              have e1 : wr.cell? ⟨w6.heap.size, 1, none⟩ = some (.slice C cm capc) := hB.cell 1
              have hlB : w6.heap.size < wr.heap.size := hB.lt
              have HBk := Lib.hid hB
              have HS2 := Lib.hid hs2
              clear h1 h2 hB hs2
              go_wp2
              go_loopw [59] (fun i w' => ∃ (j : Nat), j ≤ cm ∧ i = .int .i64 j ∧ Blk w' w6.heap.size #[.slice T tm capt, .slice C cm capc] 23 ∧ (∃ l2, Sl tVer w' (fun b => (w5.heap.size ≤ b ∧ b < w6.heap.size) ∧ Unf w' b) (.slice C cm capc) l2) ∧ Below w3.heap.size w3 w') (fun i _ => cm - (intOf i).toNat)
              case atStart => exact ⟨0, by omega, rfl, HBk.out, ⟨_, HS2.out⟩, hb⟩
              case round =>
                clear HBk HS2 e1 hlB hb
                obtain ⟨j, hj, rfl, hB, ⟨l2, hs2⟩, hb⟩ := hrel
                have hlen := hs2.length.1
                have HBk := Lib.hid hB
                have HS2 := Lib.hid hs2
                have HL := Lib.hid hlen
                clear hB hs2 hlen
                by_cases hlt : j < cm
                · obtain ⟨x, hx'⟩ := some_at (show j < l2.length by rw [HL.out]; exact hlt)
                  obtain ⟨b, off, rfl, ⟨⟨hlo, hhi⟩, huf⟩, hbl, g0, g1, g2⟩ := sl_ver_ok HS2.out hx'
                  have HX := Lib.hid hx'
                  have hfr := huf (off + j * 3)
                  clear hx' huf g1 g2
                  go_wp2
                  go_roundw
                  case rel =>
                    obtain ⟨r1, r2, r3, r4⟩ := own_write HS2.out HX.out hlo hhi (-1)
                    exact ⟨j + 1, by omega, by go_num, r3 _ _ _ (Nat.le_refl _) HBk.out, r1, r4 _ _ hz35 hb⟩
                  case measure => simp [intOf]; omega
                · go_wp2
                  exact ⟨⟨2, by omega, rfl, HBk.out, fun h => by omega, fun h => by omega, hb⟩, by simp [intOf]⟩
            · clear h1 h2 hB
              have hW := hW3.trans (hb.mono hW3.size)
              go_wp2_with fail
              refine (plain_calls l A1 n cap1 _ (HO.out.below hb) (by omega)).mono ?_
              rintro e w8 ⟨u, rfl, hu, hb8⟩
              obtain ⟨D, cap8, rfl, -⟩ := hu.form
              rw [hln] at hu ⊢
              have hP := Lib.hid (hu.mono (ok' := fun _ => True) fun _ _ => trivial)
              replace hW := hW.trans (hb8.mono hW.size)
              clear hu hb8 hb
              go_wp2_with fail
              refine (plain_calls l A n cap _ (H.out.below hW) (by omega)).mono ?_
              rintro e w9 ⟨u, rfl, hu, hb9⟩
              obtain ⟨E, cap9, rfl, -⟩ := hu.form
              rw [hln] at hu ⊢
              have hQ := Lib.hid (hu.mono (ok' := fun _ => True) fun _ _ => trivial)
              have hP9 := Lib.hid (hP.out.below hb9)
              replace hW := hW.trans (hb9.mono hW.size)
              clear hu hb9 hP
              go_wp2_with fail
              refine (same_calls l D E _ _ cap8 cap9 _ hP9.out hQ.out).mono ?_
              rintro e w10 ⟨rfl, hb10⟩
              replace hW := hW.trans (hb10.mono hW.size)
              clear hb10 hP9 hQ
              go_wp2_with fail
              refine (lives_calls _).mono ?_
              rintro e w11 ⟨rfl, hb11⟩
              replace hW := hW.trans (hb11.mono hW.size)
              go_wp2
              go_ret
              exact ⟨rfl, hW⟩

/-- The walk, as the row asks for it. -/
theorem chainOwn_row (W : World) (l : List Ver) (A : Option Addr) (n cap : Nat) (hl : Sl tVer W (fun _ => True) (.slice A n cap) l) (hs : (∀ x ∈ l, x.val.size ≤ reachBytes) ∧ l.length * Try.prog.bytesOf 27 ≤ reachBytes) (v : Ver) (cs : Array Value) (hv : tVer.K W (fun _ => True) v cs.toList) (hvs : v.val.size ≤ reachBytes) (y : Int) (_ : (Lit.int .i64 y).wf = true) :
    Calls Try.prog 8 #[.slice A n cap, .agg cs, .int .i64 y] W fun e w' => e = .returned (.bool true) ∧ Below W.heap.size W w' := by
  have hc : cs = #[.int .i64 v.at_, .string v.val, .bool v.dead] := by
    have h : cs.toList = v.enc := hv
    rw [← Array.toArray_toList (xs := cs), h]; rfl
  rw [hc]
  exact chainOwn_calls l v A n cap y W hl hs.1 hvs
end Go.Proofs.Ytdoigefmmjhjcaa
