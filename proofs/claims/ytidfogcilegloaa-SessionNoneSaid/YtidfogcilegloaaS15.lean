import Derived.Test.YtidfogcilegloaaS13
/-! A session that no call made. -/
namespace Go.Proofs.Ytidfogcilegloaa
open Go.RowKit Go.Op

section
variable (xv : Value) (w : World) (H : Hid (∀ W, Below w.heap.size w W → Calls Try.prog 27 #[xv] W fun e w' => e = .returned (.bool false) ∧ W = w'))
include H
theorem nmay : Calls Try.prog 25 #[xv] w fun e w' => e = .returned (.int .i64 1) ∧ w = w' := by
  have HM := Lib.hid (H.out w (Below.refl _ _))
  clear H
  go_enter Try.func25, Try.ntmps25
  go_wp2_with fail
  refine HM.out.mono ?_
  rintro e w' ⟨rfl, rfl⟩
  go_wp2
  go_ret
  exact ⟨rfl, rfl⟩
theorem nput (k v : ByteArray) : Calls Try.prog 9 #[xv, .string k, .string v] w fun e w' => e = .returned (.int .i64 1) ∧ w = w' := by
  have HM := Lib.hid (nmay xv w H)
  clear H
  go_enter Try.func9, Try.ntmps9
  go_wp2_with fail
  refine HM.out.mono ?_
  rintro e w' ⟨rfl, rfl⟩
  go_wp2
  go_ret
  exact ⟨rfl, rfl⟩
theorem ndrop (k : ByteArray) : Calls Try.prog 18 #[xv, .string k] w fun e w' => e = .returned (.int .i64 1) ∧ w = w' := by
  have HM := Lib.hid (nmay xv w H)
  clear H
  go_enter Try.func18, Try.ntmps18
  go_wp2_with fail
  refine HM.out.mono ?_
  rintro e w' ⟨rfl, rfl⟩
  go_wp2
  go_ret
  exact ⟨rfl, rfl⟩
theorem nget (sp : Value) (k : ByteArray) : Calls Try.prog 16 #[xv, sp, .string k] w fun e w' => e = .returned (.tuple #[.string ⟨#[]⟩, .int .i64 1]) ∧ w = w' := by
  have HM := Lib.hid (nmay xv w H)
  clear H
  go_enter Try.func16, Try.ntmps16
  go_wp2_with fail
  refine HM.out.mono ?_
  rintro e w' ⟨rfl, rfl⟩
  go_wp2
  go_ret2
  exact ⟨rfl, rfl⟩
theorem nscan (sp : Value) (x y : ByteArray) : Calls Try.prog 17 #[xv, sp, .string x, .string y] w fun e w' => e = .returned (.tuple #[.slice none 0 0, .int .i64 1]) ∧ w = w' := by
  have HM := Lib.hid (nmay xv w H)
  clear H
  go_enter Try.func17, Try.ntmps17
  go_wp2_with fail
  refine HM.out.mono ?_
  rintro e w' ⟨rfl, rfl⟩
  go_wp2
  go_ret2
  exact ⟨rfl, rfl⟩
theorem nbegin (sp : Value) (st : Bool) : Calls Try.prog 10 #[xv, sp, .bool st] w fun e w' => e = .returned (.int .i64 1) ∧ w = w' := by
  have HM := Lib.hid (H.out w (Below.refl _ _))
  clear H
  go_enter Try.func10, Try.ntmps10
  go_wp2_with fail
  refine HM.out.mono ?_
  rintro e w' ⟨rfl, rfl⟩
  go_wp2
  go_ret
  exact ⟨rfl, rfl⟩
theorem nclose : Calls Try.prog 13 #[xv] w fun e w' => e = .returned (.bool false) ∧ w = w' := by
  have HM := Lib.hid (H.out w (Below.refl _ _))
  clear H
  go_enter Try.func13, Try.ntmps13
  go_wp2_with fail
  refine HM.out.mono ?_
  rintro e w' ⟨rfl, rfl⟩
  go_wp2
  go_ret
  exact ⟨rfl, rfl⟩
theorem nopen : Calls Try.prog 14 #[xv] w fun e w' => e = .returned (.bool false) ∧ w = w' := by
  have HM := Lib.hid (H.out w (Below.refl _ _))
  clear H
  go_enter Try.func14, Try.ntmps14
  go_wp2_with fail
  refine HM.out.mono ?_
  rintro e w' ⟨rfl, rfl⟩
  go_wp2
  go_ret
  exact ⟨rfl, rfl⟩
theorem nsnap : Calls Try.prog 19 #[xv] w fun e w' => e = .returned (.int .i64 0) ∧ w = w' := by
  have HM := Lib.hid (H.out w (Below.refl _ _))
  clear H
  go_enter Try.func19, Try.ntmps19
  go_wp2_with fail
  refine HM.out.mono ?_
  rintro e w' ⟨rfl, rfl⟩
  go_wp2
  go_ret
  exact ⟨rfl, rfl⟩
theorem nops : Calls Try.prog 12 #[xv] w fun e w' => e = .returned (.int .i64 0) ∧ w = w' := by
  have HM := Lib.hid (H.out w (Below.refl _ _))
  clear H
  go_enter Try.func12, Try.ntmps12
  go_wp2_with fail
  refine HM.out.mono ?_
  rintro e w' ⟨rfl, rfl⟩
  go_wp2
  go_ret
  exact ⟨rfl, rfl⟩
theorem nrecord : Calls Try.prog 11 #[xv] w fun e w' => e = .returned (.tuple #[.agg #[.int .i64 0, .int .i64 0, .bool false, .slice none 0 0, .slice none 0 0], .bool false]) ∧ Below w.heap.size w w' := by
  have HM := Lib.hid (H.out _ ((Below.refl _ _).alloc (Nat.le_refl _) (.cells #[.int .i64 0, .int .i64 0, .bool false, .slice none 0 0, .slice none 0 0] 34)))
  clear H
  go_enter Try.func11, Try.ntmps11
  go_wp2_with fail
  refine HM.out.mono ?_
  rintro e w' ⟨rfl, rfl⟩
  go_wp2_with fail
  exact bodyPost_ret (v := .tuple #[.agg #[.int .i64 0, .int .i64 0, .bool false, .slice none 0 0, .slice none 0 0], .bool false]) (by simp [results, Try.results11, go_sem]) rfl ⟨rfl, (Below.refl _ _).alloc (Nat.le_refl _) _⟩
end
/-! a store that is none -/
theorem stmade_nil (w : World) : Calls Try.prog 37 #[.pointer none] w fun e w' => e = .returned (.bool false) ∧ w = w' := by
  go_enter Try.func37, Try.ntmps37
  go_wp2
  go_ret
  exact ⟨rfl, rfl⟩
theorem slast_nil (w : World) : Calls Try.prog 21 #[.pointer none] w fun e w' => e = .returned (.int .i64 0) ∧ w = w' := by
  have HM := Lib.hid (stmade_nil w)
  go_enter Try.func21, Try.ntmps21
  go_wp2_with fail
  refine HM.out.mono ?_
  rintro e w' ⟨rfl, rfl⟩
  go_wp2
  go_ret
  exact ⟨rfl, rfl⟩
theorem smay_nil (n : Int) (w : World) : Calls Try.prog 42 #[.pointer none, .int .i64 n] w fun e w' => e = .returned (.int .i64 1) ∧ w = w' := by
  have HM := Lib.hid (stmade_nil w)
  go_enter Try.func42, Try.ntmps42
  go_wp2_with fail
  refine HM.out.mono ?_
  rintro e w' ⟨rfl, rfl⟩
  go_wp2
  go_ret
  exact ⟨rfl, rfl⟩
theorem sget_nil (k : ByteArray) (n : Int) (w : World) : Calls Try.prog 24 #[.pointer none, .string k, .int .i64 n] w fun e w' => e = .returned (.tuple #[.string ⟨#[]⟩, .int .i64 1]) ∧ w = w' := by
  have HM := Lib.hid (smay_nil n w)
  go_enter Try.func24, Try.ntmps24
  go_wp2_with fail
  refine HM.out.mono ?_
  rintro e w' ⟨rfl, rfl⟩
  go_wp2
  go_ret2
  exact ⟨rfl, rfl⟩
theorem Pr.begin_nil {w0 w : World} {pb mb xb : Nat} {S : Sto} {id : Int} (h : Pr w0 w pb mb xb S id) (st : Bool) : Calls Try.prog 10 #[.pointer (some ⟨xb, 0, none⟩), .pointer none, .bool st] w fun e w' => e = .returned (.int .i64 1) ∧ w = w' := by
  obtain ⟨sv, hb, h0⟩ := h.shut
  have HM := Lib.hid (smade_calls xb id w (hb.cell 0) h0)
  have c1 : w.cell? ⟨xb, 1, none⟩ = some (.bool false) := hb.cell 1
  have HL := Lib.hid (slast_nil w)
  have HG := Lib.hid (sget_nil ⟨#[]⟩ 0 w)
  clear h hb h0
  go_enter Try.func10, Try.ntmps10
  go_wp2_with fail
  refine HM.out.mono ?_
  rintro e w' ⟨rfl, rfl⟩
  go_wp2_with fail
  refine HL.out.mono ?_
  rintro e w' ⟨rfl, rfl⟩
  go_wp2_with fail
  refine HG.out.mono ?_
  rintro e w' ⟨rfl, rfl⟩
  go_wp2
  go_ret
  exact ⟨rfl, rfl⟩

set_option maxRecDepth 100000 in
set_option maxHeartbeats 8000000 in
theorem none_calls (a : LAct) (P : Option Addr) (np cp : Nat) (w : World) (hp : Sl tPair w (fun _ => True) (.slice P np cp) a.l) (ha : LActOk a) :
    Calls Try.prog 4 #[.agg #[.int .i64 a.kind, .int .i64 a.n, .string a.key, .string a.val, .bool a.strict, .slice P np cp]] w fun e w' => e = .returned (.bool true) ∧ Below w.heap.size w w' := by
  obtain ⟨ak, an, akey, aval, ast, al⟩ := a
  simp only at hp
  have hlive : Hid (∀ W, Below w.heap.size w W → Calls Try.prog 8 #[] W fun e w' => e = .returned (.bool true) ∧ Below w.heap.size w w') := fun W h => (lives_calls W).mono fun e w' ⟨h1, h2⟩ => ⟨h1, h.trans (h2.mono h.size)⟩
  obtain ⟨wa, hwa⟩ : ∃ wa, w.alloc (.cells #[.int .i64 ak, .int .i64 an, .string akey, .string aval, .bool ast, .slice P np cp] 40) = wa := ⟨_, rfl⟩
  obtain ⟨ga, hga⟩ : ∃ ga, w.heap.size = ga := ⟨_, rfl⟩
  have hba : Below w.heap.size w wa := by rw [← hwa]; exact (Below.refl _ _).alloc (Nat.le_refl _) _
  have hG : Blk wa ga #[.int .i64 ak, .int .i64 an, .string akey, .string aval, .bool ast, .slice P np cp] 40 := by rw [← hga, ← hwa]; exact Blk.new _ _ _
  obtain ⟨wb, hwb⟩ : ∃ wb, wa.alloc (.cells #[.int .i64 ak, .int .i64 an, .string akey, .string aval, .bool ast, .slice P np cp] 40) = wb := ⟨_, rfl⟩
  have hbb : Below wa.heap.size wa wb := by rw [← hwb]; exact (Below.refl _ _).alloc (Nat.le_refl _) _
  have hB2 : Blk wb wa.heap.size #[.int .i64 ak, .int .i64 an, .string akey, .string aval, .bool ast, .slice P np cp] 40 := by rw [← hwb]; exact Blk.new _ _ _
  have hbw : Below w.heap.size w wb := hba.trans (hbb.mono hba.size)
  have hone : Sl tLAct wb (fun _ => True) (.slice (some ⟨wa.heap.size, 0, none⟩) 1 1) [⟨ak, an, akey, aval, ast, al⟩] :=
    ⟨_, 1, [.int .i64 ak, .int .i64 an, .string akey, .string aval, .bool ast, .slice P np cp], rfl, Nat.le_refl _, ⟨by omega, fun h => by cases h⟩,
      Cells.one ⟨[_], _, rfl, rfl, [_], _, rfl, rfl, [_], _, rfl, rfl, [_], _, rfl, rfl, [_], _, rfl, rfl, _, rfl, hp.below hbw⟩, .inr ⟨_, 0, rfl, trivial, fun j u hj => by rw [hB2.cell (0 + j)]; simpa using hj⟩⟩
  have HLI := Lib.hid (light_calls [⟨ak, an, akey, aval, ast, al⟩] _ 1 1 wb hone (fun x hx => by rw [List.mem_singleton.1 hx]; exact ha))
  have HBW := Lib.hid hbw
  have HGB := Lib.hid (hG.below hbb hG.lt)
  have y0 := hG.cell 0
  have y1 := hG.cell 1
  have y2 := hG.cell 2
  have y3 := hG.cell 3
  have y4 := hG.cell 4
  have y5 := hG.cell 5
  simp only [List.getElem?_toArray, List.getElem?_cons_succ, List.getElem?_cons_zero] at y0 y1 y2 y3 y4 y5
  clear hp ha hba hG hbb hB2 hbw hone
  go_enter Try.func4, Try.ntmps4
  go_wp2_with fail
  clear hwa hwb hga
  refine HLI.out.mono ?_
  rintro e w2 ⟨b, rfl, -, hb2⟩
  have HB2 : Hid (Below w.heap.size w w2) := HBW.out.trans (hb2.mono HBW.out.size)
  have HG2 := Lib.hid (HGB.out.below hb2 HGB.out.lt)
  clear hb2 HLI HBW HGB y0 y1 y2 y3 y4 y5
  cases b
  · go_wp2_with fail
    refine (hlive.out _ HB2.out).mono ?_
    rintro e w3 ⟨rfl, hb⟩
    have HB := Lib.hid hb
    clear hb
    go_wp2
    go_ret
    exact ⟨rfl, HB.out⟩
  obtain ⟨wz, hwz⟩ : ∃ wz, w2.alloc (.cells ((Ses.shut 0).cells (.slice none 0 0) (.pointer none) (.map none)) 53) = wz := ⟨_, rfl⟩
  obtain ⟨gz, hgz⟩ : ∃ gz, w2.heap.size = gz := ⟨_, rfl⟩
  have hbz : Below w2.heap.size w2 wz := by rw [← hwz]; exact (Below.refl _ _).alloc (Nat.le_refl _) _
  have hZ : Blk wz gz ((Ses.shut 0).cells (.slice none 0 0) (.pointer none) (.map none)) 53 := by rw [← hgz, ← hwz]; exact Blk.new _ _ _
  have HBZ : Hid (Below w.heap.size w wz) := HB2.out.trans (hbz.mono HB2.out.size)
  have HZ := Lib.hid hZ
  have HGZ := Lib.hid (HG2.out.below hbz HG2.out.lt)
  clear hbz hZ
  unfold Ses.cells Ses.shut at hwz
  go_wp2_with fail
  clear hwz hgz
  refine (st_new wz wz (Below.refl _ _)).mono ?_
  rintro e w3 ⟨pb, mb, kv, X, rfl, hM⟩
  have HB3 : Hid (Below w.heap.size w w3) := HBZ.out.trans (hM.be.mono HBZ.out.size)
  have HZ3 := Lib.hid (HZ.out.below hM.be HZ.out.lt)
  have HG3 := Lib.hid (HGZ.out.below hM.be HGZ.out.lt)
  have HM := Lib.hid hM
  clear hM HZ HB2 HG2
  have hxs : ∀ xv : Value, (xv = .pointer none ∨ xv = .pointer (some ⟨gz, 0, none⟩)) → ∀ W, Below w3.heap.size w3 W → Calls Try.prog 27 #[xv] W fun e w' => e = .returned (.bool false) ∧ W = w' := fun xv hx W hW => by
    rcases hx with rfl | rfl
    · exact smade_nil W
    · exact smade_zero gz W ((HZ3.out.below hW HZ3.out.lt).cell 0)
  have HXS := Lib.hid hxs
  have hX3 := Lib.hid (Below.refl w3.heap.size w3)
  have i0 : ∀ W, (Instr.index 54 (.agg #[.pointer none, .pointer (some ⟨gz, 0, none⟩)]) (.int .i64 0)).run Try.prog W = .ok (.pointer none) W := fun _ => by kernel_rfl
  have i1 : ∀ W, (Instr.index 54 (.agg #[.pointer none, .pointer (some ⟨gz, 0, none⟩)]) (.int .i64 1)).run Try.prog W = .ok (.pointer (some ⟨gz, 0, none⟩)) W := fun _ => by kernel_rfl
  clear hxs
  go_wp2_with fail
  go_loopw [21] (fun i wr => ∃ t : Nat, (t = 0 ∨ t = 1 ∨ t = 2) ∧ i = .int .i64 t ∧ Hid (Below w3.heap.size w3 wr)) (fun i _ => 2 - (intOf i).toNat)
  case atStart => exact ⟨0, .inl rfl, rfl, hX3⟩
  case round =>
    obtain ⟨t, ht, rfl, hB⟩ := hrel
    by_cases h2 : t = 2
    · subst h2
      have HN := Lib.hid (se_new (id := 1) ((HM.out.below hB.out)) (by omega) (by omega))
      clear ht
      go_wp2_with fail
      refine HN.out.mono ?_
      rintro e w4 ⟨xb, rfl, hP⟩
      have HB4 : Hid (Below w.heap.size w w4) := HBZ.out.trans (hP.be.mono HBZ.out.size)
      have HBN := Lib.hid (hP.begin_nil ast)
      have HOP := Lib.hid hP.open_
      have g4 : w4.cell? ⟨ga, 4, none⟩ = some (.bool ast) := by
        have h1 := HGZ.out.cell 4
        have h2 := hP.be.cell (p := ⟨ga, 4, none⟩) HGZ.out.lt
        rw [h2]; exact h1
      clear HN hP
      go_wp2_with fail
      refine HBN.out.mono ?_
      rintro e w' ⟨rfl, rfl⟩
      go_wp2_with fail
      refine HOP.out.mono ?_
      rintro e w' ⟨rfl, rfl⟩
      clear g4 HBN HOP
      go_wp2_with fail
      refine (hlive.out _ HB4.out).mono ?_
      rintro e w5 ⟨rfl, hb⟩
      have HB := Lib.hid hb
      clear hb
      go_wp2
      go_ret
      exact ⟨rfl, HB.out⟩
    · obtain ⟨xv, hxv, hix⟩ : ∃ xv : Value, (xv = .pointer none ∨ xv = .pointer (some ⟨gz, 0, none⟩)) ∧ ∀ W, (Instr.index 54 (.agg #[.pointer none, .pointer (some ⟨gz, 0, none⟩)]) (.int .i64 t)).run Try.prog W = .ok xv W := by
        rcases ht with rfl | rfl | rfl
        · exact ⟨_, .inl rfl, i0⟩
        · exact ⟨_, .inr rfl, i1⟩
        · exact absurd rfl h2
      have HXV : Hid (∀ W, Below wr.heap.size wr W → Calls Try.prog 27 #[xv] W fun e w' => e = .returned (.bool false) ∧ W = w') := fun W hW => HXS.out xv hxv W (hB.out.trans (hW.mono hB.out.size))
      have ht2 : (t : Int) < 2 := by omega
      have g2 := (HG3.out.below hB.out HG3.out.lt).cell 2
      have g3 := (HG3.out.below hB.out HG3.out.lt).cell 3
      have g4 := (HG3.out.below hB.out HG3.out.lt).cell 4
      simp only [List.getElem?_toArray, List.getElem?_cons_succ, List.getElem?_cons_zero] at g2 g3 g4
      clear hxv i0 i1 ht h2
      go_wp2_with fail
      refine (nget xv wr HXV _ akey).mono ?_
      rintro e w' ⟨rfl, rfl⟩
      go_wp2_with fail
      refine (nscan xv wr HXV _ akey aval).mono ?_
      rintro e w' ⟨rfl, rfl⟩
      go_wp2_with fail
      refine (nrecord xv wr HXV).mono ?_
      rintro e w4 ⟨rfl, hb4⟩
      have hb5 : Below wr.heap.size wr (w4.alloc (.cells #[.int .i64 0, .int .i64 0, .bool false, .slice none 0 0, .slice none 0 0] 34)) := hb4.alloc hb4.size _
      have HXW : Hid (∀ W, Below (w4.alloc (.cells #[.int .i64 0, .int .i64 0, .bool false, .slice none 0 0, .slice none 0 0] 34)).heap.size (w4.alloc (.cells #[.int .i64 0, .int .i64 0, .bool false, .slice none 0 0, .slice none 0 0] 34)) W → Calls Try.prog 27 #[xv] W fun e w' => e = .returned (.bool false) ∧ W = w') := fun W hW => HXV.out W (hb5.trans (hW.mono hb5.size))
      have HBF : Hid (Below w3.heap.size w3 (w4.alloc (.cells #[.int .i64 0, .int .i64 0, .bool false, .slice none 0 0, .slice none 0 0] 34))) := hB.out.trans (hb5.mono hB.out.size)
      have g2 := (HG3.out.below HBF.out HG3.out.lt).cell 2
      have g3 := (HG3.out.below HBF.out HG3.out.lt).cell 3
      have g4 := (HG3.out.below HBF.out HG3.out.lt).cell 4
      simp only [List.getElem?_toArray, List.getElem?_cons_succ, List.getElem?_cons_zero] at g2 g3 g4
      clear hb4 hb5 hix
      go_wp2_with fail
      generalize w4.alloc (.cells #[.int .i64 0, .int .i64 0, .bool false, .slice none 0 0, .slice none 0 0] 34) = w5 at *
      refine (nbegin xv w5 HXW _ ast).mono ?_
      rintro e w' ⟨rfl, rfl⟩
      go_wp2_with fail
      refine (nput xv w5 HXW akey aval).mono ?_
      rintro e w' ⟨rfl, rfl⟩
      go_wp2_with fail
      refine (ndrop xv w5 HXW akey).mono ?_
      rintro e w' ⟨rfl, rfl⟩
      go_wp2_with fail
      refine (nclose xv w5 HXW).mono ?_
      rintro e w' ⟨rfl, rfl⟩
      go_wp2_with fail
      refine (nopen xv w5 HXW).mono ?_
      rintro e w' ⟨rfl, rfl⟩
      go_wp2_with fail
      refine (nsnap xv w5 HXW).mono ?_
      rintro e w' ⟨rfl, rfl⟩
      go_wp2_with fail
      refine (nops xv w5 HXW).mono ?_
      rintro e w' ⟨rfl, rfl⟩
      have ht3 : t + 1 = 0 ∨ t + 1 = 1 ∨ t + 1 = 2 := by omega
      clear g2 g3 g4
      go_wp2
      go_roundw
      case rel => exact ⟨t + 1, ht3, by go_num, HBF⟩
      case measure => simp [intOf]; omega
end Go.Proofs.Ytidfogcilegloaa
