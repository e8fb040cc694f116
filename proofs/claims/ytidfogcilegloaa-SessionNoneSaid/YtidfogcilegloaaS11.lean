import Derived.Test.YtidfogcilegloaaS10
/-! SessionLimits. -/
namespace Go.Proofs.Ytidfogcilegloaa
open Go.RowKit Go.Op

theorem sbegin_open (s : Ses) (xb : Nat) (rv mv sv sp : Value) (strict : Bool) (w : World) (hb : Blk w xb (s.cells rv mv sv) 53) (hi : 0 < s.id) (ho : s.op = true) : Calls Try.prog 10 #[.pointer (some ⟨xb, 0, none⟩), sp, .bool strict] w fun e w' => e = .returned (.int .i64 9) ∧ w = w' := by
  have HM := Lib.hid (smade_calls xb s.id w (hb.cell 0) hi)
  have c1 : w.cell? ⟨xb, 1, none⟩ = some (.bool true) := by rw [← ho]; exact hb.cell 1
  clear hb hi ho
  go_enter Try.func10, Try.ntmps10
  go_wp2_with fail
  refine HM.out.mono ?_
  rintro e w' ⟨rfl, rfl⟩
  go_wp2
  go_ret
  exact ⟨rfl, rfl⟩
section
variable {w0 w : World} {pb mb xb : Nat} {S : Sto} {s : Ses} {id : Int}
theorem Bo.begin_ (h : Bo w0 w pb mb xb S s) (sp : Value) (strict : Bool) : Calls Try.prog 10 #[.pointer (some ⟨xb, 0, none⟩), sp, .bool strict] w fun e w' => e = .returned (.int .i64 9) ∧ w = w' := by
  obtain ⟨kv, rv, qb, nb, sb, X, Y, h⟩ := h
  exact sbegin_open s xb _ _ _ sp strict w h.ses.blk h.ses.pos h.ses.ok.op
theorem Pr.put (h : Pr w0 w pb mb xb S id) (k v : ByteArray) : Calls Try.prog 9 #[.pointer (some ⟨xb, 0, none⟩), .string k, .string v] w fun e w' => e = .returned (.int .i64 9) ∧ w = w' := by
  obtain ⟨sv, h, h0⟩ := h.shut
  exact sput_shut _ xb _ _ _ w h h0 rfl k v
theorem Pr.close (h : Pr w0 w pb mb xb S id) : Calls Try.prog 13 #[.pointer (some ⟨xb, 0, none⟩)] w fun e w' => e = .returned (.bool false) ∧ w = w' := by
  obtain ⟨sv, h, h0⟩ := h.shut
  exact sclose_shut _ xb _ _ _ w h h0 rfl
theorem Pr.open_ (h : Pr w0 w pb mb xb S id) : Calls Try.prog 14 #[.pointer (some ⟨xb, 0, none⟩)] w fun e w' => e = .returned (.bool false) ∧ w = w' := by
  obtain ⟨sv, h, h0⟩ := h.shut
  exact sopen_calls _ xb _ _ _ w h h0
end
/-- Behind m acts. -/
def lim (p : Pair) (m : Nat) : Ses := ⟨1, true, 0, false, [], if m = 0 then [] else [p], ((min m 64 : Nat) : Int), []⟩
theorem lim_put (p : Pair) (m : Nat) (h1 : 1 ≤ p.key.size) (h64 : p.key.size ≤ 64) (hv : p.val.size ≤ 256) : (lim p m).put p = (if m < 64 then 0 else 13, lim p (m + 1)) := by
  have hr : B.rput (lim p m).mine p = (0, [p]) := by
    unfold B.rput lim
    rw [if_neg (by omega), if_neg (by omega)]
    by_cases hm : m = 0
    · simp [hm, B.hasK, B.put, B.low]
    · have e : klt p.key p.key = false := klt_irrefl _
      simp [hm, B.hasK, B.put, B.low, e]
  unfold Ses.put
  rw [hr, if_neg (show ¬ (lim p m).op = false by simp [lim])]
  by_cases hm : m < 64
  · rw [if_neg (show ¬ (64 : Int) ≤ (lim p m).ops by show ¬ (64 : Int) ≤ ((min m 64 : Nat) : Int); omega), if_pos hm]
    have e : ((min m 64 : Nat) : Int) + 1 = ((min (m + 1) 64 : Nat) : Int) := by omega
    have e2 : ¬ m + 1 = 0 := by omega
    refine Prod.ext rfl ?_
    show Ses.mk 1 true 0 false [] [p] (((min m 64 : Nat) : Int) + 1) [] = Ses.mk 1 true 0 false [] (if m + 1 = 0 then [] else [p]) ((min (m + 1) 64 : Nat) : Int) []
    rw [e, if_neg e2]
  · rw [if_pos (show (64 : Int) ≤ (lim p m).ops by show (64 : Int) ≤ ((min m 64 : Nat) : Int); omega), if_neg hm]
    have e : ((min m 64 : Nat) : Int) = ((min (m + 1) 64 : Nat) : Int) := by omega
    refine Prod.ext rfl ?_
    show Ses.mk 1 true 0 false [] (if m = 0 then [] else [p]) ((min m 64 : Nat) : Int) [] = Ses.mk 1 true 0 false [] (if m + 1 = 0 then [] else [p]) ((min (m + 1) 64 : Nat) : Int) []
    rw [e, if_neg (by omega), if_neg (by omega)]

theorem Bo.recLim {w0 w : World} {pb mb xb : Nat} {p : Pair} {j n : Nat} (h : Bo w0 w pb mb xb Sto.new (lim p j)) (hn : n = if j = 0 then 0 else 1) : Calls Try.prog 11 #[.pointer (some ⟨xb, 0, none⟩)] w fun e w' => ∃ R nr cr W cw, e = .returned (.tuple #[.agg #[.int .i64 1, .int .i64 0, .bool false, .slice R nr cr, .slice W n cw], .bool true]) ∧
    Bo w0 w' pb mb xb Sto.new (lim p j) := by
  refine h.record.mono fun e w' ⟨R, nr, cr, W, nw, cw, h1, _, h3, _, h5⟩ => ⟨R, nr, cr, W, cw, ?_, h5⟩
  have hw := h3.length.1
  have e1 : n = nw := by
    rw [hn, ← hw]
    unfold lim
    by_cases hj : j = 0
    · simp [hj]
    · simp [hj]
  rw [h1, e1]; rfl
theorem limA : (Ses.start 1 0 false).put ⟨⟨#[97]⟩, ⟨#[98]⟩, false⟩ = (0, ⟨1, true, 0, false, [], [⟨⟨#[97]⟩, ⟨#[98]⟩, false⟩], 1, []⟩) := by
  simp [Ses.put, Ses.start, Ses.bump, B.rput, B.hasK, B.put, B.low, ByteArray.size]
set_option maxRecDepth 100000 in
set_option maxHeartbeats 16000000 in
theorem limits_calls (a0 : Int) (hlo : 0 ≤ a0) (hhi : a0 < 18446744073709551616) (key : ByteArray) (hk : key.size ≤ 140737488351232) (w : World) : Calls Try.prog 3 #[.int .u64 a0, .string key] w fun e w' => e = .returned (.bool true) ∧ Below w.heap.size w w' := by
  by_cases hlen : 60 < key.size
  · go_enter Try.func3, Try.ntmps3
    go_wp2_with fail
    refine (st_new w w (Below.refl _ _)).mono ?_
    rintro e w1 ⟨pb, mb, kv, X, rfl, hM⟩
    have HN := Lib.hid (se_new (id := 1) hM (by omega) (by omega))
    clear hM
    go_wp2_with fail
    refine HN.out.mono ?_
    rintro e w2 ⟨xb, rfl, hP⟩
    have HP := Lib.hid hP.be
    clear hP HN
    go_wp2_with fail
    refine (lives_calls _).mono ?_
    rintro e w3 ⟨rfl, hb⟩
    have HB := Lib.hid hb
    clear hb
    go_wp2
    go_ret
    exact ⟨rfl, HP.out.trans (HB.out.mono HP.out.size)⟩
  · obtain ⟨kn, hkn⟩ : ∃ kn : Nat, a0 % 80 = (kn : Int) := ⟨(a0 % 80).toNat, by omega⟩
    have hk80 : kn < 80 := by omega
    have hk80i : (kn : Int) < 80 := by omega
    go_enter Try.func3, Try.ntmps3
    go_wp2_with fail
    refine (st_new w w (Below.refl _ _)).mono ?_
    rintro e w1 ⟨pb, mb, kv, X, rfl, hM⟩
    have HN := Lib.hid (se_new (id := 1) hM (by omega) (by omega))
    clear hM
    go_wp2_with fail
    refine HN.out.mono ?_
    rintro e w2 ⟨xb, rfl, hP⟩
    have HN1 := Lib.hid (hP.put key ⟨#[118]⟩)
    have HN2 := Lib.hid (hP.begin false)
    clear hP HN
    go_wp2_with fail
    refine HN1.out.mono ?_
    rintro e w' ⟨rfl, rfl⟩
    clear HN1
    go_wp2_with fail
    refine HN2.out.mono ?_
    rintro e w3 ⟨rfl, hB⟩
    have HN := Lib.hid (hB.begin_ (.pointer (some ⟨pb, 0, none⟩)) true)
    have HB := Lib.hid hB
    clear hB HN2
    go_wp2_with fail
    refine HN.out.mono ?_
    rintro e w' ⟨rfl, rfl⟩
    clear HN
    have HB0 : Hid (Bo w w3 pb mb xb Sto.new (lim ⟨⟨#[107]⟩ ++ key, ⟨#[118]⟩, false⟩ 0)) := HB.out
    clear HB
    go_wp2_with fail
    clear hkn
    go_loopw [8] (fun i wr => ∃ j : Nat, i = .int .i64 ((j : Int) + 1) ∧ j ≤ kn ∧ Hid (Bo w wr pb mb xb Sto.new (lim ⟨⟨#[107]⟩ ++ key, ⟨#[118]⟩, false⟩ j))) (fun i _ => 100 - (intOf i).toNat)
    case atStart => exact ⟨0, rfl, by omega, HB0⟩
    case round =>
      obtain ⟨j, rfl, hj, hB⟩ := hrel
      by_cases hlt : j < kn
      · have hsz : ((⟨#[107]⟩ : ByteArray) ++ key).size = 1 + key.size := by rw [ByteArray.size_append]; rfl
        have hput := lim_put ⟨⟨#[107]⟩ ++ key, ⟨#[118]⟩, false⟩ j (by show 1 ≤ ((⟨#[107]⟩ : ByteArray) ++ key).size; omega) (by show ((⟨#[107]⟩ : ByteArray) ++ key).size ≤ 64; omega) (by simp [ByteArray.size])
        have HN := Lib.hid (hB.out.put (⟨#[107]⟩ ++ key) ⟨#[118]⟩ (by omega))
        rw [hput] at HN
        clear hput hsz HB0 hB
        by_cases h64 : j < 64
        · rw [if_pos h64] at HN
          go_wp2_with fail
          refine HN.out.mono ?_
          rintro e w4 ⟨rfl, hB⟩
          have HB := Lib.hid hB
          clear HN hB
          go_wp2
          go_roundw
          case rel => exact ⟨j + 1, by go_num, by omega, HB⟩
          case measure => simp [intOf]; omega
        · rw [if_neg h64] at HN
          go_wp2_with fail
          refine HN.out.mono ?_
          rintro e w4 ⟨rfl, hB⟩
          have HB := Lib.hid hB
          clear HN hB
          go_wp2
          go_roundw
          case rel => exact ⟨j + 1, by go_num, by omega, HB⟩
          case measure => simp [intOf]; omega
      · obtain rfl : j = kn := by omega
        have hz : ∃ n : Nat, (n = if j = 0 then 0 else 1) ∧ (n = 1 ∧ 0 < j ∨ n = 0 ∧ j = 0) := ⟨if j = 0 then 0 else 1, rfl, by split <;> omega⟩
        obtain ⟨nw, hnw, hz⟩ := hz
        have HN := Lib.hid (hB.out.recLim hnw)
        have hm : ∃ m : Int, (lim ⟨⟨#[107]⟩ ++ key, ⟨#[118]⟩, false⟩ j).ops = m ∧ (64 < j ∧ m = 64 ∨ j ≤ 64 ∧ m = j) := ⟨_, rfl, by show _ ∧ ((min j 64 : Nat) : Int) = 64 ∨ _ ∧ ((min j 64 : Nat) : Int) = j; omega⟩
        obtain ⟨m, hm, hm2⟩ := hm
        have HM := Lib.hid hm
        clear HB0 hm hB hnw
        rcases hm2 with ⟨h64, rfl⟩ | ⟨h64, rfl⟩ <;> rcases hz with ⟨rfl, hj0⟩ | ⟨rfl, rfl⟩
        case inl.inr => omega
        all_goals
          go_wp2_with fail
          refine HN.out.mono ?_
          rintro e w4 ⟨R, nr, cr, W, cw, rfl, hB4⟩
          clear HN
        all_goals
          have hB5 := fun o => hB4.below ((Below.refl _ _).alloc (Nat.le_refl _) o)
          have HO := Lib.hid (fun o => (hB5 o).ops)
          rw [HM.out] at HO
          have HCL := Lib.hid (fun o => (hB5 o).close)
          clear hB5 hB4
          go_wp2_with fail
          refine (HO.out _).mono ?_
          rintro e w' ⟨rfl, rfl⟩
          clear HO
          go_wp2_with fail
          refine (HCL.out _).mono ?_
          rintro e w6 ⟨rfl, hP⟩
          have HC2 := Lib.hid hP.close
          have HO2 := Lib.hid hP.open_
          have HBG := Lib.hid (hP.begin false)
          clear hP HCL
          go_wp2_with fail
          refine HC2.out.mono ?_
          rintro e w' ⟨rfl, rfl⟩
          go_wp2_with fail
          refine HO2.out.mono ?_
          rintro e w' ⟨rfl, rfl⟩
          go_wp2_with fail
          refine HBG.out.mono ?_
          rintro e w7 ⟨rfl, hB7⟩
          have HO := Lib.hid hB7.ops
          have HPU := Lib.hid (Bo.put (s := Ses.start 1 0 false) hB7 ⟨#[97]⟩ ⟨#[98]⟩ (by simp [ByteArray.size]))
          rw [limA] at HPU
          clear hB7 HBG HC2 HO2
          go_wp2_with fail
          refine HO.out.mono ?_
          rintro e w' ⟨rfl, rfl⟩
          clear HO
          go_wp2_with fail
          refine HPU.out.mono ?_
          rintro e w8 ⟨rfl, hB8⟩
          have HB8 := Lib.hid hB8.be
          clear hB8 HPU
          go_wp2_with fail
          refine (lives_calls _).mono ?_
          rintro e w9 ⟨rfl, hb⟩
          have HB := Lib.hid hb
          clear hb
          go_wp2
          go_ret
          exact ⟨rfl, HB8.out.trans (HB.out.mono HB8.out.size)⟩
end Go.Proofs.Ytidfogcilegloaa
