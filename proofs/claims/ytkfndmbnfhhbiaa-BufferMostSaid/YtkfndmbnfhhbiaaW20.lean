import Derived.Test.YtkfndmbnfhhbiaaW6
import Derived.Test.YtkfndmbnfhhbiaaW9
import Derived.Laws.IdiomStrings
/-! BufferMost. -/
namespace Go.Proofs.Ytkfndmbnfhhbiaa
open Go.RowKit Go.Op

def suf (j : Nat) : ByteArray := ⟨#[UInt8.ofNat (97 + j / 10), UInt8.ofNat (48 + j % 10)]⟩
def kk (key : ByteArray) (j : Nat) : ByteArray := key ++ suf j
theorem kk_size (key : ByteArray) (j : Nat) : (kk key j).size = key.size + 2 := by rw [kk, ByteArray.size_append]; rfl
theorem kk_inj {key : ByteArray} {i j : Nat} (hi : i < 70) (hj : j < 70) (h : kk key i = kk key j) : i = j := by
  have h1 : (kk key i).data = (kk key j).data := by rw [h]
  simp only [kk, ByteArray.data_append] at h1
  have h2 := Array.append_inj_right' h1 (by simp [suf])
  simp only [suf, Array.mk.injEq, List.cons.injEq, and_true] at h2
  have e1 := congrArg UInt8.toNat h2.1
  have e2 := congrArg UInt8.toNat h2.2
  simp only [UInt8.toNat_ofNat'] at e1 e2
  omega
theorem hasK_put {L : List Pair} (hr : Rising L) (p : Pair) (k : ByteArray) : hasK (put L p) k = (decide (k = p.key) || hasK L k) := by
  rw [hasK_find, find_put hr, hasK_find]
  by_cases h : k = p.key <;> simp [h]
def Most (key : ByteArray) (i : Nat) (L : List Pair) : Prop := L.length = min i 64 ∧ ∀ j, j < 70 → hasK L (kk key j) = decide (j < min i 64)
theorem Most.zero (key : ByteArray) : Most key 0 [] := ⟨by simp, fun j _ => by simp [hasK]⟩
theorem Most.put {key : ByteArray} {i : Nat} {L : List Pair} (h : Most key i L) (hr : Rising L) (hi : i < 64) (v : ByteArray) (d : Bool) : Most key (i + 1) (Go.Proofs.Ytkfndmbnfhhbiaa.put L ⟨kk key i, v, d⟩) := by
  have hn := h.2 i (by omega)
  constructor
  · rw [put_length hr, show hasK L (kk key i) = false by rw [hn]; simp; omega]
    have := h.1
    simp; omega
  · intro j hj
    rw [hasK_put hr, h.2 j hj]
    by_cases e : j = i
    · subst e; simp; omega
    · have : kk key j ≠ kk key i := fun h => e (kk_inj hj (by omega) h)
      simp [this]; omega
theorem Most.stay {key : ByteArray} {i : Nat} {L : List Pair} (h : Most key i L) (hi : 64 ≤ i) : Most key (i + 1) L :=
  ⟨by rw [h.1]; omega, fun j hj => by rw [h.2 j hj]; congr 1; simp; omega⟩
theorem rput_new {L : List Pair} {p : Pair} (h1 : 1 ≤ p.key.size) (h2 : p.key.size ≤ 64) (h3 : p.val.size ≤ 256) (h4 : L.length < 64) : rput L p = (0, put L p) := by
  rw [rput, if_neg (by omega), if_neg (by omega)]
  cases hasK L p.key
  · rw [if_neg (by simp), if_neg (by omega)]
  · rw [if_pos rfl]
theorem rput_many {L : List Pair} {p : Pair} (h1 : 1 ≤ p.key.size) (h2 : p.key.size ≤ 64) (h3 : p.val.size ≤ 256) (h4 : 64 ≤ L.length) (h5 : hasK L p.key = false) : rput L p = (13, L) := by
  rw [rput, if_neg (by omega), if_neg (by omega), if_neg (by simp [h5]), if_pos h4]
theorem rput_has {L : List Pair} {p : Pair} (h1 : 1 ≤ p.key.size) (h2 : p.key.size ≤ 64) (h3 : p.val.size ≤ 256) (h5 : hasK L p.key = true) : rput L p = (0, put L p) := by
  rw [rput, if_neg (by omega), if_neg (by omega), if_pos h5]
theorem conv_run (W : World) (g j c : Nat) (hj : j < 70) (h0 : W.cell? ⟨g, 0, none⟩ = some (.int .u8 (97 + (j : Int) / 10))) (h1 : W.cell? ⟨g, 1, none⟩ = some (.int .u8 (48 + (j : Int) % 10))) :
    (convert 46 9 (.slice (some ⟨g, 0, none⟩) 2 c)).run Try.prog W = .ok (.string (suf j)) W := by
  refine run_convert_bytes_back (P := Try.prog) W 46 9 5 ⟨g, 0, none⟩ c [UInt8.ofNat (97 + j / 10), UInt8.ofNat (48 + j % 10)] Try.underlying46 Try.underlying5 Try.underlying9 ?_
  intro i hi
  rcases (by simp at hi; omega : i = 0 ∨ i = 1) with rfl | rfl
  · show W.cell? ⟨g, 0, none⟩ = _
    rw [h0]
    simp
    omega
  · show W.cell? ⟨g, 1, none⟩ = _
    rw [h1]
    simp
    omega

set_option maxHeartbeats 4000000 in
theorem most_calls (n : Int) (key : ByteArray) (w : World) (hn : 0 ≤ n ∧ n < 18446744073709551616) (hk : key.size ≤ 140737488351232) :
    Calls Try.prog 4 #[.int .u64 n, .string key] w fun e w' => e = .returned (.bool true) ∧ Below w.heap.size w w' := by
  obtain ⟨hn0, hn1⟩ := hn
  obtain ⟨k, hkn⟩ : ∃ k : Nat, 60 + n % 10 = (k : Int) := ⟨(60 + n % 10).toNat, by omega⟩
  have hk1 : 60 ≤ k := by omega
  have hk2 : k ≤ 69 := by omega
  go_enter Try.func4, Try.ntmps4
  by_cases hkl : 40 < key.size
  · have hkl' : (40 : Int) < (key.size : Int) := by omega
    go_wp2_with fail
    refine (lives_calls _).mono ?_
    rintro e w2 ⟨rfl, hb2⟩
    go_wp2
    go_ret
    exact ⟨rfl, hb2⟩
  · have hkl' : ¬ (40 : Int) < (key.size : Int) := by omega
    have hks : key.size ≤ 40 := by omega
    go_wp2_with fail
    refine (new_calls w).mono ?_
    rintro e w2 ⟨rfl, hB2, hb2⟩
    obtain ⟨z, hz⟩ : ∃ z, w.heap.size = z := ⟨_, rfl⟩
    rw [hz] at hB2 hb2 ⊢
    have HB2 := Lib.hid hB2
    have Hb2 := Lib.hid hb2
    have HM0 := Lib.hid (Most.zero key)
    clear hB2 hb2
    go_wp2
    go_loopw [7] (fun i wr => ∃ (j : Nat) (L : List Pair), i = .int .i64 j ∧ j ≤ k ∧ Hid (Buf wr (z + 1) z L) ∧ Hid (Most key j L) ∧ Hid (Below z w wr)) (fun i _ => k - (intOf i).toNat)
    case atStart => exact ⟨0, [], rfl, by omega, HB2, HM0, Hb2⟩
    case round =>
      obtain ⟨j, L, rfl, hj, hBu, hMo, hBe⟩ := hrel
      clear HB2 HM0 Hb2
      by_cases hlt : j < k
      · have hba := (Below.refl wr.heap.size wr).alloc (Nat.le_refl _) (.cells #[.int .u8 (97 + (j : Int) / 10), .int .u8 (48 + (j : Int) % 10)] 5)
        have HBl := Blk.new wr #[.int .u8 (97 + (j : Int) / 10), .int .u8 (48 + (j : Int) % 10)] 5
        have hcv := fun (c : Nat) => conv_run (wr.alloc (.cells #[.int .u8 (97 + (j : Int) / 10), .int .u8 (48 + (j : Int) % 10)] 5)) wr.heap.size j c (by omega) (HBl.cell 0) (HBl.cell 1)
        have hsz := kk_size key j
        have hsf : (suf j).size = 2 := rfl
        have hP := put_calls (z + 1) z L (kk key j) ⟨#[120]⟩ _ (hBu.out.below hba) (by omega)
        have HBE : Hid (Below z w (wr.alloc (.cells #[.int .u8 (97 + (j : Int) / 10), .int .u8 (48 + (j : Int) % 10)] 5))) := hBe.out.alloc (by rw [← hz]; rw [← hz] at hBe; exact hBe.out.size) _
        have hlen := hMo.out.1
        have hno : 64 ≤ j → hasK L (kk key j) = false := fun h => by rw [hMo.out.2 j (by omega)]; simp; omega
        have hzz : z ≤ wr.heap.size := by rw [← hz]; rw [← hz] at hBe; exact hBe.out.size
        clear hba HBl
        by_cases h64 : j < 64
        · rw [rput_new (by simp only []; omega) (by simp only []; omega) (of_decide_eq_true rfl) (by omega)] at hP
          have HM' := Lib.hid (hMo.out.put hBu.out.rising h64 ⟨#[120]⟩ false)
          have HP := Lib.hid hP
          clear hP hlen hno hMo hBu hBe hsz
          unfold kk at HP
          go_wp2_with fail
          refine HP.out.mono ?_
          rintro e w4 ⟨rfl, hB4, hg4⟩
          have R1 := Lib.hid hB4
          have R3 : Hid (Below z w w4) := HBE.out.grown hg4 (by simp; omega) (fun k e => by cases e; omega)
          clear hB4 hg4 HP hcv
          go_wp2
          go_roundw
          case rel => exact ⟨j + 1, _, by go_num, by omega, R1, HM', R3⟩
          case measure => simp [intOf]; omega
        · rw [rput_many (by simp only []; omega) (by simp only []; omega) (of_decide_eq_true rfl) (by omega) (hno (by omega))] at hP
          have HM' := Lib.hid (hMo.out.stay (by omega))
          have HP := Lib.hid hP
          clear hP hlen hno hMo hBu hBe hsz
          unfold kk at HP
          go_wp2_with fail
          refine HP.out.mono ?_
          rintro e w4 ⟨rfl, hB4, hg4⟩
          have R1 := Lib.hid hB4
          have R3 : Hid (Below z w w4) := HBE.out.grown hg4 (by simp; omega) (fun k e => by cases e; omega)
          clear hB4 hg4 HP hcv
          go_wp2
          go_roundw
          case rel => exact ⟨j + 1, _, by go_num, by omega, R1, HM', R3⟩
          case measure => simp [intOf]; omega
      · obtain rfl : j = k := by omega
        have hL := hMo.out.1
        have h0 := hMo.out.2 0 (by omega)
        have h1 := hMo.out.2 1 (by omega)
        rw [show decide (0 < min j 64) = true by simp; omega] at h0
        rw [show decide (1 < min j 64) = true by simp; omega] at h1
        have hs0 : (kk key 0).size = key.size + 2 := kk_size _ _
        have hs1 : (kk key 1).size = key.size + 2 := kk_size _ _
        have hr := hBu.out.rising
        have e0 : kk key 0 = key ++ ⟨#[97, 48]⟩ := rfl
        have e1 : kk key 1 = key ++ ⟨#[97, 49]⟩ := rfl
        obtain ⟨L1, hL1⟩ : ∃ L1, put L ⟨kk key 0, ⟨#[]⟩, true⟩ = L1 := ⟨_, rfl⟩
        have hl1 : L1.length = L.length := by rw [← hL1, put_length hr, h0]; rfl
        have hr1 : Rising L1 := by rw [← hL1]; exact put_rising hr _
        have h11 : hasK L1 (kk key 1) = true := by rw [← hL1, hasK_put hr, h1]; simp
        obtain ⟨L2, hL2⟩ : ∃ L2, put L1 ⟨kk key 1, ⟨#[121]⟩, false⟩ = L2 := ⟨_, rfl⟩
        have hl2 : L2.length = L.length := by rw [← hL2, put_length hr1, h11, ← hl1]; rfl
        have HDR : Hid (∀ W, Buf W (z + 1) z L → Calls Try.prog 24 #[.pointer (some ⟨z + 1, 0, none⟩), .string (key ++ ⟨#[97, 48]⟩)] W fun e w' => e = .returned (.int .i64 0) ∧ Buf w' (z + 1) z L1 ∧ W.grownBy w' (some z)) := fun W h => by
          have := drop_calls (z + 1) z L (kk key 0) W h (by omega)
          rw [rput_has (by simp only []; omega) (by simp only []; omega) (of_decide_eq_true rfl) h0, hL1] at this
          exact this
        have HPU : Hid (∀ W, Buf W (z + 1) z L1 → Calls Try.prog 21 #[.pointer (some ⟨z + 1, 0, none⟩), .string (key ++ ⟨#[97, 49]⟩), .string ⟨#[121]⟩] W fun e w' => e = .returned (.int .i64 0) ∧ Buf w' (z + 1) z L2 ∧ W.grownBy w' (some z)) := fun W h => by
          have := put_calls (z + 1) z L1 (kk key 1) ⟨#[121]⟩ W h (by omega)
          rw [rput_has (by simp only []; omega) (by simp only []; omega) (of_decide_eq_true rfl) h11, hL2] at this
          exact this
        have hzz : z ≤ wr.heap.size := by rw [← hz]; rw [← hz] at hBe; exact hBe.out.size
        have hwant : (64 < j ∧ L.length = 64) ∨ (¬ 64 < j ∧ L.length = j) := by omega
        clear hlt hL h0 h1 hs0 hs1 hr e0 e1 hL1 hr1 h11 hL2 hMo
        rcases hwant with ⟨h, hL⟩ | ⟨h, hL⟩
        case' inl =>
          have h' : (64 : Int) < (j : Int) := by omega
          have HLE : Hid (∀ W l, Buf W (z + 1) z l → l.length = L.length → Calls Try.prog 22 #[.pointer (some ⟨z + 1, 0, none⟩)] W fun e w' => e = .returned (.int .i64 64) ∧ W = w') := fun W l hb e => by
            have := len_calls (z + 1) z l W hb
            rw [e, hL] at this; exact this
          have HWR : Hid (∀ W, Buf W (z + 1) z L → Calls Try.prog 23 #[.pointer (some ⟨z + 1, 0, none⟩)] W fun e w' => ∃ A c, e = .returned (.slice A 64 c) ∧ Below W.heap.size W w') := fun W hb => (writes_calls (z + 1) z L W hb).mono fun e w' ⟨v, e1, h1, h2⟩ => by
            obtain ⟨A, c, e2, -⟩ := h1.form
            rw [hL] at e2
            exact ⟨A, c, by rw [e1, e2], h2⟩
          clear hL
          go_wp2_with fail
        case' inr =>
          have h' : ¬ (64 : Int) < (j : Int) := by omega
          have HLE : Hid (∀ W l, Buf W (z + 1) z l → l.length = L.length → Calls Try.prog 22 #[.pointer (some ⟨z + 1, 0, none⟩)] W fun e w' => e = .returned (.int .i64 (j : Int)) ∧ W = w') := fun W l hb e => by
            have := len_calls (z + 1) z l W hb
            rw [e, hL] at this; exact this
          have HWR : Hid (∀ W, Buf W (z + 1) z L → Calls Try.prog 23 #[.pointer (some ⟨z + 1, 0, none⟩)] W fun e w' => ∃ A c, e = .returned (.slice A j c) ∧ Below W.heap.size W w') := fun W hb => (writes_calls (z + 1) z L W hb).mono fun e w' ⟨v, e1, h1, h2⟩ => by
            obtain ⟨A, c, e2, -⟩ := h1.form
            rw [hL] at e2
            exact ⟨A, c, by rw [e1, e2], h2⟩
          clear hL
          go_wp2_with fail
        all_goals
          refine (HLE.out _ L hBu.out rfl).mono ?_
          rintro e w3 ⟨rfl, rfl⟩
          go_wp2_with fail
          refine (HWR.out _ hBu.out).mono ?_
          rintro e w4 ⟨A4, c4, rfl, hb4⟩
          have HB4 := Lib.hid (hBu.out.below hb4)
          have HE4 := Lib.hid (hBe.out.trans (hb4.mono hzz))
          have hz4 : z ≤ w4.heap.size := Nat.le_trans hzz hb4.size
          clear hb4
          go_wp2_with fail
          refine (HDR.out _ HB4.out).mono ?_
          rintro e w5 ⟨rfl, hB5, hg5⟩
          have HB5 := Lib.hid hB5
          have HE5 := Lib.hid (HE4.out.grown hg5 hz4 (fun k e => by cases e; exact Nat.le_refl _))
          have hz5 : z ≤ w5.heap.size := Nat.le_trans hz4 hg5.size
          clear hB5 hg5
          go_wp2_with fail
          refine (HPU.out _ HB5.out).mono ?_
          rintro e w6 ⟨rfl, hB6, hg6⟩
          have HB6 := Lib.hid hB6
          have HE6 := Lib.hid (HE5.out.grown hg6 hz5 (fun k e => by cases e; exact Nat.le_refl _))
          have hz6 : z ≤ w6.heap.size := Nat.le_trans hz5 hg6.size
          clear hB6 hg6
          go_wp2_with fail
          refine (HLE.out _ L2 HB6.out hl2).mono ?_
          rintro e w7 ⟨rfl, rfl⟩
          go_wp2_with fail
          refine (lives_calls _).mono ?_
          rintro e w8 ⟨rfl, hb8⟩
          have HE8 := Lib.hid (HE6.out.trans (hb8.mono hz6))
          clear hb8
          go_wp2
          go_ret
          exact ⟨rfl, by rw [hz]; exact HE8.out⟩
end Go.Proofs.Ytkfndmbnfhhbiaa
