import Derived.Test.YtkfndmbnfhhbiaaW8
/-! The document's example. -/
namespace Go.Proofs.Ytkfndmbnfhhbiaa
open Go.RowKit Go.Op

def pA : Pair := ⟨⟨#[97]⟩, ⟨#[]⟩, true⟩
def pB : Pair := ⟨⟨#[98]⟩, ⟨#[50]⟩, false⟩
def pA1 : Pair := ⟨⟨#[97]⟩, ⟨#[49]⟩, false⟩
def pC : Pair := ⟨⟨#[99]⟩, ⟨#[51]⟩, false⟩
theorem live1 : rput [] pB = (0, [pB]) := by
  simp [rput, hasK, put, low, pB, ByteArray.size]
theorem live2 : rput [pB] pA = (0, [pA, pB]) := by
  simp [rput, hasK, put, low, pB, pA, ByteArray.size, ByteArray.toList_eq, klt, bytesLess]
theorem live3 : over [pA, pB] [pA1, pC] ⟨#[]⟩ ⟨#[122]⟩ 10 = [pB, pC] := by
  have h : [pA, pB].filter (fun p => inR ⟨#[]⟩ ⟨#[122]⟩ p.key) = [pA, pB] := by simp [inR, pA, pB, klt, bytesLess, ByteArray.toList_eq]
  unfold over
  rw [h]
  have e1 : merge [pA1, pC] [pA, pB] = [pA, pB, pC] := by
    rw [merge_eq (by simp [pA1, pA, klt, bytesLess, ByteArray.toList_eq]) (by simp [pA1, pA]), merge_gt (by simp [pC, pB, klt, bytesLess, ByteArray.toList_eq]) (by simp [pC, pB, ByteArray.toList_eq]), merge_nil]
  rw [overlay, e1]
  simp [pA, pB, pC]
  rfl

set_option maxHeartbeats 2000000 in
theorem lives_calls (w : World) : Calls Try.prog 11 #[] w fun e w' => e = .returned (.bool true) ∧ Below w.heap.size w w' := by
  go_enter Try.func11, Try.ntmps11
  go_wp2_with fail
  refine (new_calls w).mono ?_
  rintro e w1 ⟨rfl, hB1, hb1⟩
  obtain ⟨z, hz⟩ : ∃ z, w.heap.size = z := ⟨_, rfl⟩
  rw [hz] at hB1 ⊢
  have HP := Lib.hid (put_calls (z + 1) z [] ⟨#[98]⟩ ⟨#[50]⟩ w1 hB1 (by simp [ByteArray.size]))
  have HB1 : Hid (Below z w w1) := by rw [← hz]; exact hb1
  rw [show rput [] ⟨⟨#[98]⟩, ⟨#[50]⟩, false⟩ = (0, [pB]) from live1] at HP
  clear hB1 hb1
  go_wp2_with fail
  refine HP.out.mono ?_
  rintro e w2 ⟨rfl, hB2, hg2⟩
  have HD := Lib.hid (drop_calls (z + 1) z [pB] ⟨#[97]⟩ w2 hB2 (by simp [ByteArray.size]))
  rw [show rput [pB] ⟨⟨#[97]⟩, ⟨#[]⟩, true⟩ = (0, [pA, pB]) from live2] at HD
  have HB2 : Hid (Below z w w2) := HB1.out.grown hg2 (by have := HB1.out.size; omega) (fun k e => by cases e; exact Nat.le_refl _)
  clear HP HB1 hB2 hg2
  go_wp2_with fail
  refine HD.out.mono ?_
  rintro e w3 ⟨rfl, hB3, hg3⟩
  have HB3 : Hid (Below z w w3) := HB2.out.grown hg3 (by have := HB2.out.size; omega) (fun k e => by cases e; exact Nat.le_refl _)
  have hG := Blk.new w3 #[.string ⟨#[97]⟩, .string ⟨#[49]⟩, .bool false, .string ⟨#[99]⟩, .string ⟨#[51]⟩, .bool false] 52
  have hba := (Below.refl w3.heap.size w3).alloc (Nat.le_refl _) (.cells #[.string ⟨#[97]⟩, .string ⟨#[49]⟩, .bool false, .string ⟨#[99]⟩, .string ⟨#[51]⟩, .bool false] 52)
  have hsl : Sl tPair (w3.alloc (.cells #[.string ⟨#[97]⟩, .string ⟨#[49]⟩, .bool false, .string ⟨#[99]⟩, .string ⟨#[51]⟩, .bool false] 52)) (fun _ => True) (.slice (some ⟨w3.heap.size, 0, none⟩) 2 2) [pA1, pC] :=
    ⟨_, 2, _, rfl, Nat.le_refl _, ⟨by omega, fun h => by cases h⟩, pair_cells _ _ _, .inr ⟨w3.heap.size, 0, rfl, trivial, fun j u hj => by rw [hG.cell (0 + j)]; simpa [pA1, pC, Pair.enc] using hj⟩⟩
  have HO := Lib.hid (over_calls (z + 1) z [pA, pB] [pA1, pC] _ 2 2 ⟨#[]⟩ ⟨#[122]⟩ 10 _ (hB3.below hba) hsl (by omega))
  rw [live3] at HO
  have HB4 : Hid (Below z w (w3.alloc (.cells #[.string ⟨#[97]⟩, .string ⟨#[49]⟩, .bool false, .string ⟨#[99]⟩, .string ⟨#[51]⟩, .bool false] 52))) := HB3.out.alloc (by have := HB3.out.size; omega) _
  clear HD HB2 HB3 hB3 hg3 hG hba hsl
  go_wp2_with fail
  refine HO.out.mono ?_
  rintro e w5 ⟨v, rfl, hs5, hb5⟩
  obtain ⟨A5, c5, rfl, -⟩ := hs5.form
  have hG5 := Blk.new w5 #[.string ⟨#[98]⟩, .string ⟨#[50]⟩, .bool false, .string ⟨#[99]⟩, .string ⟨#[51]⟩, .bool false] 52
  have hba5 := (Below.refl w5.heap.size w5).alloc (Nat.le_refl _) (.cells #[.string ⟨#[98]⟩, .string ⟨#[50]⟩, .bool false, .string ⟨#[99]⟩, .string ⟨#[51]⟩, .bool false] 52)
  have hsl5 : Sl tPair (w5.alloc (.cells #[.string ⟨#[98]⟩, .string ⟨#[50]⟩, .bool false, .string ⟨#[99]⟩, .string ⟨#[51]⟩, .bool false] 52)) (fun _ => True) (.slice (some ⟨w5.heap.size, 0, none⟩) 2 2) [pB, pC] :=
    ⟨_, 2, _, rfl, Nat.le_refl _, ⟨by omega, fun h => by cases h⟩, pair_cells _ _ _, .inr ⟨w5.heap.size, 0, rfl, trivial, fun j u hj => by rw [hG5.cell (0 + j)]; simpa [pB, pC, Pair.enc] using hj⟩⟩
  have HS := Lib.hid (same_calls [pB, pC] A5 _ 2 c5 2 _ ((hs5.mono fun _ _ => trivial).below hba5) hsl5)
  have HB5 : Hid (Below z w (w5.alloc (.cells #[.string ⟨#[98]⟩, .string ⟨#[50]⟩, .bool false, .string ⟨#[99]⟩, .string ⟨#[51]⟩, .bool false] 52))) := (HB4.out.trans (hb5.mono (by rw [← hz]; exact HB4.out.size))).alloc (by have := HB4.out.size; have := hb5.size; omega) _
  clear HO HB4 hs5 hb5 hG5 hba5 hsl5
  go_wp2_with fail
  refine HS.out.mono ?_
  rintro e w6 ⟨rfl, hb6⟩
  have HB6 : Hid (Below z w w6) := HB5.out.trans (hb6.mono (by rw [← hz]; exact HB5.out.size))
  clear HS HB5 hb6
  go_wp2
  go_ret
  exact ⟨rfl, by rw [hz]; exact HB6.out⟩
end Go.Proofs.Ytkfndmbnfhhbiaa
