import Derived.Test.YtdoigefmmjhjcaaW9
namespace Go.Proofs.Ytdoigefmmjhjcaa
open Go.RowKit

def liveList : List Ver := [⟨1, ⟨#[97]⟩, false⟩, ⟨3, ⟨#[]⟩, true⟩, ⟨5, ⟨#[98]⟩, false⟩]
theorem live_good : good liveList = true := by simp [good, goodFrom, liveList, Ver.right]
theorem live_2 : get liveList 2 = some ⟨1, ⟨#[97]⟩, false⟩ := by rw [get, if_pos live_good]; rfl
theorem live_4 : get liveList 4 = none := by rw [get, if_pos live_good]; rfl
theorem live_trim : trim liveList 4 = [⟨5, ⟨#[98]⟩, false⟩] := by rw [trim, if_pos live_good]; rfl

theorem getV_some (x : Ver) : getV (some x) = .tuple #[.agg #[.int .i64 x.at_, .string x.val, .bool x.dead], .bool true] := rfl
theorem getV_none : getV none = .tuple #[.agg #[.int .i64 0, .string ⟨#[]⟩, .bool false], .bool false] := rfl

set_option maxHeartbeats 1000000 in
theorem lives_calls (w : World) : Calls Try.prog 10 #[] w fun e w' => e = .returned (.bool true) ∧ Below w.heap.size w w' := by
  have hb0 : Below w.heap.size w (w.alloc (.cells #[.int .i64 1, .string ⟨#[97]⟩, .bool false, .int .i64 3, .string ⟨#[]⟩, .bool true, .int .i64 5, .string ⟨#[98]⟩, .bool false] 27)) := (Below.refl _ _).alloc (Nat.le_refl _) _
  have hS : Hid (Sl tVer (w.alloc (.cells #[.int .i64 1, .string ⟨#[97]⟩, .bool false, .int .i64 3, .string ⟨#[]⟩, .bool true, .int .i64 5, .string ⟨#[98]⟩, .bool false] 27)) (fun _ => True) (.slice (some ⟨w.heap.size, 0, none⟩) 3 3) liveList) :=
    ⟨_, 3, _, rfl, Nat.le_refl _, ⟨by omega, fun h => by cases h⟩, ⟨_, _, rfl, rfl, ⟨_, _, rfl, rfl, ⟨_, _, rfl, rfl, rfl⟩⟩⟩, .inr ⟨w.heap.size, 0, rfl, trivial, fun j u hj => by rw [(Blk.new w _ 27).cell (0 + j)]; simpa [Ver.enc] using hj⟩⟩
  have HB := Lib.hid hb0
  clear hb0
  go_enter Try.func10, Try.ntmps10
  go_wp2_with fail
  refine (get_calls _ _ _ _ 2 _ hS.out (by omega)).mono ?_
  rw [live_2]
  rintro e w1 ⟨rfl, hb1⟩
  have hw1 := HB.out.trans (hb1.mono (by simp))
  have hS1 := Lib.hid (hS.out.below hb1)
  have hz1 := hb1.size
  have hz1 : w.heap.size < w1.heap.size := by simp at hz1; exact hz1
  clear hb1 hS HB
  generalize hgz : w.heap.size = g at *
  have HG := Lib.hid hgz
  clear hgz
  rw [getV_some]
  go_wp2_with fail
  have hw2 := hw1.alloc (by omega : g ≤ w1.heap.size) (.cells #[.int .i64 1, .string ⟨#[97]⟩, .bool false] 27)
  have hB2 := Lib.hid (Blk.new w1 #[.int .i64 1, .string ⟨#[97]⟩, .bool false] 27)
  have hS2 := Lib.hid (hS1.out.below ((Below.refl _ _).alloc (Nat.le_refl _) (.cells #[.int .i64 1, .string ⟨#[97]⟩, .bool false] 27)))
  have hz2 : w1.heap.size < (w1.alloc (.cells #[.int .i64 1, .string ⟨#[97]⟩, .bool false] 27)).heap.size := by simp
  generalize w1.alloc (.cells #[.int .i64 1, .string ⟨#[97]⟩, .bool false] 27) = w2 at *
  generalize w1.heap.size = g1 at *
  refine (get_calls _ _ _ _ 4 _ hS2.out (by omega)).mono ?_
  rw [live_4]
  rintro e w3 ⟨rfl, hb3⟩
  have hB3 := Lib.hid (hB2.out.below hb3 hz2)
  have hS3 := Lib.hid (hS2.out.below hb3)
  have hw3 := hw2.trans (hb3.mono (by omega))
  have hz3 := hb3.size
  rw [getV_none]
  clear hS1 hS2 hB2 hb3
  go_wp2_with fail
  have hw4 := hw3.alloc (by omega : g ≤ w3.heap.size) (.cells #[.int .i64 0, .string ⟨#[]⟩, .bool false] 27)
  have hS4 := Lib.hid (hS3.out.below ((Below.refl _ _).alloc (Nat.le_refl _) (.cells #[.int .i64 0, .string ⟨#[]⟩, .bool false] 27)))
  have hB4 := Lib.hid (hB3.out.alloc (.cells #[.int .i64 0, .string ⟨#[]⟩, .bool false] 27))
  have hz4 : w3.heap.size < (w3.alloc (.cells #[.int .i64 0, .string ⟨#[]⟩, .bool false] 27)).heap.size := by simp
  generalize w3.alloc (.cells #[.int .i64 0, .string ⟨#[]⟩, .bool false] 27) = w4 at *
  refine (trim_calls _ _ _ _ 4 _ hS4.out (by omega)).mono ?_
  rw [live_trim]
  rintro e w5 ⟨v, rfl, hv, hb5⟩
  obtain ⟨A', cap', rfl, hle, hcm, hcn⟩ := hv.form
  obtain ⟨b, off, rfl, hbl, c0, c1, c2⟩ := sl_ver hv (i := 0) rfl
  obtain ⟨d0, d1, d2⟩ := Blk.three (hB4.out.below hb5 (by omega))
  have hw5 := hw4.trans (hb5.mono (by omega))
  have c0' : w5.cell? ⟨b, off, none⟩ = some (.int .i64 5) := by simpa using c0
  clear c0 c1 c2
  clear hS3 hS4 hB3 hB4 hv hb5
  go_wp2
  go_ret
  exact ⟨rfl, by rw [HG.out]; exact hw5⟩
end Go.Proofs.Ytdoigefmmjhjcaa
