import Derived.Test.YtnleldogmogkgaaW38
import Derived.Test.YtnleldogmogkgaaSto2
/-! What the document's store is asked: a key, a look-up. -/
namespace Go.Proofs.Ytnleldogmogkgaa
open Go.RowKit Go.Op

theorem rwrote_calls (rb : Nat) (v : Value) (X : List Nat) (S : Sto) (k : ByteArray) (n : Int) (w : World) (h : Rst w rb v X S) (hk : k.size ≤ 140737488351232) :
    Calls Try.prog 27 #[.pointer (some ⟨rb, 0, none⟩), .string k, .int .i64 n] w fun e w' => e = .returned (.bool (wrote S.ents k n)) ∧ Below w.heap.size w w' := by
  have HW := Lib.hid (rwithin_calls rb v X S k (k ++ ⟨#[0]⟩) n w h)
  rw [← wrote_point h.ok.rising] at HW
  obtain ⟨r, hr⟩ : ∃ r, wrote S.ents k n = r := ⟨_, rfl⟩
  rw [hr] at HW ⊢
  clear h hr
  go_enter Try.func27, Try.ntmps27
  go_wp2_with fail
  refine HW.out.mono ?_
  rintro e w7 ⟨rfl, hb⟩
  go_wp2
  go_ret
  exact ⟨rfl, hb⟩

theorem getS_hit {S : Sto} {k : ByteArray} {n : Int} {e : Ent} {v : Ver} (hok : S.Ok) (hm : may S n = 0) (he : e ∈ S.ents) (hk : e.key = k) (hg : get e.c n = some v) : getS S k n = (v.val, 0) := by
  subst hk
  unfold getS
  rw [if_pos hm, chainOf_mem hok.rising he, hg]
theorem getS_miss {S : Sto} {k : ByteArray} {n : Int} (hok : S.Ok) (hm : may S n = 0) (h : S.ents.any (fun e => (e.key.toList == k.toList) && (get e.c n).isSome) = false) : getS S k n = (⟨#[]⟩, 8) := by
  unfold getS
  rw [if_pos hm]
  cases hf : findK S.ents k with
  | none => rw [chainOf_none hf]; rfl
  | some e =>
    obtain ⟨he, rfl⟩ := findK_some hf
    rw [chainOf_mem hok.rising he]
    rw [List.any_eq_false] at h
    have := h e he
    cases hg : get e.c n with
    | none => rfl
    | some v => rw [hg] at this; simp at this

set_option maxHeartbeats 2000000 in
theorem rget2_calls (rb : Nat) (v : Value) (X : List Nat) (S : Sto) (k : ByteArray) (n : Int) (w : World) (h : Rst w rb v X S) :
    Calls Try.prog 45 #[.pointer (some ⟨rb, 0, none⟩), .string k, .int .i64 n] w fun e w' => e = .returned (.tuple #[.string (getS S k n).1, .int .i64 (getS S k n).2]) ∧ Below w.heap.size w w' := by
  obtain ⟨c0, -, -⟩ := h.cells
  obtain ⟨A, c, rfl, hs⟩ := h.sl
  obtain ⟨hln, hcap, hcm⟩ := hs.length
  obtain ⟨q, hq⟩ : ∃ q, S.ents.length = q := ⟨_, rfl⟩
  have hn0 := h.few
  have HM := Lib.hid (rmay_calls rb _ X S n w h)
  rw [hq] at hs c0 hcap hn0
  have HN := Lib.hid hq
  have HS := Lib.hid hs
  have HOK := Lib.hid h.ok
  have HX0 := Lib.hid (Below.refl w.heap.size w)
  obtain ⟨m, hm⟩ : ∃ m, may S n = m := ⟨_, rfl⟩
  have HMM := Lib.hid hm
  obtain ⟨gv, gf, hg⟩ : ∃ v f, getS S k n = (v, f) := ⟨_, _, rfl⟩
  rw [hg]
  have HG := Lib.hid hg
  rw [hm] at HM
  clear h hs hq hln hm hg
  go_enter Try.func45, Try.ntmps45
  go_wp2_with fail
  refine HM.out.mono ?_
  rintro e w' ⟨rfl, rfl⟩
  by_cases h0 : m = 0
  · subst h0
    go_wp2
    go_loopw [24] (fun i wr => ∃ j : Nat, i = .int .i64 j ∧ j ≤ q ∧ Hid ((S.ents.take j).any (fun e => (e.key.toList == k.toList) && (get e.c n).isSome) = false) ∧ Hid (Below w.heap.size w wr)) (fun i _ => q - (intOf i).toNat)
    case atStart => exact ⟨0, rfl, by omega, rfl, HX0⟩
    case round =>
      obtain ⟨j, rfl, hj, hA, hB⟩ := hrel
      clear HX0
      by_cases hlt : j < q
      · obtain ⟨e, he⟩ := some_at (show j < S.ents.length by rw [HN.out]; exact hlt)
        obtain ⟨b, off, P, m, cp, rfl, hbl, x0, x1, hP⟩ := sl_key (HS.out.below hB.out) he
        obtain ⟨w7, hw7⟩ : ∃ w7, wr.alloc (.cells #[.string e.key, .slice P m cp] 88) = w7 := ⟨_, rfl⟩
        have hb7 : Below wr.heap.size wr w7 := by rw [← hw7]; exact (Below.refl _ _).alloc (Nat.le_refl _) _
        have hV7 : Blk w7 wr.heap.size #[.string e.key, .slice P m cp] 88 := by rw [← hw7]; exact Blk.new _ _ _
        have HB7 := Lib.hid (hB.out.trans (hb7.mono hB.out.size))
        have hGE := rget_calls e.c P m cp n w7 (hP.below hb7)
        have HE := Lib.hid he
        have y0 := hV7.cell 0
        have y1 := hV7.cell 1
        clear hb7 hV7 hP he
        obtain ⟨o, ho⟩ : ∃ o, get e.c n = o := ⟨_, rfl⟩
        rw [ho] at hGE
        have HGE := Lib.hid hGE
        clear hGE
        cases h5 : (e.key.toList == k.toList)
        · have R : Hid ((S.ents.take (j + 1)).any (fun e => (e.key.toList == k.toList) && (get e.c n).isSome) = false) := by show _ = _; rw [any_take HE.out, hA.out, h5]; rfl
          clear ho HGE
          go_wp2
          go_roundw
          case rel => exact ⟨j + 1, by go_num, by omega, R, HB7⟩
          case measure => simp [intOf]; omega
        · cases o with
          | none =>
            have R : Hid ((S.ents.take (j + 1)).any (fun e => (e.key.toList == k.toList) && (get e.c n).isSome) = false) := by show _ = _; rw [any_take HE.out, hA.out, h5, ho]; rfl
            clear ho
            simp only [getV, Option.getD, Option.isSome, Ver.enc, Ver.zero] at HGE
            go_wp2_with fail
            refine HGE.out.mono ?_
            rintro e8 w8 ⟨rfl, hb8⟩
            have HB8 := Lib.hid ((HB7.out.trans (hb8.mono HB7.out.size)).alloc (HB7.out.trans (hb8.mono HB7.out.size)).size (.cells #[.int .i64 0, .string ⟨#[]⟩, .bool false] 99))
            clear hb8 HGE y0 y1
            go_wp2
            go_roundw
            case rel => exact ⟨j + 1, by go_num, by omega, R, HB8⟩
            case measure => simp [intOf]; omega
          | some v =>
            have hkk : e.key = k := by rw [beq_key, decide_eq_true_eq] at h5; exact h5
            have hgg := getS_hit HOK.out HMM.out (List.mem_of_getElem? HE.out) hkk ho
            rw [HG.out] at hgg
            injection hgg with e1 e2
            subst e1 e2
            clear ho hkk
            simp only [getV, Option.getD, Option.isSome, Ver.enc] at HGE
            go_wp2_with fail
            refine HGE.out.mono ?_
            rintro e8 w8 ⟨rfl, hb8⟩
            have HB8 := Lib.hid ((HB7.out.trans (hb8.mono HB7.out.size)).alloc (HB7.out.trans (hb8.mono HB7.out.size)).size (.cells #[.int .i64 v.at_, .string v.val, .bool v.dead] 99))
            clear hb8 HGE y0 y1
            go_wp2
            refine bodyPost_ret (v := .tuple #[.string v.val, .int .i64 0]) (by simp [results, Try.results45, go_sem]) rfl ⟨rfl, HB8.out⟩
      · obtain rfl : j = q := by omega
        have hA0 := hA.out
        rw [List.take_of_length_le (by rw [HN.out]; exact Nat.le_refl _)] at hA0
        have hgg := getS_miss HOK.out HMM.out hA0
        rw [HG.out] at hgg
        injection hgg with e1 e2
        subst e1 e2
        clear hA0 hA
        go_wp2
        refine bodyPost_ret (v := .tuple #[.string ⟨#[]⟩, .int .i64 8]) (by simp [results, Try.results45, go_sem]) rfl ⟨rfl, hB.out⟩
  · have h0' : (m != 0) = true := by simpa using h0
    have h0'' : (m == 0) = false := by simpa using h0
    have hgg : getS S k n = (⟨#[]⟩, m) := by unfold getS; rw [HMM.out, if_neg h0]
    rw [HG.out] at hgg
    injection hgg with e1 e2
    subst e1 e2
    clear h0 c0 HM
    go_wp2
    refine bodyPost_ret (v := .tuple #[.string ⟨#[]⟩, .int .i64 gf]) (by simp [results, Try.results45, go_sem]) rfl ⟨rfl, Below.refl _ _⟩
end Go.Proofs.Ytnleldogmogkgaa
