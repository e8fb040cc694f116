import Derived.Test.YtkfndmbnfhhbiaaW16
/-! The document's Drop, Put and Over. -/
namespace Go.Proofs.Ytkfndmbnfhhbiaa
open Go.RowKit Go.Op

theorem rput2_calls (rb : Nat) (l : List Pair) (k v : ByteArray) (w : World) (h : RBuf w rb l) (hk : k.size ≤ 140737488351232) (hv : v.size ≤ 140737488351232) :
    Calls Try.prog 15 #[.pointer (some ⟨rb, 0, none⟩), .string k, .string v] w fun e w' => e = .returned (.int .i64 (rput l ⟨k, v, false⟩).1) ∧ RBuf w' rb (rput l ⟨k, v, false⟩).2 ∧ w.grownBy w' (some rb) := by
  have HW := Lib.hid (rput_calls rb l ⟨k, v, false⟩ w h hk hv)
  obtain ⟨r, hr⟩ : ∃ r, rput l ⟨k, v, false⟩ = r := ⟨_, rfl⟩
  rw [hr] at HW ⊢
  clear h hr
  go_enter Try.func15, Try.ntmps15
  go_wp2_with (go_at_call 27; refine HW.out.mono ?_; rintro e w' ⟨rfl, h1, h2⟩)
  go_ret
  exact ⟨rfl, h1, h2⟩
theorem rdrop_calls (rb : Nat) (l : List Pair) (k : ByteArray) (w : World) (h : RBuf w rb l) (hk : k.size ≤ 140737488351232) :
    Calls Try.prog 14 #[.pointer (some ⟨rb, 0, none⟩), .string k] w fun e w' => e = .returned (.int .i64 (rput l ⟨k, ⟨#[]⟩, true⟩).1) ∧ RBuf w' rb (rput l ⟨k, ⟨#[]⟩, true⟩).2 ∧ w.grownBy w' (some rb) := by
  have HW := Lib.hid (rput_calls rb l ⟨k, ⟨#[]⟩, true⟩ w h hk (Nat.zero_le _))
  obtain ⟨r, hr⟩ : ∃ r, rput l ⟨k, ⟨#[]⟩, true⟩ = r := ⟨_, rfl⟩
  rw [hr] at HW ⊢
  clear h hr
  go_enter Try.func14, Try.ntmps14
  go_wp2_with (go_at_call 27; refine HW.out.mono ?_; rintro e w' ⟨rfl, h1, h2⟩)
  go_ret
  exact ⟨rfl, h1, h2⟩

theorem filter_snoc {f : Pair → Bool} {L O : List Pair} {j : Nat} {p : Pair} (h : O = (L.take j).filter f) (hp : L[j]? = some p) :
    (f p = true → O ++ [p] = (L.take (j + 1)).filter f) ∧ (f p = false → O = (L.take (j + 1)).filter f) := by
  rw [List.take_add_one, hp, List.filter_append, ← h]
  constructor <;> intro hf <;> simp [hf]

set_option maxHeartbeats 4000000 in
theorem rover_calls (rb : Nat) (L l : List Pair) (A : Option Addr) (n c : Nat) (x y : ByteArray) (most : Int) (w : World) (h : RBuf w rb L) (hl : Sl tPair w (fun _ => True) (.slice A n c) l) (hn : n ≤ 100000) :
    Calls Try.prog 18 #[.pointer (some ⟨rb, 0, none⟩), .slice A n c, .string x, .string y, .int .i64 most] w fun e w' => ∃ v, e = .returned v ∧ Sl tPair w' (fun b => w.heap.size ≤ b) v (over L l x y most) ∧ Below w.heap.size w w' := by
  obtain ⟨A1, c1, h1, h2, h3, h4⟩ := h
  obtain ⟨n1, hn1⟩ : ∃ n1, L.length = n1 := ⟨_, rfl⟩
  rw [hn1] at h1 h2 h4
  have HLN := Lib.hid hn1
  have hcap := h2.length.2
  have HS := Lib.hid (h2.mono (ok' := fun _ => True) fun _ _ => trivial)
  have HL := Lib.hid hl
  have c0 := h1.cell 0
  have hX := Lib.hid (Below.refl w.heap.size w)
  have hO0 := Lib.hid (Own.nil tPair w w.heap.size 52 none_)
  obtain ⟨F, hF⟩ : ∃ F, L.filter (fun p => inR x y p.key) = F := ⟨_, rfl⟩
  unfold over
  rw [hF]
  have HF := Lib.hid hF
  clear h1 h2 h3 hl hn1 hF
  go_enter Try.func18, Try.ntmps18
  go_wp2
  go_loopw [11, 20] (fun v i wr => ∃ (j : Nat) (O : List Pair), i = .int .i64 j ∧ j ≤ n1 ∧ Hid (O = (L.take j).filter fun p => inR x y p.key) ∧ Hid (Own tPair wr w.heap.size 52 none_ v O) ∧ Hid (Below w.heap.size w wr) ∧ O.length ≤ j) (fun _ i _ => n1 - (intOf i).toNat)
  case atStart => exact ⟨0, [], rfl, by omega, rfl, hO0, hX, by simp⟩
  case round =>
    obtain ⟨j, O, rfl, hj, heq, hO, hB, hlen⟩ := hrel
    clear hX hO0 c0
    by_cases hlt : j < n1
    · obtain ⟨p, hp⟩ := some_at (show j < L.length by rw [HLN.out]; exact hlt)
      obtain ⟨g, off, rfl, hg, x0, x1, x2⟩ := sl_pair (HS.out.below hB.out) hp
      have hst := filter_snoc heq.out hp
      have HBa : Hid (Below w.heap.size w (wr.alloc (.cells #[.string p.key, .string p.val, .bool p.dead] 52))) := hB.out.alloc hB.out.size _
      have HOa : Hid (Own tPair (wr.alloc (.cells #[.string p.key, .string p.val, .bool p.dead] 52)) w.heap.size 52 none_ u11 O) := hO.out.alloc _
      have hK : Hid (tPair.K (wr.alloc (.cells #[.string p.key, .string p.val, .bool p.dead] 52)) (fun b => none_ b ∧ u11.ownBlock ≠ some b) p [.string p.key, .string p.val, .bool p.dead]) := rfl
      have hsz := hB.out.size
      clear hp heq hO
      cases h1 : bytesLess p.key.toList x.toList
      · cases h2 : bytesLess p.key.toList y.toList
        · have HST := Lib.hid (hst.2 (by simp [inR, klt, h2]))
          clear hst
          go_wp2
          go_roundw
          case rel => exact ⟨j + 1, O, by go_num, by omega, HST, HOa, HBa, by omega⟩
          case measure => simp [intOf]; omega
        · have HST := Lib.hid (hst.1 (by simp [inR, klt, h1, h2]))
          clear hst
          go_wp2_with (at_builtin; refine wpList_app1 (o := ⟨some 37, _, _, _, _, _⟩) (t := tPair) (w0 := w) (g := wr.heap.size + 1) (cs := [.string p.key, .string p.val, .bool p.dead]) (y := p) w.heap.size rfl _ _ 23 52 _ 40 rfl Try.underlying23 info52 rfl (by decide) (by decide) rfl ?c1 rfl HOa.out hK.out HBa.out ?c2 ?c3 ?_; (case c1 => simp); (case c2 => simp; omega); (case c3 => omega); intro v1 w9 hO9 hB9 hG9 _)
          have hO9' := Lib.hid hO9
          have hB9' := Lib.hid hB9
          clear hO9 hB9 hG9
          go_roundw
          case rel => exact ⟨j + 1, O ++ [p], by go_num, by omega, HST, hO9', hB9', by simp; omega⟩
          case measure => simp [intOf]; omega
      · have HST := Lib.hid (hst.2 (by simp [inR, klt, h1]))
        clear hst
        go_wp2
        go_roundw
        case rel => exact ⟨j + 1, O, by go_num, by omega, HST, HOa, HBa, by omega⟩
        case measure => simp [intOf]; omega
    · obtain rfl : O = F := by rw [heq.out, List.take_of_length_le (by rw [HLN.out]; omega), HF.out]
      have hsz := hB.out.size
      obtain ⟨A2, c2, rfl, -⟩ := hO.out.form
      obtain ⟨k2, hk2⟩ : ∃ k2, O.length = k2 := ⟨_, rfl⟩
      have hO2 := Lib.hid (hO.out.sl.mono (ok' := fun _ => True) fun _ _ => trivial)
      rw [hk2] at hO2 hlen ⊢
      have HRO := Lib.hid (roverlay_calls l O A A2 n c k2 c2 wr (HL.out.below hB.out) hO2.out hn (by omega))
      clear heq hO hk2 hO2 HF
      go_wp2_with fail
      refine HRO.out.mono ?_
      rintro e w3 ⟨v, rfl, hs3, hb3⟩
      obtain ⟨A3, c3, rfl, -⟩ := hs3.form
      obtain ⟨k, hk⟩ : ∃ k, (overlay l O).length = k := ⟨_, rfl⟩
      rw [hk] at hs3 ⊢
      have hcap3 := hs3.length.2
      have HK := Lib.hid hk
      have H3 : Hid (Sl tPair w3 (fun b => w.heap.size ≤ b) (.slice A3 k c3) (overlay l O)) := hs3.mono fun b hb => by omega
      have HB3 := Lib.hid (hB.out.trans (hb3.mono hsz))
      clear HRO hs3 hb3 hk
      by_cases hm : most < 0
      · have HM : Hid ((max most 0).toNat = 0) := by show _ = _; omega
        by_cases hk0 : k = 0
        · subst hk0
          go_wp2
          go_ret
          exact ⟨_, rfl, by rw [HM.out]; exact H3.out.take (k := 0) (by omega), HB3.out⟩
        · have hk1 : 0 < (k : Int) := by omega
          go_wp2
          go_ret
          exact ⟨_, rfl, by rw [HM.out]; exact H3.out.take (k := 0) (by omega), HB3.out⟩
      · obtain ⟨m, rfl⟩ : ∃ m : Nat, most = m := ⟨most.toNat, by omega⟩
        have HM : Hid ((max (m : Int) 0).toNat = m) := by show _ = _; omega
        by_cases hkm : m < k
        · have hk1 : (m : Int) < (k : Int) := by omega
          go_wp2
          go_ret
          exact ⟨_, rfl, by rw [HM.out]; exact H3.out.take (k := m) (by omega), HB3.out⟩
        · have hk1 : ¬ (m : Int) < (k : Int) := by omega
          go_wp2
          go_ret
          exact ⟨_, rfl, by rw [HM.out, List.take_of_length_le (by rw [HK.out]; omega)]; exact H3.out, HB3.out⟩
end Go.Proofs.Ytkfndmbnfhhbiaa
