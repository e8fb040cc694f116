import Derived.Test.YtnleldogmogkgaaW39
import Derived.Test.YtnleldogmogkgaaW29
import Derived.Test.YtnleldogmogkgaaSto4
/-! The document's ranges. -/
namespace Go.Proofs.Ytnleldogmogkgaa
open Go.RowKit Go.Op

theorem take_more {α : Type} {s : List α} {p : α} {m : Nat} (h : (s.take m).length < m) : (s ++ [p]).take m = s.take m ++ [p] := by
  rw [List.length_take] at h
  rw [List.take_append, List.take_of_length_le (l := s) (by omega), List.take_of_length_le (l := [p]) (by simp; omega)]
theorem take_full {α : Type} {s : List α} {p : α} {m : Nat} (h : m ≤ (s.take m).length) : (s ++ [p]).take m = s.take m := by
  rw [List.length_take] at h
  rw [List.take_append, show m - s.length = 0 by omega, List.take_zero, List.append_nil]
theorem scan_take {E : List Ent} {j : Nat} {e : Ent} (he : E[j]? = some e) (x y : ByteArray) (n : Int) : scan (E.take (j + 1)) x y n = scan (E.take j) x y n ++ (pick x y n e).toList := by
  unfold scan
  rw [List.take_add_one, he, List.filterMap_append]
  cases h : pick x y n e <;> simp [h]

set_option maxHeartbeats 4000000 in
theorem rscan_calls (rb : Nat) (v : Value) (X : List Nat) (S : Sto) (x y : ByteArray) (n most : Int) (w : World) (h : Rst w rb v X S) :
    Calls Try.prog 44 #[.pointer (some ⟨rb, 0, none⟩), .string x, .string y, .int .i64 n, .int .i64 most] w fun e w' => ∃ v, e = .returned (.tuple #[v, .int .i64 (scanS S x y n most).2]) ∧ Sl tPair w' (fun b => w.heap.size ≤ b) v (scanS S x y n most).1 ∧ Below w.heap.size w w' := by
  obtain ⟨c0, -, -⟩ := h.cells
  obtain ⟨A, c, rfl, hs⟩ := h.sl
  obtain ⟨hln, hcap, hcm⟩ := hs.length
  obtain ⟨q, hq⟩ : ∃ q, S.ents.length = q := ⟨_, rfl⟩
  have hn0 := h.few
  have HM := Lib.hid (rmay_calls rb _ X S n w h)
  rw [hq] at hs c0 hcap hn0
  have HN := Lib.hid hq
  have HS := Lib.hid hs
  have HOK := Lib.hid h.ok
  have HX0 := Lib.hid (Below.refl w.heap.size w)
  unfold scanS
  obtain ⟨m, hm⟩ : ∃ m, may S n = m := ⟨_, rfl⟩
  have HMM := Lib.hid hm
  rw [hm] at HM ⊢
  clear h hs hq hln hm
  go_enter Try.func44, Try.ntmps44
  go_wp2_with fail
  refine HM.out.mono ?_
  rintro e w' ⟨rfl, rfl⟩
  by_cases h0 : m = 0
  · subst h0
    have HO0 : Hid (Own tPair w w.heap.size 35 none_ (.slice none 0 0) ((scan (S.ents.take 0) x y n).take most.toNat)) := by
      show Own _ _ _ _ _ _ _
      simp only [List.take_zero, scan, List.filterMap_nil, List.take_nil]
      exact Own.nil _ _ _ _ _
    go_wp2
    go_loopw [13, 29] (fun vl i wr => ∃ (j : Nat) (PL : Option Addr) (len cL : Nat), i = .int .i64 j ∧ j ≤ q ∧ vl = .slice PL len cL ∧ Hid (Own tPair wr w.heap.size 35 none_ (.slice PL len cL) ((scan (S.ents.take j) x y n).take most.toNat)) ∧ Hid (Below w.heap.size w wr)) (fun _ i _ => q - (intOf i).toNat)
    case atStart => exact ⟨0, none, 0, 0, rfl, by omega, rfl, HO0, HX0⟩
    case round =>
      obtain ⟨j, PL, len, cL, rfl, hj, rfl, hO, hB⟩ := hrel
      clear HO0 HX0
      have hlen := hO.out.sl.length.1
      by_cases hlt : j < q
      · obtain ⟨e, he⟩ := some_at (show j < S.ents.length by rw [HN.out]; exact hlt)
        obtain ⟨b, off, P, m, cp, rfl, hbl, x0, x1, hP⟩ := sl_key (HS.out.below hB.out) he
        obtain ⟨w7, hw7⟩ : ∃ w7, wr.alloc (.cells #[.string e.key, .slice P m cp] 88) = w7 := ⟨_, rfl⟩
        have hb7 : Below wr.heap.size wr w7 := by rw [← hw7]; exact (Below.refl _ _).alloc (Nat.le_refl _) _
        have hV7 : Blk w7 wr.heap.size #[.string e.key, .slice P m cp] 88 := by rw [← hw7]; exact Blk.new _ _ _
        have HB7 := Lib.hid (hB.out.trans (hb7.mono hB.out.size))
        have HE7 := Lib.hid hV7
        have HO7 := Lib.hid (hO.out.below hb7)
        have hGE := rget_calls e.c P m cp n w7 (hP.below hb7)
        have y0 := hV7.cell 0
        have y1 := hV7.cell 1
        have hst := scan_take he x y n
        have hlq : len ≤ 100000 := by
          have h1 := scan_length (S.ents.take j) x y n
          rw [← hlen, List.length_take]
          have := List.length_take_le j S.ents
          omega
        have hwz : w.heap.size ≤ wr.heap.size := hB.out.size
        clear hb7 hV7 hP he hB hO
        obtain ⟨o, ho⟩ : ∃ o, get e.c n = o := ⟨_, rfl⟩
        rw [ho] at hGE
        have HGE := Lib.hid hGE
        clear hGE
        unfold pick at hst
        rw [ho] at hst
        cases o with
        | none =>
          have hst' : scan (S.ents.take (j + 1)) x y n = scan (S.ents.take j) x y n := by rw [hst]; simp
          have HST := Lib.hid hst'
          simp only [getV, Option.getD, Option.isSome, Ver.enc, Ver.zero] at HGE
          clear hst hst' ho
          go_wp2_with fail
          refine HGE.out.mono ?_
          rintro e8 w6 ⟨rfl, hb6⟩
          obtain ⟨z6, hz6⟩ : ∃ z6, w6.heap.size = z6 := ⟨_, rfl⟩
          have hb8 : Below w7.heap.size w7 (w6.alloc (.cells #[.int .i64 0, .string ⟨#[]⟩, .bool false] 99)) := by exact hb6.alloc hb6.size _
          have hz8 : (w6.alloc (.cells #[.int .i64 0, .string ⟨#[]⟩, .bool false] 99)).heap.size = z6 + 1 := by simp [hz6]
          have hV8 : Blk (w6.alloc (.cells #[.int .i64 0, .string ⟨#[]⟩, .bool false] 99)) z6 #[.int .i64 0, .string ⟨#[]⟩, .bool false] 99 := by rw [← hz6]; exact Blk.new _ _ _
          have hE8 := HE7.out.below hb8 HE7.out.lt
          have HB8 := Lib.hid (HB7.out.trans (hb8.mono HB7.out.size))
          have HO8 := Lib.hid (HO7.out.below hb8)
          have y0 := hE8.cell 0
          have y1 := hV8.cell 1
          clear hb6 hb8 hV8 hE8 HGE HE7 HB7 HO7
          have R : Hid (Own tPair (w6.alloc (.cells #[.int .i64 0, .string ⟨#[]⟩, .bool false] 99)) w.heap.size 35 none_ (.slice PL len cL) ((scan (S.ents.take (j + 1)) x y n).take most.toNat)) := by
            show Own _ _ _ _ _ _ _
            rw [HST.out]
            exact HO8.out
          clear y0 y1
          go_wp2
          go_roundw
          case rel => exact ⟨j + 1, PL, len, cL, by go_num, by omega, rfl, R, HB8⟩
          case measure => simp [intOf]; omega
        | some v =>
          simp only [getV, Option.getD, Option.isSome, Ver.enc] at HGE
          have HST := Lib.hid hst
          clear hst ho
          go_wp2_with fail
          refine HGE.out.mono ?_
          rintro e8 w6 ⟨rfl, hb6⟩
          obtain ⟨z6, hz6⟩ : ∃ z6, w6.heap.size = z6 := ⟨_, rfl⟩
          obtain ⟨w8, hw8⟩ : ∃ w8, w6.alloc (.cells #[.int .i64 v.at_, .string v.val, .bool v.dead] 99) = w8 := ⟨_, rfl⟩
          have hb8 : Below w7.heap.size w7 w8 := by rw [← hw8]; exact hb6.alloc hb6.size _
          have hz8 : w8.heap.size = z6 + 1 := by rw [← hw8]; simp [hz6]
          have hV8 : Blk w8 z6 #[.int .i64 v.at_, .string v.val, .bool v.dead] 99 := by rw [← hw8, ← hz6]; exact Blk.new _ _ _
          have hE8 := HE7.out.below hb8 HE7.out.lt
          have HB8 := Lib.hid (HB7.out.trans (hb8.mono HB7.out.size))
          have HO8 := Lib.hid (HO7.out.below hb8)
          have y0 := hE8.cell 0
          have y1 := hV8.cell 1
          clear hb6 hb8 hV8 hE8 HGE HE7 HB7 HO7
          cases h5 : klt e.key x
          · cases h6 : klt e.key y
            · have hin : inR x y e.key = false := by simp [inR, h6]
              have hst' : scan (S.ents.take (j + 1)) x y n = scan (S.ents.take j) x y n := by rw [HST.out, hin]; simp
              have h5' : bytesLess e.key.toList x.toList = false := h5
              have h6' : bytesLess e.key.toList y.toList = false := h6
              have R : Hid (Own tPair w8 w.heap.size 35 none_ (.slice PL len cL) ((scan (S.ents.take (j + 1)) x y n).take most.toNat)) := by
                show Own _ _ _ _ _ _ _
                rw [hst']
                exact HO8.out
              clear hst' hin h5 h6
              go_wp2
              go_roundw
              case rel => exact ⟨j + 1, PL, len, cL, by go_num, by omega, rfl, R, HB8⟩
              case measure => simp [intOf]; omega
            · have hin : inR x y e.key = true := by simp [inR, h5, h6]
              have hst' : scan (S.ents.take (j + 1)) x y n = scan (S.ents.take j) x y n ++ [⟨e.key, v.val, false⟩] := by rw [HST.out, hin]; simp
              have h5' : bytesLess e.key.toList x.toList = false := h5
              have h6' : bytesLess e.key.toList y.toList = true := h6
              by_cases hmo : (len : Int) < most
              · have htk := take_more (s := scan (S.ents.take j) x y n) (p := ⟨e.key, v.val, false⟩) (m := most.toNat) (by rw [hlen]; omega)
                rw [← hst'] at htk
                have HTK := Lib.hid htk
                have HLE := Lib.hid hlen
                clear hst' hin h5 h6 hlen htk HST
                have hKk : Hid (tPair.K w8 (fun b => none_ b ∧ (Value.slice PL len cL).ownBlock ≠ some b) ⟨e.key, v.val, false⟩ [.string e.key, .string v.val, .bool false]) := rfl
                go_wp2_with (at_builtin
                             refine wpList_app1 (o := ⟨some 66, _, _, _, _, _⟩) (t := tPair) (w0 := w8) (g := z6 + 1) (cs := [.string e.key, .string v.val, .bool false]) (y := ⟨e.key, v.val, false⟩) w.heap.size rfl _ _ 23 35 _ 40 rfl Try.underlying23 info35 rfl (by decide) (by decide) rfl hz8 rfl HO8.out hKk.out (Below.refl _ _) ?c2 ?c3 ?_
                             (case c2 => exact HB8.out.size)
                             (case c3 => rw [HLE.out]; omega)
                             intro v9 w9 hO9 hB9 hg9 hv9
                             obtain ⟨P9, c9, rfl, -⟩ := hO9.form
                             obtain ⟨k9, hk9⟩ : ∃ q, ((scan (S.ents.take j) x y n).take most.toNat ++ [(⟨e.key, v.val, false⟩ : Pair)]).length = q := ⟨_, rfl⟩
                             rw [hk9] at hO9 hv9 ⊢
                             have HB9 := Lib.hid (HB8.out.trans hB9)
                             have HO9 := Lib.hid hO9
                             clear hO9 hB9 hg9 hv9 hk9)
                have R : Hid (Own tPair w9 w.heap.size 35 none_ (.slice P9 k9 c9) ((scan (S.ents.take (j + 1)) x y n).take most.toNat)) := by
                  show Own _ _ _ _ _ _ _
                  rw [HTK.out]
                  exact HO9.out
                clear HO9 HO8 HTK HLE y0 y1
                go_roundw
                case rel => exact ⟨j + 1, P9, k9, c9, by go_num, by omega, rfl, R, HB9⟩
                case measure => simp [intOf]; omega
              · have htk := take_full (s := scan (S.ents.take j) x y n) (p := ⟨e.key, v.val, false⟩) (m := most.toNat) (by rw [hlen]; omega)
                rw [← hst'] at htk
                have R : Hid (Own tPair w8 w.heap.size 35 none_ (.slice PL len cL) ((scan (S.ents.take (j + 1)) x y n).take most.toNat)) := by
                  show Own _ _ _ _ _ _ _
                  rw [htk]
                  exact HO8.out
                clear hst' hin h5 h6 htk
                go_wp2
                go_roundw
                case rel => exact ⟨j + 1, PL, len, cL, by go_num, by omega, rfl, R, HB8⟩
                case measure => simp [intOf]; omega
          · have hin : inR x y e.key = false := by simp [inR, h5]
            have hst' : scan (S.ents.take (j + 1)) x y n = scan (S.ents.take j) x y n := by rw [HST.out, hin]; simp
            have h5' : bytesLess e.key.toList x.toList = true := h5
            have R : Hid (Own tPair w8 w.heap.size 35 none_ (.slice PL len cL) ((scan (S.ents.take (j + 1)) x y n).take most.toNat)) := by
              show Own _ _ _ _ _ _ _
              rw [hst']
              exact HO8.out
            clear hst' hin h5
            go_wp2
            go_roundw
            case rel => exact ⟨j + 1, PL, len, cL, by go_num, by omega, rfl, R, HB8⟩
            case measure => simp [intOf]; omega
      · obtain rfl : j = q := by omega
        go_wp2
        refine bodyPost_ret (v := .tuple #[.slice PL len cL, .int .i64 0]) (by simp [results, Try.results44, go_sem]) rfl ⟨_, rfl, ?_, hB.out⟩
        have hO1 := hO.out.sl
        rw [List.take_of_length_le (l := S.ents) (by rw [HN.out]; exact Nat.le_refl _)] at hO1
        exact hO1.mono fun b hb => by rcases hb with hb | hb; exact hb.elim; exact hb.1
  · have h0' : (m != 0) = true := by simpa using h0
    have h0'' : (m == 0) = false := by simpa using h0
    have H0 := Lib.hid h0
    clear h0 c0 HM
    go_wp2
    refine bodyPost_ret (v := .tuple #[.slice none 0 0, .int .i64 m]) (by simp [results, Try.results44, go_sem]) rfl ⟨.slice none 0 0, rfl, ?_, Below.refl _ _⟩
    exact Sl.nil _ _ _
end Go.Proofs.Ytnleldogmogkgaa
