import Derived.Test.YtlbcckdbpgofmaaW17
/-! The document's Own. -/
namespace Go.Proofs.Ytlbcckdbpgofmaa
open Go.RowKit Go.Op

def seenR (acc : List Rd) (x : Rd) : Bool := acc.any fun y => (!x.scan && !y.scan) && x.key.toList == y.key.toList
def keepR : List Rd → List Rd → List Rd
  | acc, [] => acc
  | acc, x :: l => keepR (if seenR acc x then acc else acc ++ [x]) l
theorem beq_sym (x y : List UInt8) : (x == y) = (y == x) := by
  rw [Bool.eq_iff_iff, beq_iff_eq, beq_iff_eq]; exact eq_comm
theorem keepR_eq : ∀ (l : List Rd) (acc : List Rd) (S : List (Bool × ByteArray)), (∀ k, seenIn S false k = acc.any fun y => !y.scan && y.key.toList == k.toList) → keepR acc l = acc ++ keep S l
  | [], acc, S, _ => by simp [keepR, keep]
  | x :: l, acc, S, h => by
    rw [keepR, keep]
    cases hs : x.scan
    · have e : seenR acc x = seenIn S false x.key := by
        rw [h x.key, seenR]
        congr 1; funext y
        rw [hs, beq_sym]; rfl
      cases hq : seenIn S false x.key
      · rw [e, hq]
        rw [keepR_eq l _ ((false, x.key) :: S) (fun k => by
          rw [if_neg Bool.false_ne_true, List.any_append, ← h k]
          simp [seenIn, hs, Bool.or_comm])]
        simp
      · rw [e, hq]
        rw [if_pos rfl, keepR_eq l acc ((false, x.key) :: S) (fun k => by
          rw [← h k]
          cases hk : x.key.toList == k.toList
          · simp [seenIn, hk]
          · have e2 : seenIn S false k = seenIn S false x.key := by
              unfold seenIn; rw [eq_of_beq hk]
            rw [e2, hq]; simp [seenIn, hk])]
        simp
    · have e : seenR acc x = false := by
        rw [seenR, hs]; simp
      rw [e]
      rw [keepR_eq l _ ((true, x.key) :: S) (fun k => by
        rw [if_neg Bool.false_ne_true, List.any_append, ← h k]
        simp [seenIn, hs])]
      simp
theorem keepR_keep (l : List Rd) : keepR [] l = keep [] l := by
  rw [keepR_eq l [] [] (fun k => rfl)]; rfl
theorem keepR_step {rs : List Rd} {j : Nat} {x : Rd} (acc : List Rd) (h : rs[j]? = some x) : keepR acc (rs.drop j) = keepR (if seenR acc x then acc else acc ++ [x]) (rs.drop (j + 1)) := by
  obtain ⟨hj, e⟩ := List.getElem?_eq_some_iff.1 h
  rw [List.drop_eq_getElem_cons hj, e]; rfl

set_option maxHeartbeats 8000000 in
theorem rown_calls (s sn : Int) (st : Bool) (R : Option Addr) (nr cr : Nat) (W : Option Addr) (nw cw : Nat) (rs : List Rd) (w : World) (hr : Sl tRead w (fun _ => True) (.slice R nr cr) rs) (hn : nr * 64 ≤ 140737488351232) :
    Calls Try.prog 23 #[.agg #[.int .i64 s, .int .i64 sn, .bool st, .slice R nr cr, .slice W nw cw]] w fun e w' => ∃ v, e = .returned v ∧ Sl tRead w' (fun _ => True) v (keep [] rs) ∧ Below w.heap.size w w' := by
  have hln := hr.length.1
  have H := Lib.hid hr.inb
  have hB0 : Hid (Below w.heap.size w (w.alloc (.cells #[.int .i64 s, .int .i64 sn, .bool st, .slice R nr cr, .slice W nw cw] 25))) := (Below.refl _ _).alloc (Nat.le_refl _) _
  clear hr
  go_enter Try.func23, Try.ntmps23
  go_wp2
  generalize hw1 : w.alloc (.cells #[.int .i64 s, .int .i64 sn, .bool st, .slice R nr cr, .slice W nw cw] 25) = w1 at *
  clear hw1
  have hO0 := Lib.hid (Own.nil tRead w1 w.heap.size 41 (fun b => b < w.heap.size))
  go_loopw [3, 5, 6, 8, 12] (fun v _ _ _ i w' => ∃ (j : Nat) (acc : List Rd), j ≤ nr ∧ i = .int .i64 j ∧ Hid (Own tRead w' w.heap.size 41 (fun b => b < w.heap.size) v acc) ∧
      Hid (keepR acc (rs.drop j) = keep [] rs) ∧ acc.length ≤ j ∧ Hid (Below w.heap.size w w')) (fun _ _ _ _ i _ => nr - (intOf i).toNat)
  case atStart => exact ⟨0, [], by omega, rfl, hO0, keepR_keep rs, by simp, hB0⟩
  case round =>
    obtain ⟨j, acc, hj, rfl, hO, hk, hal, hb⟩ := hrel
    by_cases hlt : j < nr
    · obtain ⟨x, hx⟩ := some_at (show j < rs.length by omega)
      have hst := Lib.hid (keepR_step acc hx)
      have HR := H.out.below hb.out
      have hx' := hx
      clear hx
      obtain ⟨b, off, P, np, cp, rfl, hbl, g0, g1, g2, g3, hP⟩ := sl_read HR hx'
      have hlo : ∀ b, b < w.heap.size → u3.ownBlock ≠ some b := fun b hb e => by have := (hO.out.lo e).1; omega
      have hb7 : Below wr.heap.size wr (wr.alloc (.cells #[.bool x.scan, .string x.key, .string x.to, .slice P np cp] 41)) := (Below.refl _ _).alloc (Nat.le_refl _) _
      have HO7 := Lib.hid (hO.out.below hb7)
      have HB7 := Lib.hid (hb.out.trans (hb7.mono hb.out.size))
      have hx7 : Hid (Blk (wr.alloc (.cells #[.bool x.scan, .string x.key, .string x.to, .slice P np cp] 41)) wr.heap.size #[.bool x.scan, .string x.key, .string x.to, .slice P np cp] 41) := Blk.new _ _ _
      have hKx : Hid (Sl tPair (wr.alloc (.cells #[.bool x.scan, .string x.key, .string x.to, .slice P np cp] 41)) (fun b => b < w.heap.size ∧ u3.ownBlock ≠ some b) (.slice P np cp) x.pairs) :=
        (hP.below hb7).mono fun b h => ⟨h.2, hlo b h.2⟩
      obtain ⟨B, cap, rfl, hcap1, hcap2, -⟩ := hO.out.form
      clear hx' HR hP hb7 hlo
      go_wp2
      have HX7 := Lib.hid (Below.refl (wr.alloc (.cells #[.bool x.scan, .string x.key, .string x.to, .slice P np cp] 41)).heap.size (wr.alloc (.cells #[.bool x.scan, .string x.key, .string x.to, .slice P np cp] 41)))
      generalize hw2 : wr.alloc (.cells #[.bool x.scan, .string x.key, .string x.to, .slice P np cp] 41) = w2 at *
      have hlt2 := hx7.out.lt
      clear hw2 g0 g1 g2 g3 hbl
      generalize wr.heap.size = gx at *
      go_loopw [6, 8, 18] (fun v _ i w' => ∃ (m : Nat) (sb : Bool), m ≤ acc.length ∧ i = .int .i64 m ∧ v = .bool sb ∧ Hid (seenR acc x = (sb || (acc.drop m).any fun y => (!x.scan && !y.scan) && x.key.toList == y.key.toList)) ∧ Hid (Below w2.heap.size w2 w'))
        (fun _ _ i _ => acc.length - (intOf i).toNat)
      case atStart => exact ⟨0, false, by omega, rfl, rfl, rfl, HX7⟩
      case round =>
        obtain ⟨m, sb, hm, rfl, rfl, hs, hb2⟩ := hrel
        have hx8 := Lib.hid (hx7.out.below hb2.out hx7.out.lt)
        have HO8 := Lib.hid (HO7.out.below hb2.out)
        by_cases hlm : m < acc.length
        · obtain ⟨y, hy⟩ := some_at hlm
          have hs2 : Hid (((acc.drop m).any fun y => (!x.scan && !y.scan) && x.key.toList == y.key.toList) = (((!x.scan && !y.scan) && x.key.toList == y.key.toList) || (acc.drop (m + 1)).any fun y => (!x.scan && !y.scan) && x.key.toList == y.key.toList)) := any_step rfl hy
          obtain ⟨b', off', P', np', cp', rfl, hbl', k0, k1, k2, k3, hP'⟩ := sl_read HO8.out.sl hy
          clear hP' hy
          have x0 : wr.cell? ⟨gx, 0, none⟩ = some (.bool x.scan) := hx8.out.cell 0
          have x1 : wr.cell? ⟨gx, 1, none⟩ = some (.string x.key) := hx8.out.cell 1
          have hgx := hx8.out.lt
          have hb9 : Hid (Below w2.heap.size w2 (wr.alloc (.cells #[.bool y.scan, .string y.key, .string y.to, .slice P' np' cp'] 41))) := hb2.out.alloc hb2.out.size _
          cases sb
          · cases hxs : x.scan
            · rw [hxs] at x0
              cases hys : y.scan
              · rw [hys] at k0 hb9
                cases hke : x.key.toList == y.key.toList
                · go_wp2
                  first | go_roundw | refine ⟨?rel, ?measure⟩
                  case rel => exact ⟨m + 1, false, by omega, by go_num, rfl, (by show _ = _; rw [hs.out, hs2.out]; simp [hxs, hys, hke]), hb9⟩
                  case measure => simp [intOf]; omega
                · go_wp2
                  first | go_roundw | refine ⟨?rel, ?measure⟩
                  case rel => exact ⟨m + 1, true, by omega, by go_num, rfl, (by show _ = _; rw [hs.out, hs2.out]; simp [hxs, hys, hke]), hb9⟩
                  case measure => simp [intOf]; omega
              · rw [hys] at k0 hb9
                go_wp2
                first | go_roundw | refine ⟨?rel, ?measure⟩
                case rel => exact ⟨m + 1, false, by omega, by go_num, rfl, (by show _ = _; rw [hs.out, hs2.out]; simp [hxs, hys]), hb9⟩
                case measure => simp [intOf]; omega
            · rw [hxs] at x0
              go_wp2
              first | go_roundw | refine ⟨?rel, ?measure⟩
              case rel => exact ⟨m + 1, false, by omega, by go_num, rfl, (by show _ = _; rw [hs.out, hs2.out]; simp [hxs]), hb9⟩
              case measure => simp [intOf]; omega
          · go_wp2
            first | go_roundw | refine ⟨?rel, ?measure⟩
            case rel => exact ⟨m + 1, true, by omega, by go_num, rfl, (by show _ = _; rw [hs.out, hs2.out]; simp []), hb9⟩
            case measure => simp [intOf]; omega
        · have hse : seenR acc x = sb := by rw [hs.out, List.drop_of_length_le (by omega)]; simp
          have hb9 := Lib.hid (HB7.out.trans (hb2.out.mono HB7.out.size))
          cases sb
          · have x0 : wr.cell? ⟨gx, 0, none⟩ = some (.bool x.scan) := hx8.out.cell 0
            have x1 : wr.cell? ⟨gx, 1, none⟩ = some (.string x.key) := hx8.out.cell 1
            have x2 : wr.cell? ⟨gx, 2, none⟩ = some (.string x.to) := hx8.out.cell 2
            have x3 : wr.cell? ⟨gx, 3, none⟩ = some (.slice P np cp) := hx8.out.cell 3
            have hgx := hx8.out.lt
            have hKx9 : Hid (tRead.K wr (fun b => b < w.heap.size ∧ (Value.slice B acc.length cap).ownBlock ≠ some b) x [.bool x.scan, .string x.key, .string x.to, .slice P np cp]) := read_mk (x := x) (hKx.out.below hb2.out)
            go_wp2_with (at_builtin; refine wpList_app1 (o := ⟨some 46, _, _, _, _, _⟩) (t := tRead) (w0 := w) (g := wr.heap.size) (cs := [.bool x.scan, .string x.key, .string x.to, .slice P np cp]) (y := x) w.heap.size rfl _ _ 22 41 _ 64 rfl Try.underlying22 info41 rfl (by decide) (by decide) rfl rfl rfl HO8.out hKx9.out hb9.out ?c2 ?c3 ?_; (case c2 => exact hb9.out.size); (case c3 => omega); intro v1 w9 hO9 hB9 _ _)
            have hO9' := Lib.hid hO9
            go_roundw
            case rel =>
              exact ⟨j + 1, acc ++ [x], by omega, by go_num, hO9', by
                show _ = _
                rw [← hk.out, hst.out, hse]; rfl, by simp; omega, hB9⟩
            case measure => simp [intOf]; omega
          · go_wp2
            refine ⟨⟨j + 1, acc, by omega, by go_num, HO8, ?_, by omega, hb9⟩, by simp [intOf]; omega⟩
            show _ = _
            rw [← hk.out, hst.out, hse]; rfl
    · go_wp2
      go_ret
      refine ⟨_, rfl, ?_, hb.out⟩
      have he := hk.out
      rw [List.drop_of_length_le (by omega)] at he
      rw [← he]
      exact hO.out.sl.mono fun _ _ => trivial
end Go.Proofs.Ytlbcckdbpgofmaa
