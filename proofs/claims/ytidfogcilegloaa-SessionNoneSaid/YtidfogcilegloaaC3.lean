import Derived.Test.YtidfogcilegloaaC2
namespace Go.Proofs.Ytidfogcilegloaa.C
open Go.RowKit Go.Op

theorem info41 : (Try.prog.info? 63).map (fun i => (i.zero, i.size, i.bytes)) = some (some (.agg #[.bool false, .string ⟨#[]⟩, .string ⟨#[]⟩, .slice none 0 0]), 4, 64) := by kernel_rfl
theorem keep_step {rs : List Rd} {j : Nat} {x : Rd} (S : List (Bool × ByteArray)) (h : rs[j]? = some x) : keep S (rs.drop j) = (if x.scan || !seenIn S x.scan x.key then [x] else []) ++ keep ((x.scan, x.key) :: S) (rs.drop (j + 1)) := by
  obtain ⟨hj, e⟩ := List.getElem?_eq_some_iff.1 h
  rw [List.drop_eq_getElem_cons hj, e]; rfl
theorem keep_end {rs : List Rd} {j : Nat} (S : List (Bool × ByteArray)) (h : rs.length ≤ j) : keep S (rs.drop j) = [] := by rw [List.drop_of_length_le h]; rfl

set_option maxRecDepth 100000 in
set_option maxHeartbeats 8000000 in
theorem own_calls_ok (s sn : Int) (st : Bool) (R : Option Addr) (nr cr : Nat) (W : Option Addr) (nw cw : Nat) (ok0 : Nat → Prop) (rs : List Rd) (w : World) (hr : Sl tRead w ok0 (.slice R nr cr) rs) (hks : ∀ x ∈ rs, x.key.size ≤ maxLen) (hn : nr * 64 ≤ 140737488351232) :
    Calls Try.prog 31 #[.agg #[.int .i64 s, .int .i64 sn, .bool st, .slice R nr cr, .slice W nw cw]] w fun e w' => ∃ v, e = .returned v ∧ Sl tRead w' (fun b => ok0 b ∨ w.heap.size ≤ b) v (keep [] rs) ∧ Below w.heap.size w w' := by
  have hln := hr.length.1
  have H := Lib.hid hr.inb
  have HK := Lib.hid hks
  have hS0 : Hid (Seen ((w.alloc (.cells #[.int .i64 s, .int .i64 sn, .bool st, .slice R nr cr, .slice W nw cw] 34)).alloc (.map #[] 0)) (w.heap.size + 1) 0 []) := by
    have := Seen.made (w.alloc (.cells #[.int .i64 s, .int .i64 sn, .bool st, .slice R nr cr, .slice W nw cw] 34))
    rwa [show (w.alloc (.cells #[.int .i64 s, .int .i64 sn, .bool st, .slice R nr cr, .slice W nw cw] 34)).heap.size = w.heap.size + 1 by simp] at this
  have hB0 : Hid (Below w.heap.size w ((w.alloc (.cells #[.int .i64 s, .int .i64 sn, .bool st, .slice R nr cr, .slice W nw cw] 34)).alloc (.map #[] 0))) := ((Below.refl _ _).alloc (Nat.le_refl _) _).alloc (by simp) _
  clear hr hks
  have hmm := @run_makeMap Try.prog
  go_enter Try.func31, Try.ntmps31
  go_wp2
  clear hmm
  generalize hw1 : (w.alloc (.cells #[.int .i64 s, .int .i64 sn, .bool st, .slice R nr cr, .slice W nw cw] 34)).alloc (.map #[] 0) = w1 at *
  clear hw1
  generalize hgm : w.heap.size + 1 = gm at *
  have hgm' : w.heap.size ≤ gm := by omega
  clear hgm
  have hO0 := Lib.hid (Own.nil tRead w1 w.heap.size 63 (fun b => ok0 b ∧ b < w.heap.size))
  go_loopw [4, 6, 7, 12] (fun v _ _ i w' => ∃ (j : Nat) (S : List (Bool × ByteArray)) (acc : List Rd), j ≤ nr ∧ i = .int .i64 j ∧ Hid (Own tRead w' w.heap.size 63 (fun b => ok0 b ∧ b < w.heap.size) v acc) ∧ Hid (Seen w' gm j S) ∧ Hid (v.ownBlock ≠ some gm) ∧
      Hid (acc ++ keep S (rs.drop j) = keep [] rs) ∧ acc.length ≤ j ∧ Hid (Below w.heap.size w w')) (fun _ _ _ i _ => nr - (intOf i).toNat)
  case atStart => exact ⟨0, [], [], by omega, rfl, hO0, hS0, by simp [Value.ownBlock, Hid], by simp [Hid], by simp, hB0⟩
  case round =>
    obtain ⟨j, S, acc, hj, rfl, hO, hS, hne, hk, hal, hb⟩ := hrel
    by_cases hlt : j < nr
    · obtain ⟨x, hx⟩ := some_at (show j < rs.length by omega)
      have hxk := HK.out x (List.mem_of_getElem? hx)
      have hst := Lib.hid (keep_step S hx)
      have HR := H.out.below hb.out
      have hx' := hx
      clear hx
      obtain ⟨sc, k, t, ps⟩ := x
      obtain ⟨b, off, P, np, cp, rfl, hbl, g0, g1, g2, g3, hP⟩ := sl_read HR hx'
      have hlo : ∀ b, b < w.heap.size → u4.ownBlock ≠ some b := fun b hb e => by have := (hO.out.lo e).1; omega
      have hlo2 : u4.ownBlock ≠ some (wr.heap.size + 1) := fun e => by have := (hO.out.lo e).2; omega
      have hb7 : Below wr.heap.size wr ((wr.alloc (.cells #[.bool sc, .string k, .string t, .slice P np cp] 63)).alloc (.cells #[.bool sc, .string k] 112)) := ((Below.refl _ _).alloc (Nat.le_refl _) _).alloc (by simp) _
      have HO7 := Lib.hid (hO.out.below hb7)
      have hS7 := Lib.hid (hS.out.below hb7)
      have hgmr := Lib.hid hS.out.lt
      have HB7 := Lib.hid (hb.out.trans (hb7.mono hb.out.size))
      have hx7 : Hid (Blk ((wr.alloc (.cells #[.bool sc, .string k, .string t, .slice P np cp] 63)).alloc (.cells #[.bool sc, .string k] 112)) (wr.heap.size + 1) #[.bool sc, .string k] 112) := blk_new (by simp)
      have hKx : Hid (tRead.K ((wr.alloc (.cells #[.bool sc, .string k, .string t, .slice P np cp] 63)).alloc (.cells #[.bool sc, .string k] 112)) (fun b => (ok0 b ∧ b < w.heap.size) ∧ u4.ownBlock ≠ some b) ⟨sc, k, t, ps⟩ [.bool sc, .string k, .string t, .slice P np cp]) :=
        read_mk (x := ⟨sc, k, t, ps⟩) ((hP.below hb7).mono fun b h => ⟨h, hlo b h.2⟩)
      have hl7 := Lib.hid (fun h : sc = false => hS7.out.look sc k hxk)
      clear hx' HR hP hb7 hlo
      cases sc
      · have hlook := hl7.out rfl
        clear hl7
        cases hsn : seenIn S false k
        · rw [hsn] at hlook
          go_wp2_with (first
            | (at_mapUpdate; refine wpList_seen (o := ⟨none, _, _, _, _, _⟩) rfl _ _ _ rfl rfl hSX.out ?d1 hxk rfl rfl ?_; (case d1 => unfold maxLen; omega); intro w9 hS9 hg9)
            | (at_builtin; refine wpList_app1 (o := ⟨some 32, _, _, _, _, _⟩) (t := tRead) (w0 := w) (g := wr.heap.size + 1 + 1) (cs := [.bool false, .string k, .string t, .slice P np cp]) (y := ⟨false, k, t, ps⟩) w.heap.size rfl _ _ 31 63 _ 64 rfl Try.underlying31 info41 rfl (by decide) (by decide) rfl ?c1 rfl HO7.out hKx.out HB7.out ?c2 ?c3 ?_; (case c1 => simp); (case c2 => have := HB7.out.size; omega); (case c3 => omega); intro v1 w8 hO8 hB8 hg8 hv8
               have hx8 : Blk w8 (wr.heap.size + 1) #[.bool false, .string k] 112 := (hg8.block (wr.heap.size + 1) (by simp) (fun e => hlo2 e.symm)).trans hx7.out
               have hx80 : w8.cell? ⟨wr.heap.size + 1, 0, none⟩ = some (.bool false) := hx8.cell 0
               have hx81 : w8.cell? ⟨wr.heap.size + 1, 1, none⟩ = some (.string k) := hx8.cell 1
               have hx82 := hx8.lt
               have hSX := Lib.hid (hS7.out.kept hg8 (fun e => hne.out e.symm))
               have hv9 : Hid (v1.ownBlock ≠ some gm) := (by
                 intro e
                 rcases hv8 with h | ⟨b, h1, h2⟩
                 · exact hne.out (h ▸ e)
                 · rw [h1] at e; injection e with e; have := hgmr.out; simp at h2; omega)))
          have hO9 := Lib.hid (hO8.grown hg9 (fun b e h => hv9.out (by rw [e, ← h])) (fun b hb h => by injection h with h; have := hb.2; omega))
          go_roundw
          case rel =>
            exact ⟨j + 1, (false, k) :: S, acc ++ [⟨false, k, t, ps⟩], by omega, by go_num, hO9, hS9, hv9, by
              show _ = _
              rw [← hk.out, hst.out, hsn, List.append_assoc]; rfl, by simp; omega, hB8.grown hg9 hB8.size (fun k h => by injection h with h; omega)⟩
          case measure => simp [intOf]; omega
        · rw [hsn] at hlook
          have hSX := hS7
          go_wp2_with (at_mapUpdate; refine wpList_seen (o := ⟨none, _, _, _, _, _⟩) rfl _ _ _ rfl rfl hSX.out ?d1 hxk rfl rfl ?_; (case d1 => unfold maxLen; omega); intro w9 hS9 hg9)
          go_roundw
          case rel =>
            exact ⟨j + 1, (false, k) :: S, acc, by omega, by go_num, HO7.out.grown hg9 (fun b e h => hne.out (by rw [e, ← h])) (fun b hb h => by injection h with h; have := hb.2; omega), hS9, hne, by
              show _ = _
              rw [← hk.out, hst.out, hsn]; rfl, by omega, HB7.out.grown hg9 HB7.out.size (fun k h => by injection h with h; omega)⟩
          case measure => simp [intOf]; omega
      · clear hl7
        go_wp2_with (first
            | (at_mapUpdate; refine wpList_seen (o := ⟨none, _, _, _, _, _⟩) rfl _ _ _ rfl rfl hSX.out ?d1 hxk rfl rfl ?_; (case d1 => unfold maxLen; omega); intro w9 hS9 hg9)
            | (at_builtin; refine wpList_app1 (o := ⟨some 32, _, _, _, _, _⟩) (t := tRead) (w0 := w) (g := wr.heap.size + 1 + 1) (cs := [.bool true, .string k, .string t, .slice P np cp]) (y := ⟨true, k, t, ps⟩) w.heap.size rfl _ _ 31 63 _ 64 rfl Try.underlying31 info41 rfl (by decide) (by decide) rfl ?c1 rfl HO7.out hKx.out HB7.out ?c2 ?c3 ?_; (case c1 => simp); (case c2 => have := HB7.out.size; omega); (case c3 => omega); intro v1 w8 hO8 hB8 hg8 hv8
               have hx8 : Blk w8 (wr.heap.size + 1) #[.bool true, .string k] 112 := (hg8.block (wr.heap.size + 1) (by simp) (fun e => hlo2 e.symm)).trans hx7.out
               have hx80 : w8.cell? ⟨wr.heap.size + 1, 0, none⟩ = some (.bool true) := hx8.cell 0
               have hx81 : w8.cell? ⟨wr.heap.size + 1, 1, none⟩ = some (.string k) := hx8.cell 1
               have hx82 := hx8.lt
               have hSX := Lib.hid (hS7.out.kept hg8 (fun e => hne.out e.symm))
               have hv9 : Hid (v1.ownBlock ≠ some gm) := (by
                 intro e
                 rcases hv8 with h | ⟨b, h1, h2⟩
                 · exact hne.out (h ▸ e)
                 · rw [h1] at e; injection e with e; have := hgmr.out; simp at h2; omega)))
        have hO9 := Lib.hid (hO8.grown hg9 (fun b e h => hv9.out (by rw [e, ← h])) (fun b hb h => by injection h with h; have := hb.2; omega))
        go_roundw
        case rel =>
          exact ⟨j + 1, (true, k) :: S, acc ++ [⟨true, k, t, ps⟩], by omega, by go_num, hO9, hS9, hv9, by
            show _ = _
            rw [← hk.out, hst.out, List.append_assoc]; rfl, by simp; omega, hB8.grown hg9 hB8.size (fun k h => by injection h with h; omega)⟩
        case measure => simp [intOf]; omega
    · go_wp2
      go_ret
      refine ⟨_, rfl, ?_, hb.out⟩
      have he := hk.out
      rw [keep_end S (by omega), List.append_nil] at he
      rw [← he]
      exact hO.out.sl.mono fun b hb => hb.elim (fun h => .inl h.1) fun h => .inr h.1

theorem own_calls (s sn : Int) (st : Bool) (R : Option Addr) (nr cr : Nat) (W : Option Addr) (nw cw : Nat) (rs : List Rd) (w : World) (hr : Sl tRead w (fun _ => True) (.slice R nr cr) rs) (hks : ∀ x ∈ rs, x.key.size ≤ maxLen) (hn : nr * 64 ≤ 140737488351232) :
    Calls Try.prog 31 #[.agg #[.int .i64 s, .int .i64 sn, .bool st, .slice R nr cr, .slice W nw cw]] w fun e w' => ∃ v, e = .returned v ∧ Sl tRead w' (fun _ => True) v (keep [] rs) ∧ Below w.heap.size w w' :=
  (own_calls_ok s sn st R nr cr W nw cw _ rs w hr hks hn).mono fun _ _ ⟨v, h1, h2, h3⟩ => ⟨v, h1, h2.mono fun _ _ => trivial, h3⟩
end Go.Proofs.Ytidfogcilegloaa.C
