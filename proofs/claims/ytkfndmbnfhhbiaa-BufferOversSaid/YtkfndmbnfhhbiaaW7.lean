import Derived.Test.YtkfndmbnfhhbiaaW6
import Derived.WalkLawsBesides
/-! Rises, Same, the document's Get, light. -/
namespace Go.Proofs.Ytkfndmbnfhhbiaa
open Go.RowKit Go.Op

theorem guard52 : Try.prog.eqGuardType Try.prog.depth 52 = false := by kernel_rfl
theorem stood52 : Try.prog.stoodInHeld 52 = false := by kernel_rfl
theorem neq52 (p : Pair) (W : World) : (Go.binOp .neq 52 (.agg #[.string p.key, .string p.val, .bool p.dead]) (.agg #[.string p.key, .string p.val, .bool p.dead])).run Try.prog W = .ok (.bool false) W := by
  have hst : Try.prog.underlying 52 = some (.struct (Try.prog.fieldsOf 52)) := by rw [Program.fieldsOf, Try.underlying52]
  have u9 := Try.underlying9
  have u4 := Try.underlying4
  rw [run_neq_struct, run_equalIn_struct _ _ _ _ _ hst stood52]
  simp only [Program.fieldsOf, Try.underlying52]
  simp [Op.eqFields, go_sem, part, u9, u4]

theorem rising_snoc {l : List Pair} {j : Nat} {p q : Pair} (h : Rising (l.take (j + 1))) (hp : l[j]? = some p) (hq : l[j + 1]? = some q) (hlt : klt p.key q.key = true) : Rising (l.take (j + 2)) := by
  have e1 : l.take (j + 1) = l.take j ++ [p] := by rw [List.take_add_one, hp]; rfl
  have e2 : l.take (j + 2) = l.take (j + 1) ++ [q] := by rw [List.take_add_one, hq]; rfl
  rw [e2]
  refine List.pairwise_append.2 ⟨h, List.pairwise_singleton _ _, fun a ha b hb => ?_⟩
  simp only [List.mem_singleton] at hb
  subst hb
  rw [e1] at h ha
  rcases List.mem_append.1 ha with ha | ha
  · exact klt_trans ((List.pairwise_append.1 h).2.2 a ha p (by simp)) hlt
  · simp only [List.mem_singleton] at ha
    rw [ha]; exact hlt
theorem not_rising {l : List Pair} {j : Nat} {p q : Pair} (hp : l[j]? = some p) (hq : l[j + 1]? = some q) (hlt : klt p.key q.key = false) : ¬ Rising l := by
  intro h
  obtain ⟨h1, rfl⟩ := List.getElem?_eq_some_iff.1 hp
  obtain ⟨h2, rfl⟩ := List.getElem?_eq_some_iff.1 hq
  have := List.pairwise_iff_getElem.1 h j (j + 1) h1 h2 (by omega)
  rw [this] at hlt; cases hlt
theorem klt_geq (a b : ByteArray) : (bytesLess a.toList b.toList || (a.toList == b.toList)) = !klt b a := by
  rw [beq_key]
  rcases klt_cases a b with ⟨h1, h2, h3⟩ | ⟨h1, h2, h3⟩ | ⟨h1, h2, h3⟩
  · rw [h2]; unfold klt at h1; simp [h1]
  · subst h1; rw [h2]; unfold klt at h2; simp
  · rw [h2]; unfold klt at h1; simp [h1, h3]

set_option maxHeartbeats 2000000 in
theorem rises_calls (l : List Pair) (A : Option Addr) (n c : Nat) (w : World) (hl : Sl tPair w (fun _ => True) (.slice A n c) l) :
    Calls Try.prog 10 #[.slice A n c] w fun e w' => ∃ b : Bool, e = .returned (.bool b) ∧ (b = true ↔ Rising l) ∧ Below w.heap.size w w' := by
  obtain ⟨hln, hcap, hcm⟩ := hl.length
  have HLN := Lib.hid hln
  have HL := Lib.hid hl
  have hX := Lib.hid (Below.refl w.heap.size w)
  have hR0 : Hid (Rising (l.take 1)) := by
    cases l with
    | nil => exact List.Pairwise.nil
    | cons p l => simp only [List.take_succ_cons, List.take_zero]; exact List.pairwise_singleton _ _
  clear hl hln
  go_enter Try.func10, Try.ntmps10
  go_wp2
  go_loopw [3] (fun i wr => ∃ j : Nat, i = .int .i64 ((j : Int) + 1) ∧ Hid (Rising (l.take (j + 1))) ∧ Hid (Below w.heap.size w wr) ∧ j ≤ n) (fun i _ => n + 1 - (intOf i).toNat)
  case atStart => exact ⟨0, rfl, hR0, hX, by omega⟩
  case round =>
    obtain ⟨j, rfl, hR, hB, hjn⟩ := hrel
    by_cases hlt : j + 1 < n
    · obtain ⟨p, hp⟩ := some_at (show j < l.length by rw [HLN.out]; omega)
      obtain ⟨q, hq⟩ := some_at (show j + 1 < l.length by rw [HLN.out]; omega)
      have hL1 := HL.out.below hB.out
      obtain ⟨g, off, e1, hg, x0, -, -⟩ := sl_pair hL1 hp
      obtain ⟨g2, off2, e2, -, y0, -, -⟩ := sl_pair hL1 hq
      subst e1
      injection e2 with e2
      injection e2 with e2 e3
      subst e2 e3
      have hle := klt_geq q.key p.key
      have hi : IntKind.i64.wrap ((j : Int) + 1 - 1) = j := by rw [show (j : Int) + 1 - 1 = j by omega]; exact IntWalk.i64_in _ (by omega)
      cases hk : klt p.key q.key
      · have hn := Lib.hid (not_rising hp hq hk)
        rw [hk] at hle
        clear hp hq hL1 hk
        have hle' : (bytesLess q.key.toList p.key.toList || (q.key.toList == p.key.toList)) = true := hle
        clear hle
        go_wp2
        go_quiet (fail)
        have HBn := Lib.hid (below_drewN hB.out nq)
        go_wp2
        go_ret
        exact ⟨false, rfl, by simp; exact hn.out, HBn.out⟩
      · have hn := Lib.hid (rising_snoc hR.out hp hq hk)
        rw [hk] at hle
        clear hp hq hL1 hk
        have hle' : (bytesLess q.key.toList p.key.toList || (q.key.toList == p.key.toList)) = false := hle
        clear hle
        go_wp2
        go_quiet (fail)
        have HBn := Lib.hid (below_drewN hB.out nq)
        clear hi
        go_wp2
        go_roundw
        case rel => exact ⟨j + 1, by go_num, hn, HBn, by omega⟩
        case measure => simp [intOf]; omega
    · have hf : Hid (Rising l) := by
        have := hR.out
        rwa [List.take_of_length_le (by rw [HLN.out]; omega)] at this
      go_wp2
      go_ret
      exact ⟨true, rfl, by simp; exact hf.out, hB.out⟩

set_option maxHeartbeats 2000000 in
theorem same_calls (l : List Pair) (A B : Option Addr) (n c d : Nat) (w : World) (hl : Sl tPair w (fun _ => True) (.slice A n c) l) (hm : Sl tPair w (fun _ => True) (.slice B n d) l) :
    Calls Try.prog 16 #[.slice A n c, .slice B n d] w fun e w' => e = .returned (.bool true) ∧ Below w.heap.size w w' := by
  obtain ⟨hln, hcap, hcm⟩ := hl.length
  have hcap2 := hm.length.2.1
  have HLN := Lib.hid hln
  have HL := Lib.hid hl
  have HM := Lib.hid hm
  have hX := Lib.hid (Below.refl w.heap.size w)
  clear hl hm hln
  go_enter Try.func16, Try.ntmps16
  go_wp2
  go_loopw [13] (fun i wr => ∃ j : Nat, i = .int .i64 j ∧ Hid (Below w.heap.size w wr) ∧ j ≤ n) (fun i _ => n - (intOf i).toNat)
  case atStart => exact ⟨0, rfl, hX, by omega⟩
  case round =>
    obtain ⟨j, rfl, hB, hjn⟩ := hrel
    by_cases hlt : j < n
    · obtain ⟨p, hp⟩ := some_at (show j < l.length by rw [HLN.out]; exact hlt)
      obtain ⟨g, off, rfl, hg, x0, x1, x2⟩ := sl_pair (HL.out.below hB.out) hp
      obtain ⟨g2, off2, rfl, hg2, y0, y1, y2⟩ := sl_pair (HM.out.below hB.out) hp
      have hne := neq52 p
      clear hp
      go_wp2
      go_quiet (fail)
      have HBn := Lib.hid (below_drewN hB.out nq)
      go_wp2
      go_roundw
      case rel => exact ⟨j + 1, by go_num, HBn, by omega⟩
      case measure => simp [intOf]; omega
    · go_wp2
      go_ret
      exact ⟨rfl, hB.out⟩

/-- The document's buffer. -/
def RBuf (w : World) (rb : Nat) (l : List Pair) : Prop := ∃ A c, Blk w rb #[.slice A l.length c] 33 ∧ Sl tPair w (fun b => rb < b) (.slice A l.length c) l ∧ Rising l ∧ l.length ≤ 64
theorem RBuf.kept {w w' : World} {rb : Nat} {l : List Pair} {row : Option Nat} (h : RBuf w rb l) (hg : w.grownBy w' row) (hr : ∀ b, row = some b → b < rb) : RBuf w' rb l := by
  obtain ⟨A, c, h1, h2, h3⟩ := h
  exact ⟨A, c, (hg.block rb h1.lt (fun e => by have := hr _ e.symm; omega)).trans h1, (h2.inb.step fun b hb => hg.block b hb.2 (fun e => by have := hr _ e.symm; omega)).mono fun b hb => hb.1, h3⟩
theorem RBuf.below {w w' : World} {rb : Nat} {l : List Pair} (h : RBuf w rb l) (hb : Below w.heap.size w w') : RBuf w' rb l := h.kept (grown_of hb none) (fun _ h => by cases h)
theorem RBuf.lt {w : World} {rb : Nat} {l : List Pair} (h : RBuf w rb l) : rb < w.heap.size := by obtain ⟨A, c, h1, _⟩ := h; exact h1.lt

theorem find_drop {l : List Pair} {k : ByteArray} {j : Nat} {p : Pair} (h : findK l k = findK (l.drop j) k) (hp : l[j]? = some p) : ((p.key.toList == k.toList) = true → findK l k = some p) ∧ ((p.key.toList == k.toList) = false → findK l k = findK (l.drop (j + 1)) k) := by
  rw [drop_cons hp] at h
  constructor
  · intro hk; rw [h, findK, List.find?_cons_of_pos (by simpa using hk)]
  · intro hk; rw [h, findK, List.find?_cons_of_neg (by simp [hk])]; rfl

set_option maxHeartbeats 2000000 in
theorem rget_calls (rb : Nat) (l : List Pair) (k : ByteArray) (w : World) (h : RBuf w rb l) :
    Calls Try.prog 26 #[.pointer (some ⟨rb, 0, none⟩), .string k] w fun e w' => e = .returned (.tuple #[tyv ((findK l k).getD Pair.zero), .bool (findK l k).isSome]) ∧ Below w.heap.size w w' := by
  obtain ⟨A, c, h1, h2, h3, h4⟩ := h
  obtain ⟨n, hn⟩ : ∃ n, l.length = n := ⟨_, rfl⟩
  rw [hn] at h1 h2 h4
  have HLN := Lib.hid hn
  have hcap := h2.length.2
  have HL := Lib.hid h2
  obtain ⟨z, hz⟩ : ∃ z, w.heap.size = z := ⟨_, rfl⟩
  have hZ : Hid (Blk (w.alloc (.cells #[.string ⟨#[]⟩, .string ⟨#[]⟩, .bool false] 52)) z #[.string ⟨#[]⟩, .string ⟨#[]⟩, .bool false] 52) := by rw [← hz]; exact Blk.new _ _ _
  have hX : Hid (Below z w (w.alloc (.cells #[.string ⟨#[]⟩, .string ⟨#[]⟩, .bool false] 52))) := by rw [← hz]; exact (Below.refl _ _).alloc (Nat.le_refl _) _
  have c0 := (h1.alloc (.cells #[.string ⟨#[]⟩, .string ⟨#[]⟩, .bool false] 52)).cell 0
  clear h1 h2 hn h3
  go_enter Try.func26, Try.ntmps26
  go_wp2
  go_loopw [13] (fun i wr => ∃ j : Nat, i = .int .i64 j ∧ Hid (Below z w wr) ∧ Hid (Blk wr z #[.string ⟨#[]⟩, .string ⟨#[]⟩, .bool false] 52) ∧ Hid (findK l k = findK (l.drop j) k) ∧ j ≤ n ∧ z < wr.heap.size) (fun i _ => n - (intOf i).toNat)
  case atStart => exact ⟨0, rfl, hX, hZ, rfl, by omega, by simp; omega⟩
  case round =>
    obtain ⟨j, rfl, hB, hZ', hF, hjn, hzr⟩ := hrel
    have q0 := hZ'.out.cell 0
    have q1 := hZ'.out.cell 1
    have q2 := hZ'.out.cell 2
    have q3 := hZ'.out.frozen 0
    have q4 := hZ'.out.frozen 1
    have q5 := hZ'.out.frozen 2
    by_cases hlt : j < n
    · obtain ⟨p, hp⟩ := some_at (show j < l.length by rw [HLN.out]; exact hlt)
      obtain ⟨g, off, rfl, hg, x0, x1, x2⟩ := sl_pair ((HL.out.inb.step fun b hb => hB.out.block b (by have := hb.2; omega)).mono (ok' := fun _ => True) fun _ _ => trivial) hp
      have hfd := find_drop hF.out hp
      clear hp hZ hX c0
      cases he : p.key.toList == k.toList
      · have HFN := Lib.hid (hfd.2 he)
        clear hfd
        go_wp2
        go_roundw
        case rel => exact ⟨j + 1, by go_num, hB.out.alloc (by omega) _, hZ'.out.alloc _, HFN, by omega, by simp; omega⟩
        case measure => simp [intOf]; omega
      · have HFN := Lib.hid (hfd.1 he)
        clear hfd
        go_wp2
        have hr : Blk (((wr.setCell ⟨z, 0, none⟩ (.string p.key)).setCell ⟨z, 1, none⟩ (.string p.val)).setCell ⟨z, 2, none⟩ (.bool p.dead)) z #[.string p.key, .string p.val, .bool p.dead] 52 := ((hZ'.out.set 0 (.string p.key)).set 1 (.string p.val)).set 2 (.bool p.dead)
        have k4 := (hr.alloc (.cells #[.string p.key, .string p.val, .bool p.dead] 52)).cell 0
        have k5 := (hr.alloc (.cells #[.string p.key, .string p.val, .bool p.dead] 52)).cell 1
        have k6 := (hr.alloc (.cells #[.string p.key, .string p.val, .bool p.dead] 52)).cell 2
        refine bodyPost_ret (v := .tuple #[tyv p, .bool true]) (by simp [results, Try.results26, go_sem, k4, k5, k6, tyv]) rfl ⟨by rw [HFN.out]; rfl, ?_⟩
        rw [hz]
        exact (((hB.out.setCell (p := ⟨z, 0, none⟩) (Nat.le_refl _) _).setCell (p := ⟨z, 1, none⟩) (Nat.le_refl _) _).setCell (p := ⟨z, 2, none⟩) (Nat.le_refl _) _).alloc (by simp; omega) _
    · have HFN : Hid (findK l k = none) := by
        show _ = _
        rw [hF.out, List.drop_of_length_le (by rw [HLN.out]; omega)]; rfl
      clear hZ hX c0
      go_wp2
      have hr : Blk (((wr.setCell ⟨z, 0, none⟩ (.string ⟨#[]⟩)).setCell ⟨z, 1, none⟩ (.string ⟨#[]⟩)).setCell ⟨z, 2, none⟩ (.bool false)) z #[.string ⟨#[]⟩, .string ⟨#[]⟩, .bool false] 52 := ((hZ'.out.set 0 (.string ⟨#[]⟩)).set 1 (.string ⟨#[]⟩)).set 2 (.bool false)
      have k4 := hr.cell 0
      have k5 := hr.cell 1
      have k6 := hr.cell 2
      refine bodyPost_ret (v := .tuple #[tyv Pair.zero, .bool false]) (by simp [results, Try.results26, go_sem, k4, k5, k6, tyv, Pair.zero]) rfl ⟨by rw [HFN.out]; rfl, ?_⟩
      rw [hz]
      exact ((hB.out.setCell (p := ⟨z, 0, none⟩) (Nat.le_refl _) _).setCell (p := ⟨z, 1, none⟩) (Nat.le_refl _) _).setCell (p := ⟨z, 2, none⟩) (Nat.le_refl _) _
end Go.Proofs.Ytkfndmbnfhhbiaa
