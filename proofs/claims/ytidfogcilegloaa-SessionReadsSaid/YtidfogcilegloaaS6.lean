import Derived.Test.YtidfogcilegloaaS5
/-! A session's Get of what it did not write. -/
namespace Go.Proofs.Ytidfogcilegloaa
open Go.RowKit Go.Op

section
variable {w : World} {xb : Nat} {rv : Value} {qb nb sb : Nat} {X Y : List Nat} {s : Ses} {pb mb : Nat} {kv : Value} {S : Sto}
theorem get_val (S : Sto) (k : ByteArray) (n : Int) : (getS S k n).2 = 0 ∨ ((getS S k n).1 = ⟨#[]⟩ ∧ ((getS S k n).2 = 8 ∨ ((getS S k n).2 ≠ 0 ∧ (getS S k n).2 ≠ 8))) := by
  unfold getS
  split
  · generalize get (chainOf S.ents k) n = o
    cases o
    · exact .inr ⟨rfl, .inl rfl⟩
    · exact .inl rfl
  · rename_i hm
    refine .inr ⟨rfl, .inr ⟨hm, ?_⟩⟩
    unfold may at hm ⊢
    split
    · decide
    · split
      · decide
      · rename_i h1 h2; rw [if_neg h1, if_neg h2] at hm; exact absurd rfl hm
set_option maxHeartbeats 2000000 in
theorem sget_store (h : Opn w xb rv qb nb sb X Y s) (hS : Stm w pb mb kv X S) (hd : ∀ b ∈ Y, b ≠ pb ∧ b ≠ mb ∧ kv.ownBlock ≠ some b) (h64 : s.ops < 64) (k : ByteArray) (hk1 : 1 ≤ k.size) (hk : k.size ≤ 64) (hp : B.findK s.mine k = none) :
    Calls Try.prog 16 #[.pointer (some ⟨xb, 0, none⟩), .pointer (some ⟨pb, 0, none⟩), .string k] w fun e w' => e = .returned (.tuple #[.string (getS S k s.snap).1, .int .i64 (getS S k s.snap).2]) ∧ SesPost w xb qb nb sb X Y (s.get S k).2 w' := by
  have hfin : (s.get S k).2 = if (getS S k s.snap).2 = 0 then s.bump.read ⟨false, k, ⟨#[]⟩, [⟨k, (getS S k s.snap).1, false⟩]⟩ else if (getS S k s.snap).2 = 8 then s.bump.read ⟨false, k, ⟨#[]⟩, []⟩ else s.bump := by
    unfold Ses.get
    rw [if_neg (by simp [h.ok.op]), if_neg (by omega), if_neg (by omega), hp]
  rw [hfin]
  have HM := Lib.hid (smay_ok s xb _ _ _ w h.blk h.pos h.ok.op h.ok.o0 h64)
  have h1 := h.bump h64
  have HN : Hid ((s.bump.reads.length : Int) + 1 ≤ s.bump.ops ∧ (s.bump.seen.length : Int) + 1 ≤ s.bump.ops) := ⟨by have := h.ok.nr; show (s.reads.length : Int) + 1 ≤ s.ops + 1; omega, by have := h.ok.ns; show (s.seen.length : Int) + 1 ≤ s.ops + 1; omega⟩
  have hS1 : Stm (w.setCell ⟨xb, 6, none⟩ (.int .i64 (s.ops + 1))) pb mb kv X S := hS.chl (Chl.setCell (L := Y) w h.xY _ _) hd h.sub (fun _ h => h) (fun b hb => by rw [World.size_setCell]; exact h.lt b hb) (fun _ h => .inl h)
  obtain ⟨w1, hw1⟩ : ∃ w1, w.setCell ⟨xb, 6, none⟩ (.int .i64 (s.ops + 1)) = w1 := ⟨_, rfl⟩
  have HC : Hid (Chl Y w w1) := by rw [← hw1]; exact Chl.setCell w h.xY _ _
  rw [hw1] at HM h1 hS1
  have c5 : w1.cell? ⟨xb, 5, none⟩ = some (.pointer (some ⟨qb, 0, none⟩)) := h1.blk.cell 5
  have HG := Lib.hid (B.get_calls qb nb s.mine k w1 h1.buf (by omega))
  rw [hp] at HG
  simp only [Option.getD_none, Option.isSome_none, B.tyv, Pair.zero] at HG
  have HO := Lib.hid h1
  have HS := Lib.hid (fun W hb => sget_calls pb mb kv X S k s.snap W (hS1.below hb) (by unfold maxLen; omega))
  have hk' : k.toList.isEmpty = false := by
    rw [List.isEmpty_eq_false_iff]; intro e; have := (B.empty_iff k).2 e; omega
  have hgv := get_val S k s.snap
  obtain ⟨g, hg⟩ : ∃ g, getS S k s.snap = g := ⟨_, rfl⟩
  rw [hg] at HS hgv ⊢
  obtain ⟨sn, hsn⟩ : ∃ sn, s.snap = sn := ⟨_, rfl⟩
  rw [hsn] at HS
  have HXL : Hid (xb < w1.heap.size) := h1.blk.lt
  have HSN : Hid (s.bump.snap = sn) := hsn
  obtain ⟨s', hs'⟩ : ∃ s', (if g.2 = 0 then s.bump.read ⟨false, k, ⟨#[]⟩, [⟨k, g.1, false⟩]⟩ else if g.2 = 8 then s.bump.read ⟨false, k, ⟨#[]⟩, []⟩ else s.bump) = s' := ⟨_, rfl⟩
  rw [hs']
  have HS' := Lib.hid hs'
  clear h h64 hw1 h1 hp hS hS1 hd hg hsn hfin hs'
  obtain ⟨gv, ge⟩ := g
  go_enter Try.func16, Try.ntmps16
  go_wp2_with fail
  refine HM.out.mono ?_
  rintro e w' ⟨rfl, rfl⟩
  go_wp2_with fail
  refine HG.out.mono ?_
  rintro e w2 ⟨rfl, hb2⟩
  have hb2' : Below w1.heap.size w1 (w2.alloc (.cells #[.string ⟨#[]⟩, .string ⟨#[]⟩, .bool false] 68)) := hb2.alloc hb2.size _
  have HS2 := Lib.hid (HS.out _ hb2')
  have HB2 := Lib.hid hb2'
  have c2 : (w2.alloc (.cells #[.string ⟨#[]⟩, .string ⟨#[]⟩, .bool false] 68)).cell? ⟨xb, 2, none⟩ = some (.int .i64 sn) := by
    have := (HO.out.below hb2').blk.cell 2
    rw [← HSN.out]; exact this
  clear hb2 hb2' c5 HS
  go_wp2_with fail
  refine HS2.out.mono ?_
  rintro e w3 ⟨rfl, hb3⟩
  have hb13 : Below w1.heap.size w1 w3 := HB2.out.trans (hb3.mono HB2.out.size)
  have HB3 := Lib.hid hb13
  clear hb3 hb13 c2
  rcases hgv with hgv | ⟨hgv1, hgv2 | ⟨hgv2, hgv3⟩⟩
  · have hge : ge = 0 := hgv
    subst hge
    clear hgv
    go_wp2_with fail
    have hb4 : Below w1.heap.size w1 ((w3.alloc (.cells #[.bool false, .string k, .string ⟨#[]⟩, .slice (some ⟨w3.heap.size + 1, 0, none⟩) 1 1] 63)).alloc (.cells #[.string k, .string gv, .bool false] 68)) := (HB3.out.alloc HB3.out.size _).alloc (by have := HB3.out.size; simp; omega) _
    have hBk : Blk ((w3.alloc (.cells #[.bool false, .string k, .string ⟨#[]⟩, .slice (some ⟨w3.heap.size + 1, 0, none⟩) 1 1] 63)).alloc (.cells #[.string k, .string gv, .bool false] 68)) (w3.heap.size + 1) #[.string k, .string gv, .bool false] 68 := C.blk_new (by simp)
    refine (sread_calls false k ⟨#[]⟩ (some ⟨w3.heap.size + 1, 0, none⟩) 1 1 [⟨k, gv, false⟩] (HO.out.below hb4) hk ((one_pair (p := ⟨k, gv, false⟩) hBk).mono fun b hb hm => ?_) HN.out.1 HN.out.2).mono ?_
    · have := HO.out.lt b hm; have := HB3.out.size; omega
    rintro e w5 ⟨rfl, hR⟩
    have HR : Hid (SesPost w xb qb nb sb X Y s' w5) := by
      have h1 := (hR.after (Chl.of_below hb4)).after HC.out
      rw [← HS'.out]; exact h1
    clear hR hb4 hBk
    go_wp2
    go_ret2
    exact ⟨rfl, HR.out⟩
  · have hge : ge = 8 := hgv2
    subst hge
    have hgv : gv = ⟨#[]⟩ := hgv1
    subst hgv
    clear hgv1 hgv2
    go_wp2_with fail
    have hb4 : Below w1.heap.size w1 (w3.alloc (.cells #[.bool false, .string k, .string ⟨#[]⟩, .slice none 0 0] 63)) := HB3.out.alloc HB3.out.size _
    refine (sread_calls false k ⟨#[]⟩ none 0 0 [] (HO.out.below hb4) hk (Sl.nil _ _ _) HN.out.1 HN.out.2).mono ?_
    rintro e w5 ⟨rfl, hR⟩
    have HR : Hid (SesPost w xb qb nb sb X Y s' w5) := by
      have h1 := (hR.after (Chl.of_below hb4)).after HC.out
      rw [← HS'.out]; exact h1
    clear hR hb4
    go_wp2
    go_ret2
    exact ⟨rfl, HR.out⟩
  · have h0 : (ge == 0) = false := by simpa using hgv2
    have h8 : (ge == 8) = false := by simpa using hgv3
    have hgv : gv = ⟨#[]⟩ := hgv1
    subst hgv
    have HE : Hid (ge ≠ 0 ∧ ge ≠ 8) := ⟨hgv2, hgv3⟩
    clear hgv1 hgv2 hgv3
    go_wp2_with fail
    go_ret2
    refine ⟨rfl, ?_⟩
    rw [← HS'.out, if_neg HE.out.1, if_neg HE.out.2]
    exact (SesPost.same HO.out (HB3.out.alloc HB3.out.size _)).after HC.out
theorem sgett_calls (h : Opn w xb rv qb nb sb X Y s) (hS : Stm w pb mb kv X S) (hd : ∀ b ∈ Y, b ≠ pb ∧ b ≠ mb ∧ kv.ownBlock ≠ some b) (k : ByteArray) (hkm : k.size ≤ 140737488351232) :
    Calls Try.prog 16 #[.pointer (some ⟨xb, 0, none⟩), .pointer (some ⟨pb, 0, none⟩), .string k] w fun e w' => e = .returned (.tuple #[.string (s.get S k).1.1, .int .i64 (s.get S k).1.2]) ∧ SesPost w xb qb nb sb X Y (s.get S k).2 w' := by
  by_cases h64 : 64 ≤ s.ops
  · have e : s.get S k = ((⟨#[]⟩, 13), s) := by unfold Ses.get; rw [if_neg (by simp [h.ok.op]), if_pos h64]
    rw [e]
    exact (sget_many h h64 _ k).mono fun e w' ⟨h1, h2⟩ => ⟨h1, by subst h2; exact SesPost.same h (Below.refl _ _)⟩
  · by_cases hk : k.size < 1 ∨ 64 < k.size
    · have e : s.get S k = ((⟨#[]⟩, 2), s.bump) := by unfold Ses.get; rw [if_neg (by simp [h.ok.op]), if_neg h64, if_pos hk]
      rw [e]
      exact (sget_arg h (by omega) _ k hk hkm).mono fun e w' ⟨h1, h2⟩ => ⟨h1, by subst h2; exact (SesPost.same (h.bump (by omega)) (Below.refl _ _)).after (Chl.setCell w h.xY _ _)⟩
    · cases hf : B.findK s.mine k with
      | some p =>
        have e : s.get S k = (if p.dead then (⟨#[]⟩, 8) else (p.val, 0), s.bump) := by unfold Ses.get; rw [if_neg (by simp [h.ok.op]), if_neg h64, if_neg hk, hf]
        rw [e]
        refine (sget_mine h (by omega) _ k (by omega) (by omega) p hf).mono fun e w' ⟨h1, h2⟩ => ⟨?_, h2⟩
        rw [h1]; cases p.dead <;> rfl
      | none =>
        have e : (s.get S k).1 = getS S k s.snap := by unfold Ses.get; rw [if_neg (by simp [h.ok.op]), if_neg h64, if_neg hk, hf]
        rw [e]
        exact sget_store h hS hd (by omega) k (by omega) (by omega) hf
end
end Go.Proofs.Ytidfogcilegloaa
