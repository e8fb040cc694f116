import Derived.Test.YtidfogcilegloaaS6
/-! A session's Scan. -/
namespace Go.Proofs.Ytidfogcilegloaa
open Go.RowKit Go.Op

def Ses.scan (s : Ses) (S : Sto) (x y : ByteArray) : (List Pair × Int) × Ses :=
  if s.op = false then (([], 9), s) else if 64 ≤ s.ops then (([], 13), s) else if 64 < x.size ∨ 64 < y.size then (([], 2), s.bump) else
    if (scanS S x y s.snap 201).2 ≠ 0 then (([], (scanS S x y s.snap 201).2), s.bump) else if 200 < (scanS S x y s.snap 201).1.length then (([], 13), s.bump) else
      ((B.over s.mine (scanS S x y s.snap 201).1 x y 200, 0), s.bump.read ⟨true, x, y, (scanS S x y s.snap 201).1⟩)
section
variable {w : World} {xb : Nat} {rv : Value} {qb nb sb : Nat} {X Y : List Nat} {s : Ses} {pb mb : Nat} {kv : Value} {S : Sto}
def ScanPost (w : World) (xb qb nb sb : Nat) (X Y : List Nat) (r : (List Pair × Int) × Ses) (e : Ending) (w' : World) : Prop :=
  ∃ v, e = .returned (.tuple #[v, .int .i64 r.1.2]) ∧ Sl tPair w' (fun b => w.heap.size ≤ b) v r.1.1 ∧ SesPost w xb qb nb sb X Y r.2 w'
theorem sscan_many (h : Opn w xb rv qb nb sb X Y s) (h64 : 64 ≤ s.ops) (sp : Value) (x y : ByteArray) :
    Calls Try.prog 17 #[.pointer (some ⟨xb, 0, none⟩), sp, .string x, .string y] w fun e w' => e = .returned (.tuple #[.slice none 0 0, .int .i64 13]) ∧ w = w' := by
  have HM := Lib.hid (smay_many s xb _ _ _ w h.blk h.pos h.ok.op h64)
  clear h h64
  go_enter Try.func17, Try.ntmps17
  go_wp2_with fail
  refine HM.out.mono ?_
  rintro e w' ⟨rfl, rfl⟩
  go_wp2
  go_ret2
  exact ⟨rfl, rfl⟩
theorem sscan_arg (h : Opn w xb rv qb nb sb X Y s) (h64 : s.ops < 64) (sp : Value) (x y : ByteArray) (hk : 64 < x.size ∨ 64 < y.size) (hx : x.size ≤ 140737488351232) (hy : y.size ≤ 140737488351232) :
    Calls Try.prog 17 #[.pointer (some ⟨xb, 0, none⟩), sp, .string x, .string y] w fun e w' => e = .returned (.tuple #[.slice none 0 0, .int .i64 2]) ∧ w.setCell ⟨xb, 6, none⟩ (.int .i64 (s.ops + 1)) = w' := by
  have HM := Lib.hid (smay_ok s xb _ _ _ w h.blk h.pos h.ok.op h.ok.o0 h64)
  obtain ⟨w1, hw1⟩ : ∃ w1, w.setCell ⟨xb, 6, none⟩ (.int .i64 (s.ops + 1)) = w1 := ⟨_, rfl⟩
  rw [hw1] at HM ⊢
  clear h h64 hw1
  by_cases hk1 : 64 < x.size
  · clear hk
    go_enter Try.func17, Try.ntmps17
    go_wp2_with fail
    refine HM.out.mono ?_
    rintro e w' ⟨rfl, rfl⟩
    go_wp2
    go_ret2
    exact ⟨rfl, rfl⟩
  · have hk2 : 64 < y.size := by omega
    clear hk
    go_enter Try.func17, Try.ntmps17
    go_wp2_with fail
    refine HM.out.mono ?_
    rintro e w' ⟨rfl, rfl⟩
    go_wp2
    go_ret2
    exact ⟨rfl, rfl⟩
theorem scan_few (S : Sto) (x y : ByteArray) (n : Int) : (scanS S x y n 201).1.length ≤ 201 := by
  unfold scanS
  split
  · show ((scan S.ents x y n).take (201 : Int).toNat).length ≤ 201
    rw [List.length_take]
    have : (201 : Int).toNat = 201 := rfl
    omega
  · simp
set_option maxHeartbeats 4000000 in
theorem sscan_store (h : Opn w xb rv qb nb sb X Y s) (hS : Stm w pb mb kv X S) (hd : ∀ b ∈ Y, b ≠ pb ∧ b ≠ mb ∧ kv.ownBlock ≠ some b) (h64 : s.ops < 64) (x y : ByteArray) (hx : x.size ≤ 64) (hy : y.size ≤ 64) :
    Calls Try.prog 17 #[.pointer (some ⟨xb, 0, none⟩), .pointer (some ⟨pb, 0, none⟩), .string x, .string y] w (ScanPost w xb qb nb sb X Y (s.scan S x y)) := by
  have hfin : s.scan S x y = if (scanS S x y s.snap 201).2 ≠ 0 then (([], (scanS S x y s.snap 201).2), s.bump) else if 200 < (scanS S x y s.snap 201).1.length then (([], 13), s.bump) else
      ((B.over s.mine (scanS S x y s.snap 201).1 x y 200, 0), s.bump.read ⟨true, x, y, (scanS S x y s.snap 201).1⟩) := by
    unfold Ses.scan
    rw [if_neg (by simp [h.ok.op]), if_neg (by omega), if_neg (by omega)]
  rw [hfin]
  have HM := Lib.hid (smay_ok s xb _ _ _ w h.blk h.pos h.ok.op h.ok.o0 h64)
  have h1 := h.bump h64
  have HN : Hid ((s.bump.reads.length : Int) + 1 ≤ s.bump.ops ∧ (s.bump.seen.length : Int) + 1 ≤ s.bump.ops) := ⟨by have := h.ok.nr; show (s.reads.length : Int) + 1 ≤ s.ops + 1; omega, by have := h.ok.ns; show (s.seen.length : Int) + 1 ≤ s.ops + 1; omega⟩
  have hS1 : Stm (w.setCell ⟨xb, 6, none⟩ (.int .i64 (s.ops + 1))) pb mb kv X S := hS.chl (Chl.setCell (L := Y) w h.xY _ _) hd h.sub (fun _ h => h) (fun b hb => by rw [World.size_setCell]; exact h.lt b hb) (fun _ h => .inl h)
  obtain ⟨w1, hw1⟩ : ∃ w1, w.setCell ⟨xb, 6, none⟩ (.int .i64 (s.ops + 1)) = w1 := ⟨_, rfl⟩
  have HC : Hid (Chl Y w w1) := by rw [← hw1]; exact Chl.setCell w h.xY _ _
  have HZ : Hid (w1.heap.size = w.heap.size) := by rw [← hw1]; exact World.size_setCell _ _ _
  rw [hw1] at HM h1 hS1
  have HO := Lib.hid h1
  have c2 : w1.cell? ⟨xb, 2, none⟩ = some (.int .i64 s.snap) := h1.blk.cell 2
  have HSC := Lib.hid (scan_calls pb mb kv X S x y s.snap 201 w1 hS1 (by unfold maxLen; omega) (by unfold maxLen; omega))
  have hfew := scan_few S x y s.snap
  obtain ⟨g, hg⟩ : ∃ g, scanS S x y s.snap 201 = g := ⟨_, rfl⟩
  rw [hg] at HSC hfew ⊢
  obtain ⟨sn, hsn⟩ : ∃ sn, s.snap = sn := ⟨_, rfl⟩
  rw [hsn] at HSC c2
  obtain ⟨gl, ge⟩ := g
  obtain ⟨r, hr⟩ : ∃ r, (if ge ≠ 0 then (([], ge), s.bump) else if 200 < gl.length then (([], 13), s.bump) else ((B.over s.mine gl x y 200, 0), s.bump.read ⟨true, x, y, gl⟩) : (List Pair × Int) × Ses) = r := ⟨_, rfl⟩
  have hr' : (if ((gl, ge) : List Pair × Int).2 ≠ 0 then (([], ((gl, ge) : List Pair × Int).2), s.bump) else if 200 < ((gl, ge) : List Pair × Int).1.length then (([], 13), s.bump) else ((B.over s.mine ((gl, ge) : List Pair × Int).1 x y 200, 0), s.bump.read ⟨true, x, y, ((gl, ge) : List Pair × Int).1⟩) : (List Pair × Int) × Ses) = r := hr
  rw [hr']
  have HR := Lib.hid hr
  have hgl : gl.length ≤ 201 := hfew
  clear h h64 hw1 h1 hS hS1 hd hg hsn hfin hr hr' hfew
  go_enter Try.func17, Try.ntmps17
  go_wp2_with fail
  refine HM.out.mono ?_
  rintro e w' ⟨rfl, rfl⟩
  go_wp2_with fail
  refine HSC.out.mono ?_
  rintro e w2 ⟨v, rfl, hv, hb2⟩
  obtain ⟨A, c, rfl, -⟩ := hv.form
  obtain ⟨n, hn⟩ : ∃ n, gl.length = n := ⟨_, rfl⟩
  rw [hn] at hv hgl ⊢
  have HV := Lib.hid hv
  have HB2 := Lib.hid hb2
  have HNL := Lib.hid hn
  clear hv hb2 hn c2
  by_cases he : ge = 0
  · subst he
    by_cases hl : 200 < n
    · go_wp2
      go_ret2
      refine ⟨.slice none 0 0, ?_, ?_, ?_⟩
      · rw [← HR.out, if_neg (by simp), if_pos (by rw [HNL.out]; exact hl)]; rfl
      · rw [← HR.out, if_neg (by simp), if_pos (by rw [HNL.out]; exact hl)]; exact Sl.nil _ _ _
      · rw [← HR.out, if_neg (by simp), if_pos (by rw [HNL.out]; exact hl)]; exact (SesPost.same HO.out HB2.out).after HC.out
    · go_wp2_with fail
      refine (sread_calls true x y A n c gl (HO.out.below HB2.out) hx (HV.out.mono fun b hb hm => ?_) HN.out.1 HN.out.2).mono ?_
      · have := HO.out.lt b hm; omega
      rintro e w5 ⟨rfl, rv', N, h1, h2, h3⟩
      have HO5 := Lib.hid h1
      have HC5 := Lib.hid h2
      have HN5 := Lib.hid h3
      have c5 : w5.cell? ⟨xb, 5, none⟩ = some (.pointer (some ⟨qb, 0, none⟩)) := h1.blk.cell 5
      have hV5 : Sl tPair w5 (fun b => w1.heap.size ≤ b) (.slice A n c) gl := (HV.out.inb.step fun b hb => h2.block b hb.2 fun hm => by have := HO.out.lt b (HO.out.sub b hm); have := hb.1; omega).mono fun b hb => hb.1
      have HV5 := Lib.hid hV5
      have HOV := Lib.hid (B.over_calls qb nb s.mine gl A n c x y 200 w5 (by have := h1.buf; rwa [show (s.bump.read ⟨true, x, y, gl⟩).mine = s.mine by unfold Ses.read; split <;> rfl] at this) (hV5.mono fun _ _ => trivial) (by omega))
      clear h1 h2 h3 hV5
      go_wp2_with fail
      refine HOV.out.mono ?_
      rintro e w6 ⟨v6, rfl, hv6, hb6⟩
      have HV6 := Lib.hid hv6
      have HB6 := Lib.hid hb6
      clear hv6 hb6 c5
      go_wp2
      go_ret2
      have hs5 := HC5.out.size
      have hs2 := HB2.out.size
      refine ⟨v6, ?_, ?_, ?_⟩
      · rw [← HR.out, if_neg (by simp), if_neg (by rw [HNL.out]; exact hl)]; rfl
      · rw [← HR.out, if_neg (by simp), if_neg (by rw [HNL.out]; exact hl)]; exact HV6.out.mono fun b hb => by have := HZ.out; omega
      · rw [← HR.out, if_neg (by simp), if_neg (by rw [HNL.out]; exact hl)]
        have h6 : SesPost w2 xb qb nb sb X Y (s.bump.read ⟨true, x, y, gl⟩) w6 := ⟨rv', N, HO5.out.below HB6.out, HC5.out.trans (L' := Y) (Chl.of_below HB6.out) fun b hb => .inl hb, HN5.out⟩
        exact (h6.after (Chl.of_below HB2.out)).after HC.out
  · have h0 : (ge != 0) = true := by simpa using he
    have HE := Lib.hid he
    clear he
    go_wp2
    go_ret2
    refine ⟨.slice none 0 0, ?_, ?_, ?_⟩
    · rw [← HR.out, if_pos HE.out]; rfl
    · rw [← HR.out, if_pos HE.out]; exact Sl.nil _ _ _
    · rw [← HR.out, if_pos HE.out]; exact (SesPost.same HO.out HB2.out).after HC.out
theorem sscan_calls (h : Opn w xb rv qb nb sb X Y s) (hS : Stm w pb mb kv X S) (hd : ∀ b ∈ Y, b ≠ pb ∧ b ≠ mb ∧ kv.ownBlock ≠ some b) (x y : ByteArray) (hx : x.size ≤ 140737488351232) (hy : y.size ≤ 140737488351232) :
    Calls Try.prog 17 #[.pointer (some ⟨xb, 0, none⟩), .pointer (some ⟨pb, 0, none⟩), .string x, .string y] w (ScanPost w xb qb nb sb X Y (s.scan S x y)) := by
  by_cases h64 : 64 ≤ s.ops
  · have e : s.scan S x y = (([], 13), s) := by unfold Ses.scan; rw [if_neg (by simp [h.ok.op]), if_pos h64]
    rw [e]
    exact (sscan_many h h64 _ x y).mono fun e w' ⟨h1, h2⟩ => ⟨_, h1, Sl.nil _ _ _, by subst h2; exact SesPost.same h (Below.refl _ _)⟩
  · by_cases hk : 64 < x.size ∨ 64 < y.size
    · have e : s.scan S x y = (([], 2), s.bump) := by unfold Ses.scan; rw [if_neg (by simp [h.ok.op]), if_neg h64, if_pos hk]
      rw [e]
      exact (sscan_arg h (by omega) _ x y hk hx hy).mono fun e w' ⟨h1, h2⟩ => ⟨_, h1, Sl.nil _ _ _, by subst h2; exact (SesPost.same (h.bump (by omega)) (Below.refl _ _)).after (Chl.setCell w h.xY _ _)⟩
    · exact sscan_store h hS hd (by omega) x y (by omega) (by omega)
end
end Go.Proofs.Ytidfogcilegloaa
