import Derived.Test.YtidfogcilegloaaS3
/-! A session begins. -/
namespace Go.Proofs.Ytidfogcilegloaa
open Go.RowKit Go.Op

structure Cls (w : World) (xb : Nat) (sv : Value) (X : List Nat) (id : Int) : Prop where
  blk : Blk w xb ((Ses.shut id).cells (.slice none 0 0) (.pointer none) sv) 53
  inX : xb ∈ X
  id1 : 1 ≤ id
  id8 : id ≤ 8
theorem Cls.below {w w' : World} {xb : Nat} {sv : Value} {X : List Nat} {id : Int} (h : Cls w xb sv X id) (hb : Below w.heap.size w w') : Cls w' xb sv X id := ⟨h.blk.below hb h.blk.lt, h.inX, h.id1, h.id8⟩
theorem get_ne (S : Sto) (k : ByteArray) (n : Int) : ((getS S k n).2 == 1) = false := by
  unfold getS
  split
  · generalize get (chainOf S.ents k) n = o
    cases o <;> rfl
  · rename_i hm
    unfold may at hm ⊢
    split
    · rfl
    · split
      · rfl
      · rename_i h1 h2; rw [if_neg h1, if_neg h2] at hm; exact absurd rfl hm
def Ses.start (id snap : Int) (strict : Bool) : Ses := ⟨id, true, snap, strict, [], [], 0, []⟩
theorem Ses.Ok.start {id : Int} (h1 : 1 ≤ id) (h8 : id ≤ 8) (snap : Int) (strict : Bool) : (Ses.start id snap strict).Ok :=
  ⟨rfl, h1, h8, Int.le_refl _, by simp [Ses.start], by simp [Ses.start], by simp [Ses.start], (fun _ h => by cases h), fun k => ⟨(fun h => by cases h), (fun ⟨_, h, _⟩ => by cases h)⟩⟩

set_option maxHeartbeats 2000000 in
theorem sbegin_calls (pb mb : Nat) (kv : Value) (X : List Nat) (S : Sto) (xb : Nat) (sv : Value) (id : Int) (strict : Bool) (w : World) (h : Stm w pb mb kv X S) (hc : Cls w xb sv X id) :
    Calls Try.prog 10 #[.pointer (some ⟨xb, 0, none⟩), .pointer (some ⟨pb, 0, none⟩), .bool strict] w fun e w' => e = .returned (.int .i64 0) ∧ ∃ qb nb sb, Opn w' xb (.slice none 0 0) qb nb sb ([qb, nb, sb] ++ X) ([qb, nb, sb] ++ [xb]) (Ses.start id S.last strict) ∧ Chl [xb] w w' ∧
      ∀ b ∈ [qb, nb, sb], w.heap.size ≤ b := by
  have HMD := Lib.hid (smade_calls xb id w (hc.blk.cell 0) (by have := hc.id1; omega))
  have c1 : w.cell? ⟨xb, 1, none⟩ = some (.bool false) := hc.blk.cell 1
  have HL := Lib.hid (slast_calls pb mb kv X S w h)
  have HG := Lib.hid (sget_calls pb mb kv X S ⟨#[]⟩ S.last w h (by simp [maxLen, ByteArray.size]))
  have hne := get_ne S ⟨#[]⟩ S.last
  obtain ⟨g, hg⟩ : ∃ g, getS S ⟨#[]⟩ S.last = g := ⟨_, rfl⟩
  rw [hg] at HG hne
  have HL2 := Lib.hid (fun W hb => slast_calls pb mb kv X S W (h.below hb))
  have HX := Lib.hid h.lt
  have HC := Lib.hid hc
  obtain ⟨la, hla⟩ : ∃ la, S.last = la := ⟨_, rfl⟩
  rw [hla] at HL HG HL2 ⊢
  clear h hc hg hla
  obtain ⟨gv, ge⟩ := g
  have hne' : (ge == 1) = false := hne
  clear hne
  go_enter Try.func10, Try.ntmps10
  go_wp2_with fail
  refine HMD.out.mono ?_
  rintro e w' ⟨rfl, rfl⟩
  go_wp2_with fail
  refine HL.out.mono ?_
  rintro e w' ⟨rfl, rfl⟩
  go_wp2_with fail
  refine HG.out.mono ?_
  rintro e w1 ⟨rfl, hb1⟩
  have HB1 := Lib.hid hb1
  have HL3 := Lib.hid (HL2.out w1 hb1)
  clear hb1 HL2
  go_wp2_with fail
  refine HL3.out.mono ?_
  rintro e w' ⟨rfl, rfl⟩
  go_wp2_with fail
  refine (B.new_calls w1).mono ?_
  rintro e w2 ⟨rfl, hq, hb2⟩
  obtain ⟨z, hz⟩ : ∃ z, w1.heap.size = z := ⟨_, rfl⟩
  have HZ := Lib.hid hz
  have HQ := Lib.hid hq
  have HB2 := Lib.hid hb2
  have hX2 := HC.out.below (HB1.out.trans (hb2.mono HB1.out.size))
  have HX2 := Lib.hid hX2
  have x1 : w2.cell? ⟨xb, 1, none⟩ = some (.bool false) := hX2.blk.cell 1
  have x2 : w2.cell? ⟨xb, 2, none⟩ = some (.int .i64 0) := hX2.blk.cell 2
  have x3 : w2.cell? ⟨xb, 3, none⟩ = some (.bool false) := hX2.blk.cell 3
  have x4 : w2.cell? ⟨xb, 4, none⟩ = some (.slice none 0 0) := hX2.blk.cell 4
  have x5 : w2.cell? ⟨xb, 5, none⟩ = some (.pointer none) := hX2.blk.cell 5
  have f1 := hX2.blk.frozen 1
  have f2 := hX2.blk.frozen 2
  have f3 := hX2.blk.frozen 3
  have f4 := hX2.blk.frozen 4
  have f5 := hX2.blk.frozen 5
  clear hq hb2 hX2 c1
  rw [hz] at HQ HB2 ⊢
  clear hz
  go_wp2_with fail
  have hW := workW_blk HX2.out.blk true la strict (.slice none 0 0) (.pointer (some ⟨z + 1, 0, none⟩))
  have hG := workW_grown w2 xb true la strict (.slice none 0 0) (.pointer (some ⟨z + 1, 0, none⟩))
  rw [workW] at hW hG
  generalize ((((w2.setCell ⟨xb, 1, none⟩ (.bool true)).setCell ⟨xb, 2, none⟩ (.int .i64 la)).setCell ⟨xb, 3, none⟩ (.bool strict)).setCell ⟨xb, 4, none⟩ (.slice none 0 0)).setCell ⟨xb, 5, none⟩ (.pointer (some ⟨z + 1, 0, none⟩)) = w3 at *
  have HS := Lib.hid (store_calls xb 6 0 0 w3 (hW.cell 6) (hW.frozen 6))
  have hR : Blk (w3.setCell ⟨xb, 6, none⟩ (.int .i64 0)) xb #[.int .i64 id, .bool true, .int .i64 la, .bool strict, .slice none 0 0, .pointer (some ⟨z + 1, 0, none⟩), .int .i64 0, sv] 53 := hW.set 6 (.int .i64 0)
  have hG3 : w2.grownBy (w3.setCell ⟨xb, 6, none⟩ (.int .i64 0)) (some xb) := hG.trans (setC_grown _ _ _ _)
  clear hW hG x1 x2 x3 x4 x5 f1 f2 f3 f4 f5
  refine HS.out.mono ?_
  rintro e w' ⟨rfl, rfl⟩
  clear HS
  generalize w3.setCell ⟨xb, 6, none⟩ (.int .i64 0) = w4 at *
  have hmm := @run_makeMap Try.prog
  have hR4 : Blk (w4.alloc (.map #[] 0)) xb _ 53 := hR.alloc _
  have x7 : (w4.alloc (.map #[] 0)).cell? ⟨xb, 7, none⟩ = some sv := hR4.cell 7
  have f7 := hR4.frozen 7
  have HR := Lib.hid hR4
  have HG3 := Lib.hid hG3
  clear hR hR4 hG3
  go_wp2
  go_ret
  have s1 := HB1.out.size
  have s2 := HB2.out.size
  have s3 := HG3.out.size
  have hzz := HZ.out
  have hq := HQ.out
  have hqlt := hq.blk.lt
  have hzlt : z < w2.heap.size := by obtain ⟨V, hV, _⟩ := hq.map; exact hV.lt
  have hxl : xb < w.heap.size := HX.out _ HC.out.inX
  have hfar : ∀ (k : Nat), k ≠ xb → ((w4.alloc (.map #[] 0)).setCell ⟨xb, 7, none⟩ (.map (some w4.heap.size))).heap[k]? = (w4.alloc (.map #[] 0)).heap[k]? := fun k hne => Below.heap_setCell (w4.alloc (.map #[] 0)) ⟨xb, 7, none⟩ _ k hne
  have hall : ∀ b, b < w2.heap.size → b ≠ xb → ((w4.alloc (.map #[] 0)).setCell ⟨xb, 7, none⟩ (.map (some w4.heap.size))).heap[b]? = w2.heap[b]? := fun b hb hne =>
    (hfar b hne).trans ((Below.heap_alloc w4 _ b (by omega)).trans (HG3.out.block b hb (fun e => hne (by injection e))))
  refine ⟨rfl, z + 1, z, w4.heap.size, ⟨?_, ?_, ?_, Own.nil _ _ _ _ _, Ses.Ok.start HC.out.id1 HC.out.id8 _ _, by simp, by simp, by simp, by simp, (by intro b e; cases e), ?_, ?_, by omega, by omega, by omega, by omega, by omega, by simp [Value.ownBlock], by simp [Value.ownBlock], by simp [Value.ownBlock], by simp [Value.ownBlock]⟩, ?_, ?_⟩
  · exact HR.out.set 7 (.map (some w4.heap.size))
  · exact buf_same hq (hall _ hqlt (by omega)) (hall _ hzlt (by omega))
  · exact (Mp.made KS w4).same (hfar _ (by omega))
  · intro b hb
    simp only [List.mem_cons, List.not_mem_nil, or_false] at hb ⊢
    rcases hb with rfl | rfl | rfl | rfl
    · exact .inl rfl
    · exact .inr (.inl rfl)
    · exact .inr (.inr (.inl rfl))
    · exact .inr (.inr (.inr HC.out.inX))
  · intro b hb
    rw [World.size_setCell, World.size_alloc]
    simp only [List.mem_cons] at hb
    rcases hb with rfl | rfl | rfl | hb
    · omega
    · omega
    · omega
    · have := HX.out b hb; omega
  · refine ⟨HG3.out.os.trans (HB2.out.os.trans HB1.out.os), HG3.out.tape.trans (HB2.out.tape.trans HB1.out.tape), HG3.out.output.trans (HB2.out.output.trans HB1.out.output), by rw [World.size_setCell, World.size_alloc]; omega, fun b hb hn => ?_⟩
    exact (hall b (by omega) (fun e => hn (by rw [e]; simp))).trans ((HB2.out.block b (by omega)).trans (HB1.out.block b hb))
  · intro b hb
    simp only [List.mem_cons, List.not_mem_nil, or_false] at hb
    omega
end Go.Proofs.Ytidfogcilegloaa
