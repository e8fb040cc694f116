import Derived.Test.YtidfogcilegloaaS4
import Derived.Test.YtidfogcilegloaaB6
import Derived.Test.YtidfogcilegloaaW29
/-! A session's Get. -/
namespace Go.Proofs.Ytidfogcilegloaa
open Go.RowKit Go.Op

/-- What a session turns leaves a store, whose blocks are others. -/
theorem Stm.chl {w w' : World} {pb mb : Nat} {kv : Value} {X X' Y : List Nat} {S : Sto} (h : Stm w pb mb kv X S) (hc : Chl Y w w') (hd : ∀ b ∈ Y, b ≠ pb ∧ b ≠ mb ∧ kv.ownBlock ≠ some b) (hY : ∀ b ∈ Y, b ∈ X)
    (hsub : ∀ b ∈ X, b ∈ X') (hlt : ∀ b ∈ X', b < w'.heap.size) (hnew : ∀ b ∈ X', b ∈ X ∨ w.heap.size ≤ b) : Stm w' pb mb kv X' S := by
  have h0 := h.step (w' := w') hc.size (hc.block _ (h.lt _ h.inP) fun e => (hd _ e).1 rfl) (hc.block _ (h.lt _ h.inM) fun e => (hd _ e).2.1 rfl) (fun b e => hc.block _ (h.lt _ (h.inK b e)) fun e' => (hd _ e').2.2 e)
    fun b hb hn => hc.block b hb fun e => hn (hY b e)
  obtain ⟨V, hV, hC⟩ := h.map
  have hout : ∀ b, b < w.heap.size → b ∉ X → b ∉ X' := fun b hb hn hm => by
    rcases hnew b hm with h | h
    · exact hn h
    · omega
  exact ⟨h0.blk, h0.keys, ⟨V, hV.same (hc.block _ (h.lt _ h.inM) fun e => (hd _ e).2.1 rfl), (hC.more hout).step fun b hb hn => hc.block b hb fun e => hn (hsub b (hY b e))⟩, h.ok, h.few, h.last, hsub _ h.inP, hsub _ h.inM, fun b e => hsub _ (h.inK b e), hlt, h.nP, h.nM⟩

section
variable {w : World} {xb : Nat} {rv : Value} {qb nb sb : Nat} {X Y : List Nat} {s : Ses}
def SesPost (w : World) (xb qb nb sb : Nat) (X Y : List Nat) (s' : Ses) (w' : World) : Prop := ∃ rv' N, Opn w' xb rv' qb nb sb (N ++ X) (N ++ Y) s' ∧ Chl Y w w' ∧ ∀ b ∈ N, b ∈ Y ∨ w.heap.size ≤ b
theorem SesPost.same {w' : World} (h : Opn w xb rv qb nb sb X Y s) (hb : Below w.heap.size w w') : SesPost w xb qb nb sb X Y s w' := ⟨rv, [], h.below hb, Chl.of_below hb, by simp⟩
theorem SesPost.after {w1 w' : World} {s' : Ses} (h : SesPost w1 xb qb nb sb X Y s' w') (hc : Chl Y w w1) : SesPost w xb qb nb sb X Y s' w' := by
  obtain ⟨rv', N, h1, h2, h3⟩ := h
  exact ⟨rv', N, h1, hc.trans h2 fun b hb => .inl hb, fun b hb => (h3 b hb).imp id fun h => Nat.le_trans hc.size h⟩
theorem sread_calls (sc : Bool) (k t : ByteArray) (P : Option Addr) (np cp : Nat) (ps : List Pair) (h : Opn w xb rv qb nb sb X Y s) (hk : k.size ≤ 64) (hp : Sl tPair w (· ∉ X) (.slice P np cp) ps)
    (h1 : (s.reads.length : Int) + 1 ≤ s.ops) (h2 : (s.seen.length : Int) + 1 ≤ s.ops) :
    Calls Try.prog 34 #[.pointer (some ⟨xb, 0, none⟩), .agg #[.bool sc, .string k, .string t, .slice P np cp]] w fun e w' => e = .returned (.tuple #[]) ∧ SesPost w xb qb nb sb X Y (s.read ⟨sc, k, t, ps⟩) w' := by
  cases sc
  · by_cases hs : k ∈ s.seen
    · refine (sread_has s xb sb rv _ k t P np cp w h.blk h.map (by unfold maxLen; omega) hs).mono fun e w' ⟨e1, e2⟩ => ⟨e1, ?_⟩
      rw [show s.read ⟨false, k, t, ps⟩ = s by unfold Ses.read; rw [if_pos ⟨rfl, hs⟩]]
      exact SesPost.same h e2
    · exact sread_new s xb rv qb nb sb X Y k t P np cp ps w h hk hs hp h1 h2
  · exact sread_scan s xb rv qb nb sb X Y k t P np cp ps w h hk hp h1 h2
end

/-! ### Get -/
def Ses.get (s : Ses) (S : Sto) (k : ByteArray) : (ByteArray × Int) × Ses :=
  if s.op = false then ((⟨#[]⟩, 9), s) else if 64 ≤ s.ops then ((⟨#[]⟩, 13), s) else if k.size < 1 ∨ 64 < k.size then ((⟨#[]⟩, 2), s.bump) else
    match B.findK s.mine k with
    | some p => (if p.dead then (⟨#[]⟩, 8) else (p.val, 0), s.bump)
    | none => (getS S k s.snap, if (getS S k s.snap).2 = 0 then s.bump.read ⟨false, k, ⟨#[]⟩, [⟨k, (getS S k s.snap).1, false⟩]⟩ else if (getS S k s.snap).2 = 8 then s.bump.read ⟨false, k, ⟨#[]⟩, []⟩ else s.bump)
section
variable {w : World} {xb : Nat} {rv : Value} {qb nb sb : Nat} {X Y : List Nat} {s : Ses}
theorem sget_many (h : Opn w xb rv qb nb sb X Y s) (h64 : 64 ≤ s.ops) (sp : Value) (k : ByteArray) :
    Calls Try.prog 16 #[.pointer (some ⟨xb, 0, none⟩), sp, .string k] w fun e w' => e = .returned (.tuple #[.string ⟨#[]⟩, .int .i64 13]) ∧ w = w' := by
  have HM := Lib.hid (smay_many s xb _ _ _ w h.blk h.pos h.ok.op h64)
  clear h h64
  go_enter Try.func16, Try.ntmps16
  go_wp2_with fail
  refine HM.out.mono ?_
  rintro e w' ⟨rfl, rfl⟩
  go_wp2
  go_ret2
  exact ⟨rfl, rfl⟩
theorem sget_arg (h : Opn w xb rv qb nb sb X Y s) (h64 : s.ops < 64) (sp : Value) (k : ByteArray) (hk : k.size < 1 ∨ 64 < k.size) (hkm : k.size ≤ 140737488351232) :
    Calls Try.prog 16 #[.pointer (some ⟨xb, 0, none⟩), sp, .string k] w fun e w' => e = .returned (.tuple #[.string ⟨#[]⟩, .int .i64 2]) ∧ w.setCell ⟨xb, 6, none⟩ (.int .i64 (s.ops + 1)) = w' := by
  have HM := Lib.hid (smay_ok s xb _ _ _ w h.blk h.pos h.ok.op h.ok.o0 h64)
  obtain ⟨w1, hw1⟩ : ∃ w1, w.setCell ⟨xb, 6, none⟩ (.int .i64 (s.ops + 1)) = w1 := ⟨_, rfl⟩
  rw [hw1] at HM ⊢
  clear h h64 hw1
  rcases hk with hk | hk
  · have hk' : k.toList = [] := (B.empty_iff k).1 hk
    go_enter Try.func16, Try.ntmps16
    go_wp2_with fail
    refine HM.out.mono ?_
    rintro e w' ⟨rfl, rfl⟩
    go_wp2
    go_ret2
    exact ⟨rfl, rfl⟩
  · have hk' : k.toList.isEmpty = false := by
      rw [List.isEmpty_eq_false_iff]; intro e; have := (B.empty_iff k).2 e; omega
    go_enter Try.func16, Try.ntmps16
    go_wp2_with fail
    refine HM.out.mono ?_
    rintro e w' ⟨rfl, rfl⟩
    go_wp2
    go_ret2
    exact ⟨rfl, rfl⟩
set_option maxHeartbeats 1000000 in
theorem sget_mine (h : Opn w xb rv qb nb sb X Y s) (h64 : s.ops < 64) (sp : Value) (k : ByteArray) (hk1 : 1 ≤ k.size) (hk : k.size ≤ 64) (p : Pair) (hp : B.findK s.mine k = some p) :
    Calls Try.prog 16 #[.pointer (some ⟨xb, 0, none⟩), sp, .string k] w fun e w' => e = .returned (.tuple (if p.dead then #[.string ⟨#[]⟩, .int .i64 8] else #[.string p.val, .int .i64 0])) ∧ SesPost w xb qb nb sb X Y s.bump w' := by
  have HM := Lib.hid (smay_ok s xb _ _ _ w h.blk h.pos h.ok.op h.ok.o0 h64)
  have h1 := h.bump h64
  obtain ⟨w1, hw1⟩ : ∃ w1, w.setCell ⟨xb, 6, none⟩ (.int .i64 (s.ops + 1)) = w1 := ⟨_, rfl⟩
  have HC : Hid (Chl Y w w1) := by rw [← hw1]; exact Chl.setCell w h.xY _ _
  rw [hw1] at HM h1
  have c5 : w1.cell? ⟨xb, 5, none⟩ = some (.pointer (some ⟨qb, 0, none⟩)) := h1.blk.cell 5
  have HG := Lib.hid (B.get_calls qb nb s.mine k w1 h1.buf (by omega))
  rw [hp] at HG
  simp only [Option.getD_some, Option.isSome_some, B.tyv] at HG
  have HO := Lib.hid h1
  have hk' : k.toList.isEmpty = false := by
    rw [List.isEmpty_eq_false_iff]; intro e; have := (B.empty_iff k).2 e; omega
  clear h h64 hw1 h1 hp
  cases hd : p.dead
  all_goals
    rw [hd] at HG
    have HD := Lib.hid hd
    clear hd
    go_enter Try.func16, Try.ntmps16
    go_wp2_with fail
    refine HM.out.mono ?_
    rintro e w' ⟨rfl, rfl⟩
    go_wp2_with fail
    refine HG.out.mono ?_
    rintro e w2 ⟨rfl, hb⟩
    have HB := Lib.hid hb
    clear hb c5
    go_wp2
    go_ret2
    exact ⟨rfl, (SesPost.same HO.out (HB.out.alloc HB.out.size _)).after HC.out⟩
end
end Go.Proofs.Ytidfogcilegloaa
