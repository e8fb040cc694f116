import Derived.Test.YtidfogcilegloaaS8
/-! A store and a session of one call. -/
namespace Go.Proofs.Ytidfogcilegloaa
open Go.RowKit Go.Op

structure Both (w0 w : World) (pb mb : Nat) (kv : Value) (xb : Nat) (rv : Value) (qb nb sb : Nat) (X Y : List Nat) (S : Sto) (s : Ses) : Prop where
  my : My w0 w pb mb kv X S
  ses : Opn w xb rv qb nb sb X Y s
  dis : ∀ b ∈ Y, b ≠ pb ∧ b ≠ mb ∧ kv.ownBlock ≠ some b
structure Pre (w0 w : World) (pb mb : Nat) (kv : Value) (xb : Nat) (sv : Value) (X : List Nat) (S : Sto) (id : Int) : Prop where
  my : My w0 w pb mb kv X S
  ses : Cls w xb sv X id
  dis : xb ≠ pb ∧ xb ≠ mb ∧ kv.ownBlock ≠ some xb
/-- With an open session, whatever its blocks. -/
def Bo (w0 w : World) (pb mb xb : Nat) (S : Sto) (s : Ses) : Prop := ∃ kv rv qb nb sb X Y, Both w0 w pb mb kv xb rv qb nb sb X Y S s
/-- With one that is not. -/
def Pr (w0 w : World) (pb mb xb : Nat) (S : Sto) (id : Int) : Prop := ∃ kv sv X, Pre w0 w pb mb kv xb sv X S id
section
variable {w0 w w' : World} {pb mb : Nat} {kv : Value} {xb : Nat} {rv sv : Value} {qb nb sb : Nat} {X Y : List Nat} {S : Sto} {s s' : Ses} {id : Int}
theorem Both.below (h : Both w0 w pb mb kv xb rv qb nb sb X Y S s) (hb : Below w.heap.size w w') : Both w0 w' pb mb kv xb rv qb nb sb X Y S s := ⟨h.my.below hb, h.ses.below hb, h.dis⟩
theorem Bo.below (h : Bo w0 w pb mb xb S s) (hb : Below w.heap.size w w') : Bo w0 w' pb mb xb S s := by
  obtain ⟨kv, rv, qb, nb, sb, X, Y, h⟩ := h
  exact ⟨kv, rv, qb, nb, sb, X, Y, h.below hb⟩
theorem Pre.below (h : Pre w0 w pb mb kv xb sv X S id) (hb : Below w.heap.size w w') : Pre w0 w' pb mb kv xb sv X S id := ⟨h.my.below hb, h.ses.below hb, h.dis⟩
theorem Pr.below (h : Pr w0 w pb mb xb S id) (hb : Below w.heap.size w w') : Pr w0 w' pb mb xb S id := by
  obtain ⟨kv, sv, X, h⟩ := h
  exact ⟨kv, sv, X, h.below hb⟩
theorem Bo.be (h : Bo w0 w pb mb xb S s) : Below w0.heap.size w0 w := by obtain ⟨_, _, _, _, _, _, _, h⟩ := h; exact h.my.be
theorem Pr.be (h : Pr w0 w pb mb xb S id) : Below w0.heap.size w0 w := by obtain ⟨_, _, _, h⟩ := h; exact h.my.be
theorem Bo.ok (h : Bo w0 w pb mb xb S s) : s.Ok := by obtain ⟨_, _, _, _, _, _, _, h⟩ := h; exact h.ses.ok
/-- What a session's call leaves of both. -/
theorem my_chl {X' : List Nat} (h : My w0 w pb mb kv X S) (hc : Chl Y w w') (hd : ∀ b ∈ Y, b ≠ pb ∧ b ≠ mb ∧ kv.ownBlock ≠ some b) (hY : ∀ b ∈ Y, b ∈ X) (hsub : ∀ b ∈ X, b ∈ X') (hlt : ∀ b ∈ X', b < w'.heap.size) (hnew : ∀ b ∈ X', b ∈ X ∨ w.heap.size ≤ b) : My w0 w' pb mb kv X' S :=
  ⟨h.st.chl hc hd hY hsub hlt hnew, h.be.trans (hc.toBelow h.be.size fun b hb => h.ge b (hY b hb)), fun b hb => by
    rcases hnew b hb with h1 | h1
    · exact h.ge b h1
    · have := h.be.size; omega⟩
theorem Both.post (h : Both w0 w pb mb kv xb rv qb nb sb X Y S s) (hp : SesPost w xb qb nb sb X Y s' w') : Bo w0 w' pb mb xb S s' := by
  obtain ⟨rv', N, h1, h2, h3⟩ := hp
  have hlt := h.my.st.lt
  refine ⟨kv, rv', qb, nb, sb, N ++ X, N ++ Y, my_chl h.my h2 h.dis h.ses.sub (fun b hb => List.mem_append_right _ hb) h1.lt (fun b hb => ?_), h1, fun b hb => ?_⟩
  · rcases List.mem_append.1 hb with hb | hb
    · exact (h3 b hb).imp (h.ses.sub b) id
    · exact .inl hb
  · rcases List.mem_append.1 hb with hb | hb
    · rcases h3 b hb with h4 | h4
      · exact h.dis b h4
      · refine ⟨fun e => ?_, fun e => ?_, fun e => ?_⟩
        · have := hlt _ h.my.st.inP; omega
        · have := hlt _ h.my.st.inM; omega
        · have := hlt _ (h.my.st.inK b e); omega
    · exact h.dis b hb
theorem Bo.put (h : Bo w0 w pb mb xb S s) (k v : ByteArray) (hk : k.size ≤ 140737488351232) : Calls Try.prog 9 #[.pointer (some ⟨xb, 0, none⟩), .string k, .string v] w fun e w' => e = .returned (.int .i64 (s.put ⟨k, v, false⟩).1) ∧ Bo w0 w' pb mb xb S (s.put ⟨k, v, false⟩).2 := by
  obtain ⟨kv, rv, qb, nb, sb, X, Y, h⟩ := h
  exact (sput_calls h.ses k v hk).mono fun e w' ⟨h1, h2, h3⟩ => ⟨h1, h.post ⟨rv, [], h2, h3, by simp⟩⟩
theorem Bo.drop (h : Bo w0 w pb mb xb S s) (k : ByteArray) (hk : k.size ≤ 140737488351232) : Calls Try.prog 18 #[.pointer (some ⟨xb, 0, none⟩), .string k] w fun e w' => e = .returned (.int .i64 (s.put ⟨k, ⟨#[]⟩, true⟩).1) ∧ Bo w0 w' pb mb xb S (s.put ⟨k, ⟨#[]⟩, true⟩).2 := by
  obtain ⟨kv, rv, qb, nb, sb, X, Y, h⟩ := h
  exact (sdrop_calls h.ses k hk).mono fun e w' ⟨h1, h2, h3⟩ => ⟨h1, h.post ⟨rv, [], h2, h3, by simp⟩⟩
theorem Bo.get (h : Bo w0 w pb mb xb S s) (k : ByteArray) (hk : k.size ≤ 140737488351232) : Calls Try.prog 16 #[.pointer (some ⟨xb, 0, none⟩), .pointer (some ⟨pb, 0, none⟩), .string k] w fun e w' => e = .returned (.tuple #[.string (s.get S k).1.1, .int .i64 (s.get S k).1.2]) ∧ Bo w0 w' pb mb xb S (s.get S k).2 := by
  obtain ⟨kv, rv, qb, nb, sb, X, Y, h⟩ := h
  exact (sgett_calls h.ses h.my.st h.dis k hk).mono fun e w' ⟨h1, h2⟩ => ⟨h1, h.post h2⟩
theorem Bo.scan (h : Bo w0 w pb mb xb S s) (x y : ByteArray) (hx : x.size ≤ 140737488351232) (hy : y.size ≤ 140737488351232) : Calls Try.prog 17 #[.pointer (some ⟨xb, 0, none⟩), .pointer (some ⟨pb, 0, none⟩), .string x, .string y] w fun e w' =>
    ∃ v, e = .returned (.tuple #[v, .int .i64 (s.scan S x y).1.2]) ∧ Sl tPair w' (fun b => w.heap.size ≤ b) v (s.scan S x y).1.1 ∧ Bo w0 w' pb mb xb S (s.scan S x y).2 := by
  obtain ⟨kv, rv, qb, nb, sb, X, Y, h⟩ := h
  exact (sscan_calls h.ses h.my.st h.dis x y hx hy).mono fun e w' ⟨v, h1, h2, h3⟩ => ⟨v, h1, h2, h.post h3⟩
theorem Bo.record (h : Bo w0 w pb mb xb S s) : Calls Try.prog 11 #[.pointer (some ⟨xb, 0, none⟩)] w fun e w' => ∃ R nr cr W nw cw, e = .returned (.tuple #[.agg #[.int .i64 s.id, .int .i64 s.snap, .bool s.strict, .slice R nr cr, .slice W nw cw], .bool true]) ∧
      Sl C.tRead w' (fun _ => True) (.slice R nr cr) (C.keep [] s.reads) ∧ Sl tPair w' (fun _ => True) (.slice W nw cw) s.mine ∧ Below w.heap.size w w' ∧ Bo w0 w' pb mb xb S s := by
  obtain ⟨kv, rv, qb, nb, sb, X, Y, h⟩ := h
  exact (srecord_calls h.ses).mono fun e w' ⟨R, nr, cr, W, nw, cw, h1, h2, h3, h4⟩ => ⟨R, nr, cr, W, nw, cw, h1, h2, h3, h4, kv, rv, qb, nb, sb, X, Y, h.below h4⟩
theorem Bo.open_ (h : Bo w0 w pb mb xb S s) : Calls Try.prog 14 #[.pointer (some ⟨xb, 0, none⟩)] w fun e w' => e = .returned (.bool true) ∧ w = w' := by
  obtain ⟨kv, rv, qb, nb, sb, X, Y, h⟩ := h
  have := sopen_calls s xb _ _ _ w h.ses.blk h.ses.pos
  rwa [h.ses.ok.op] at this
theorem Bo.ops (h : Bo w0 w pb mb xb S s) : Calls Try.prog 12 #[.pointer (some ⟨xb, 0, none⟩)] w fun e w' => e = .returned (.int .i64 s.ops) ∧ w = w' := by
  obtain ⟨kv, rv, qb, nb, sb, X, Y, h⟩ := h
  exact sops_calls s xb _ _ _ w h.ses.blk h.ses.pos
theorem Bo.close (h : Bo w0 w pb mb xb S s) : Calls Try.prog 13 #[.pointer (some ⟨xb, 0, none⟩)] w fun e w' => e = .returned (.bool true) ∧ Pr w0 w' pb mb xb S s.id := by
  obtain ⟨kv, rv, qb, nb, sb, X, Y, h⟩ := h
  refine (sclose_calls s xb _ _ _ w h.ses.blk h.ses.pos h.ses.ok.op).mono fun e w' ⟨h1, h2, h3⟩ => ⟨h1, kv, _, X, ?_, ⟨h2, h.ses.sub _ h.ses.xY, h.ses.ok.id1, h.ses.ok.id8⟩, h.dis _ h.ses.xY⟩
  exact my_chl h.my (Chl.of_grown (L := Y) h3 fun b e => .inl (by injection e with e; rw [← e]; exact h.ses.xY)) h.dis h.ses.sub (fun _ h => h) (fun b hb => Nat.lt_of_lt_of_le (h.ses.lt b hb) h3.size) fun _ h => .inl h
theorem Pr.shut (h : Pr w0 w pb mb xb S id) : ∃ sv, Blk w xb ((Ses.shut id).cells (.slice none 0 0) (.pointer none) sv) 53 ∧ 0 < id := by
  obtain ⟨kv, sv, X, h⟩ := h
  exact ⟨sv, h.ses.blk, by have := h.ses.id1; omega⟩
theorem Pr.begin (h : Pr w0 w pb mb xb S id) (strict : Bool) : Calls Try.prog 10 #[.pointer (some ⟨xb, 0, none⟩), .pointer (some ⟨pb, 0, none⟩), .bool strict] w fun e w' => e = .returned (.int .i64 0) ∧ Bo w0 w' pb mb xb S (Ses.start id S.last strict) := by
  obtain ⟨kv, sv, X, h⟩ := h
  refine (sbegin_calls pb mb kv X S xb sv id strict w h.my.st h.ses).mono fun e w' ⟨h1, qb, nb, sb, h2, h3, h4⟩ => ⟨h1, kv, _, qb, nb, sb, _, _, ?_, h2, ?_⟩
  · refine my_chl h.my h3 (fun b hb => by rw [List.mem_singleton.1 hb]; exact h.dis) (fun b hb => by rw [List.mem_singleton.1 hb]; exact h.ses.inX) (fun b hb => List.mem_append_right _ hb) h2.lt fun b hb => ?_
    rcases List.mem_append.1 hb with hb | hb
    · exact .inr (h4 b hb)
    · exact .inl hb
  · intro b hb
    have hlt := h.my.st.lt
    rcases List.mem_append.1 hb with hb | hb
    · have hge := h4 b hb
      refine ⟨fun e => ?_, fun e => ?_, fun e => ?_⟩
      · have := hlt _ h.my.st.inP; omega
      · have := hlt _ h.my.st.inM; omega
      · have := hlt _ (h.my.st.inK b e); omega
    · rw [List.mem_singleton.1 hb]; exact h.dis
theorem pr_new (h : My w0 w pb mb kv X S) (h1 : 1 ≤ id) (h8 : id ≤ 8) : Calls Try.prog 7 #[.int .i64 id] w fun e w' => e = .returned (.pointer (some ⟨w.heap.size, 0, none⟩)) ∧ Pr w0 w' pb mb w.heap.size S id := by
  refine (snew_yes id w h1 h8).mono fun e w' ⟨e1, e2⟩ => ⟨e1, ?_⟩
  subst e2
  have hb : Below w.heap.size w (w.alloc (.cells ((Ses.shut id).cells (.slice none 0 0) (.pointer none) (.map none)) 53)) := (Below.refl _ _).alloc (Nat.le_refl _) _
  have hlt := h.st.lt
  refine ⟨kv, .map none, w.heap.size :: X, my_chl h (Chl.of_below (L := []) hb) (by simp) (by simp) (fun b hb => List.mem_cons_of_mem _ hb) (fun b hb => ?_) (fun b hb => ?_), ⟨Blk.new _ _ _, by simp, h1, h8⟩, fun e => ?_, fun e => ?_, fun e => ?_⟩
  · rw [World.size_alloc]
    rcases List.mem_cons.1 hb with rfl | hb
    · omega
    · have := hlt b hb; omega
  · rcases List.mem_cons.1 hb with rfl | hb
    · exact .inr (Nat.le_refl _)
    · exact .inl hb
  · have := hlt _ h.st.inP; omega
  · have := hlt _ h.st.inM; omega
  · have := hlt _ (h.st.inK _ e); omega
/-- The store has turned beside an open session. -/
theorem Both.store {kv' : Value} {X' : List Nat} {S' : Sto} (h : Both w0 w pb mb kv xb rv qb nb sb X Y S s) (hM : My w0 w' pb mb kv' X' S') (hc : Chg pb mb kv w w') (hk : Kin w kv kv') (hx : Xin w X X') : Both w0 w' pb mb kv' xb rv qb nb sb X' Y S' s := by
  have hlt := h.my.st.lt
  refine ⟨hM, h.ses.shift hc.size (fun b hb => hc.block b (h.ses.lt b (h.ses.sub b hb)) (h.dis b hb).1 (h.dis b hb).2.1 (h.dis b hb).2.2)
    (fun b hb hn => hc.block b hb (fun e => hn (by rw [e]; exact h.my.st.inP)) (fun e => hn (by rw [e]; exact h.my.st.inM)) (fun e => hn (h.my.st.inK b e))) hx.2 hM.st.lt hx.1, fun b hb => ⟨(h.dis b hb).1, (h.dis b hb).2.1, fun e => ?_⟩⟩
  rcases hk with hk | hk
  · rw [hk] at e; exact (h.dis b hb).2.2 e
  · have := hk b e; have := hlt b (h.ses.sub b hb); omega
end
end Go.Proofs.Ytidfogcilegloaa
