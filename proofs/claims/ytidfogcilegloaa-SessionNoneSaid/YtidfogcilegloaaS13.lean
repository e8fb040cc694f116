import Derived.Test.YtidfogcilegloaaS12
import Derived.Test.YtidfogcilegloaaW31
/-! What was read stands as it was: plain law; the store beside a session. -/
namespace Go.Proofs.Ytidfogcilegloaa
open Go.RowKit Go.Op

theorem inst_size {S : Sto} (h : S.Ok) (n : Int) (l : List Pair) : (inst S n l).2.ents.length ≤ S.ents.length + l.length ∧ (inst S n l).2.last ≤ S.last + 1 ∧ S.last ≤ (inst S n l).2.last := by
  unfold inst
  split
  · rename_i hc
    refine ⟨addAll_length h.rising n, ?_, ?_⟩
    · show n ≤ S.last + 1; omega
    · show S.last ≤ n; omega
  · exact ⟨by show S.ents.length ≤ _; omega, by show S.last ≤ _; omega, Int.le_refl _⟩
section
variable {w0 w w' : World} {pb mb xb : Nat} {S : Sto} {s : Ses} {id : Int}
theorem Pr.install (h : Pr w0 w pb mb xb S id) {l : List Pair} {A : Option Addr} {n c : Nat} (hl : Sl tPair w0 (fun _ => True) (.slice A n c) l) (hs : Short l) (m : Int) (hm1 : -9223372036854775808 ≤ m) (hm2 : m ≤ 9223372036854775807) (hle : S.ents.length + l.length ≤ 100000) (hla : S.last < 1000000) :
    Calls Try.prog 20 #[.pointer (some ⟨pb, 0, none⟩), .int .i64 m, .slice A n c] w fun e w' => e = .returned (.int .i64 (inst S m l).1) ∧ Pr w0 w' pb mb xb (inst S m l).2 id := by
  obtain ⟨kv, sv, X, h⟩ := h
  have hl' := h.my.arg hl
  refine (install_calls pb mb kv X S m l A n c w h.my.st (hl'.mono fun b hb => ⟨fun e => hb (by rw [e]; exact h.my.st.inP), fun e => hb (by rw [e]; exact h.my.st.inM), fun e => hb (h.my.st.inK b e)⟩) hs hm1 hm2 hle hla).mono fun e w' ⟨e1, kv', X', h1, h2, h3, h4⟩ => ⟨e1, kv', sv, X', ?_⟩
  have hlt := h.my.st.lt
  refine ⟨⟨h1, h.my.be.trans (h2.toBelow h.my.be.size (h.my.ge _ h.my.st.inP) (h.my.ge _ h.my.st.inM) fun b e => h.my.ge b (h.my.st.inK b e)), fun b hb => ?_⟩, ⟨(h2.block xb h.ses.blk.lt h.dis.1 h.dis.2.1 h.dis.2.2).trans h.ses.blk, h4.2 _ h.ses.inX, h.ses.id1, h.ses.id8⟩, h.dis.1, h.dis.2.1, fun e => ?_⟩
  · rcases h4.1 b hb with h5 | h5
    · exact h.my.ge b h5
    · have := h.my.be.size; omega
  · rcases h3 with h3 | h3
    · rw [h3] at e; exact h.dis.2.2 e
    · have := h3 xb e; have := h.ses.blk.lt; omega
theorem Pr.last (h : Pr w0 w pb mb xb S id) : Calls Try.prog 21 #[.pointer (some ⟨pb, 0, none⟩)] w fun e w' => e = .returned (.int .i64 S.last) ∧ w = w' := by
  obtain ⟨kv, sv, X, h⟩ := h
  exact slast_calls pb mb kv X S w h.my.st
theorem Pr.sok (h : Pr w0 w pb mb xb S id) : S.Ok := by
  obtain ⟨kv, sv, X, h⟩ := h
  exact h.my.st.ok
theorem Bo.last (h : Bo w0 w pb mb xb S s) : Calls Try.prog 21 #[.pointer (some ⟨pb, 0, none⟩)] w fun e w' => e = .returned (.int .i64 S.last) ∧ w = w' := by
  obtain ⟨kv, rv, qb, nb, sb, X, Y, h⟩ := h
  exact slast_calls pb mb kv X S w h.my.st
theorem Bo.sget (h : Bo w0 w pb mb xb S s) (k : ByteArray) (n : Int) (hk : k.size ≤ maxLen) : Calls Try.prog 24 #[.pointer (some ⟨pb, 0, none⟩), .string k, .int .i64 n] w fun e w' => e = .returned (.tuple #[.string (getS S k n).1, .int .i64 (getS S k n).2]) ∧ Below w.heap.size w w' := by
  obtain ⟨kv, rv, qb, nb, sb, X, Y, h⟩ := h
  exact sget_calls pb mb kv X S k n w h.my.st hk
theorem Bo.sscan (h : Bo w0 w pb mb xb S s) (x y : ByteArray) (n most : Int) (hx : x.size ≤ maxLen) (hy : y.size ≤ maxLen) : Calls Try.prog 22 #[.pointer (some ⟨pb, 0, none⟩), .string x, .string y, .int .i64 n, .int .i64 most] w fun e w' =>
    ∃ v, e = .returned (.tuple #[v, .int .i64 (scanS S x y n most).2]) ∧ Sl tPair w' (fun b => w.heap.size ≤ b) v (scanS S x y n most).1 ∧ Below w.heap.size w w' := by
  obtain ⟨kv, rv, qb, nb, sb, X, Y, h⟩ := h
  exact scan_calls pb mb kv X S x y n most w h.my.st hy hx
end

/-! ### plain -/
def RdOk (S : Sto) (n : Int) (r : C.Rd) : Prop :=
  r.key.size ≤ 64 ∧ r.to.size ≤ 64 ∧ ((r.scan = true ∧ scanS S r.key r.to n 300 = (r.pairs, 0)) ∨ (r.scan = false ∧ ((∃ v, getS S r.key n = (v, 0) ∧ r.pairs = [⟨r.key, v, false⟩]) ∨ (∃ v, getS S r.key n = (v, 8) ∧ r.pairs = []))))
structure Keeps (S : Sto) (s : Ses) : Prop where
  snap : s.snap = S.last
  id : s.id = 2
  strict : s.strict = true
  reads : ∀ r ∈ s.reads, RdOk S S.last r
theorem Keeps.bump {S : Sto} {s : Ses} (h : Keeps S s) : Keeps S s.bump := ⟨h.snap, h.id, h.strict, h.reads⟩
theorem Keeps.read {S : Sto} {s : Ses} (h : Keeps S s) {r : C.Rd} (hr : RdOk S S.last r) : Keeps S (s.read r) := by
  unfold Ses.read
  split
  · exact h
  · exact ⟨h.snap, h.id, h.strict, fun x hx => by
      rcases List.mem_append.1 hx with hx | hx
      · exact h.reads x hx
      · rw [List.mem_singleton.1 hx]; exact hr⟩
theorem Keeps.put {S : Sto} {s : Ses} (h : Keeps S s) (p : Pair) : Keeps S (s.put p).2 := by
  unfold Ses.put
  split
  · exact h
  · split
    · exact h
    · exact ⟨h.snap, h.id, h.strict, h.reads⟩
theorem Keeps.get {S : Sto} {s : Ses} (h : Keeps S s) (k : ByteArray) : Keeps S (s.get S k).2 := by
  unfold Ses.get
  split
  · exact h
  · split
    · exact h
    · split
      · exact h.bump
      · rename_i hk
        split
        · exact h.bump
        · rw [h.snap]
          obtain ⟨g, hg⟩ : ∃ g, getS S k S.last = g := ⟨_, rfl⟩
          rw [hg]
          obtain ⟨gv, ge⟩ := g
          split
          · rename_i h0
            have h0 : ge = 0 := h0
            subst h0
            exact h.bump.read (r := ⟨false, k, ⟨#[]⟩, [⟨k, gv, false⟩]⟩) ⟨by show k.size ≤ 64; omega, by show (⟨#[]⟩ : ByteArray).size ≤ 64; simp [ByteArray.size], .inr ⟨rfl, .inl ⟨gv, hg, rfl⟩⟩⟩
          · split
            · rename_i h8
              have h8 : ge = 8 := h8
              subst h8
              exact h.bump.read (r := ⟨false, k, ⟨#[]⟩, []⟩) ⟨by show k.size ≤ 64; omega, by show (⟨#[]⟩ : ByteArray).size ≤ 64; simp [ByteArray.size], .inr ⟨rfl, .inr ⟨gv, hg, rfl⟩⟩⟩
            · exact h.bump
theorem scan_more {S : Sto} {x y : ByteArray} {n : Int} {l : List Pair} (h : scanS S x y n 201 = (l, 0)) (hl : l.length ≤ 200) : scanS S x y n 300 = (l, 0) := by
  unfold scanS at h ⊢
  by_cases hm : may S n = 0
  · rw [if_pos hm] at h ⊢
    have h1 : (scan S.ents x y n).take 201 = l := congrArg Prod.fst h
    have hlen : (scan S.ents x y n).length ≤ 200 := by
      have := congrArg List.length h1
      rw [List.length_take] at this
      omega
    rw [List.take_of_length_le (by omega)] at h1
    show ((scan S.ents x y n).take 300, (0 : Int)) = _
    rw [List.take_of_length_le (by omega), h1]
  · rw [if_neg hm] at h
    have h2 : may S n = 0 := congrArg Prod.snd h
    exact absurd h2 hm
theorem Keeps.scan {S : Sto} {s : Ses} (h : Keeps S s) (x y : ByteArray) : Keeps S (s.scan S x y).2 := by
  unfold Ses.scan
  split
  · exact h
  · split
    · exact h
    · split
      · exact h.bump
      · rename_i hk
        split
        · exact h.bump
        · rename_i h0
          split
          · exact h.bump
          · rename_i hl
            rw [h.snap] at h0 hl ⊢
            refine h.bump.read (r := ⟨true, x, y, (scanS S x y S.last 201).1⟩) ⟨by show x.size ≤ 64; omega, by show y.size ≤ 64; omega, .inl ⟨rfl, ?_⟩⟩
            refine scan_more (l := (scanS S x y S.last 201).1) ?_ (by omega)
            refine Prod.ext rfl ?_
            show (scanS S x y S.last 201).2 = 0
            omega
theorem Keeps.start (S : Sto) : Keeps S (Ses.start 2 S.last true) := ⟨rfl, rfl, rfl, fun _ h => by cases h⟩
theorem keep_sub : ∀ (l : List C.Rd) (T : List (Bool × ByteArray)) (y : C.Rd), y ∈ C.keep T l → y ∈ l
  | [], _, _, h => by simp [C.keep] at h
  | x :: l, T, y, h => by
    rw [C.keep, List.mem_append] at h
    rcases h with h | h
    · split at h
      · simp at h; rw [h]; exact List.mem_cons_self
      · simp at h
    · exact List.mem_cons_of_mem _ (keep_sub l _ y h)
theorem keep_not : ∀ (l : List C.Rd) (T : List (Bool × ByteArray)) (y : C.Rd), y ∈ C.keep T l → y.scan = false → C.seenIn T false y.key = false
  | [], _, _, h, _ => by simp [C.keep] at h
  | x :: l, T, y, h, hs => by
    rw [C.keep, List.mem_append] at h
    rcases h with h | h
    · split at h
      · rename_i hc
        simp at h
        subst h
        rw [hs] at hc
        simpa using hc
      · simp at h
    · have := keep_not l _ y h hs
      simp only [C.seenIn, List.any_cons, Bool.or_eq_false_iff] at this
      exact this.2
theorem keep_apart : ∀ (l : List C.Rd) (T : List (Bool × ByteArray)), (C.keep T l).Pairwise fun x y => x.scan = false → y.scan = false → (x.key.toList == y.key.toList) = false
  | [], _ => List.Pairwise.nil
  | x :: l, T => by
    rw [C.keep]
    refine List.pairwise_append.2 ⟨by split <;> simp, keep_apart l _, fun a ha b hb h1 h2 => ?_⟩
    split at ha
    · simp at ha
      subst ha
      have := keep_not l _ b hb h2
      simp only [C.seenIn, List.any_cons, Bool.or_eq_false_iff] at this
      have h3 := this.1
      rw [h1] at h3
      simpa using h3
    · simp at ha
theorem apart_at {K : List C.Rd} (h : K.Pairwise fun x y => x.scan = false → y.scan = false → (x.key.toList == y.key.toList) = false) {i j : Nat} (hij : i < j) {x y : C.Rd} (hx : K[i]? = some x) (hy : K[j]? = some y) (h1 : x.scan = false) (h2 : y.scan = false) : (x.key.toList == y.key.toList) = false := by
  obtain ⟨hi, rfl⟩ := List.getElem?_eq_some_iff.1 hx
  obtain ⟨hj, rfl⟩ := List.getElem?_eq_some_iff.1 hy
  exact List.pairwise_iff_getElem.1 h i j hi hj hij h1 h2
end Go.Proofs.Ytidfogcilegloaa
