import Derived.Test.YtnleldogmogkgaaW16
/-! One store in a call; the examples' walk. -/
namespace Go.Proofs.Ytnleldogmogkgaa
open Go.RowKit Go.Op

/-- A store that the call made. -/
structure My (w W : World) (pb mb : Nat) (kv : Value) (X : List Nat) (S : Sto) : Prop where
  st : Stm W pb mb kv X S
  be : Below w.heap.size w W
  ge : ∀ b ∈ X, w.heap.size ≤ b
section
variable {w W W' : World} {pb mb : Nat} {kv : Value} {X : List Nat} {S : Sto}
theorem My.below (h : My w W pb mb kv X S) (hb : Below W.heap.size W W') : My w W' pb mb kv X S := ⟨h.st.below hb, h.be.trans (hb.mono h.be.size), h.ge⟩
theorem My.arg {α : Type} {t : Ty α} {ok : Nat → Prop} {v : Value} {l : List α} (h : My w W pb mb kv X S) (hs : Sl t w ok v l) : Sl t W (· ∉ X) v l :=
  (hs.inb.step fun b hb => h.be.block b hb.2).mono fun b hb hm => by have := h.ge b hm; have := hb.2; omega
theorem My.install {m : Int} {l : List Pair} {A : Option Addr} {n c : Nat} (h : My w W pb mb kv X S) (hl : Sl tPair W (· ∉ X) (.slice A n c) l) (hs : Short l) (hm1 : -9223372036854775808 ≤ m) (hm2 : m ≤ 9223372036854775807) (hle : S.ents.length + l.length ≤ 100000) (hla : S.last < 1000000) :
    Calls Try.prog 13 #[.pointer (some ⟨pb, 0, none⟩), .int .i64 m, .slice A n c] W fun e w' => e = .returned (.int .i64 (inst S m l).1) ∧ ∃ kv' X', My w w' pb mb kv' X' (inst S m l).2 ∧ Chg pb mb kv W w' ∧ Xin W X X' :=
  (install_calls pb mb kv X S m l A n c W h.st (hl.mono fun b hb => ⟨fun e => hb (by rw [e]; exact h.st.inP), fun e => hb (by rw [e]; exact h.st.inM), fun e => hb (h.st.inK b e)⟩) hs hm1 hm2 hle hla).mono fun e w' ⟨e1, kv', X', h1, h2, h3, h4⟩ =>
    ⟨e1, kv', X', ⟨h1, h.be.trans (h2.toBelow h.be.size (h.ge _ h.st.inP) (h.ge _ h.st.inM) fun b e => h.ge b (h.st.inK b e)), fun b hb => by
      rcases h4.1 b hb with h5 | h5
      · exact h.ge b h5
      · have := h.be.size; omega⟩, h2, h4⟩
theorem My.keep {g : Nat} {cs : Array Value} {e : TypeId} (h : My w W pb mb kv X S) (hc : Chg pb mb kv W W') (hB : Blk W g cs e) (hg : g ∉ X) : Blk W' g cs e :=
  (hc.block g hB.lt (fun e => hg (by rw [e]; exact h.st.inP)) (fun e => hg (by rw [e]; exact h.st.inM)) (fun e => hg (h.st.inK g e))).trans hB
theorem Xin.out {X' : List Nat} {g : Nat} (h : Xin W X X') (hg : g ∉ X) (hl : g < W.heap.size) : g ∉ X' := fun hm => by
  rcases h.1 g hm with h | h
  · exact hg h
  · omega
end
theorem my_new (w0 w : World) (h : Below w0.heap.size w0 w) : Calls Try.prog 10 #[] w fun e w' => e = .returned (.pointer (some ⟨w.heap.size + 1, 0, none⟩)) ∧ My w0 w' (w.heap.size + 1) w.heap.size (.slice none 0 0) [w.heap.size, w.heap.size + 1] Sto.new :=
  (snew_calls w).mono fun e w' ⟨e1, h1, h2⟩ => ⟨e1, h1, h.trans (h2.mono h.size), fun b hb => by have := h.size; simp at hb; omega⟩

set_option maxHeartbeats 4000000 in
theorem lives_calls (w : World) : Calls Try.prog 12 #[] w fun e w' => e = .returned (.bool true) ∧ Below w.heap.size w w' := by
  go_enter Try.func12, Try.ntmps12
  go_wp2_with fail
  refine (my_new w w (Below.refl _ _)).mono ?_
  rintro e w1 ⟨rfl, hM1⟩
  obtain ⟨z, hz⟩ : ∃ z, w.heap.size = z := ⟨_, rfl⟩
  obtain ⟨kv1, hk1⟩ : ∃ k, Value.slice none 0 0 = k := ⟨_, rfl⟩
  obtain ⟨X1, hX1⟩ : ∃ X, [w.heap.size, w.heap.size + 1] = X := ⟨_, rfl⟩
  rw [hk1, hX1, hz] at hM1
  rw [hz]
  clear hk1 hX1
  have HB : Hid (∀ {W : World} {kv : Value} {X : List Nat} {S : Sto}, My w W (z + 1) z kv X S → Below w.heap.size w W) := fun h => h.be
  have hstep : Hid (∀ (W : World) (kv : Value) (X : List Nat) (S : Sto) (m : Int) (p : Pair) (S' : Sto), My w W (z + 1) z kv X S → inst S m [p] = (0, S') → S.ents.length ≤ 10 → S.last < 10 → 0 ≤ m → m < 10 → p.key.size ≤ 10 → p.val.size ≤ 10 →
      Calls Try.prog 13 #[.pointer (some ⟨z + 1, 0, none⟩), .int .i64 m, .slice (some ⟨W.heap.size, 0, none⟩) 1 1] (W.alloc (.cells #[.string p.key, .string p.val, .bool p.dead] 35)) fun e w' => e = .returned (.int .i64 0) ∧ ∃ kv' X', My w w' (z + 1) z kv' X' S') := by
    intro W kv X S m p S' h hi h1 h2 h3 h4 h5 h6
    have hb := (Below.refl W.heap.size W).alloc (Nat.le_refl _) (.cells #[.string p.key, .string p.val, .bool p.dead] 35)
    have hg := Blk.new W #[.string p.key, .string p.val, .bool p.dead] 35
    refine ((h.below hb).install (m := m) (l := [p]) ((one_pair hg).mono fun b hb hm => ?_) ?_ (by omega) (by omega) (by simp; omega) (by omega)).mono ?_
    · have := h.st.lt b hm; omega
    · intro q hq; rw [List.mem_singleton.1 hq]; constructor <;> omega
    · rintro e w' ⟨e1, kv', X', h7, -⟩
      rw [hi] at e1 h7
      exact ⟨e1, kv', X', h7⟩
  have HI1 := Lib.hid (hstep.out w1 kv1 X1 Sto.new 1 pX S1 hM1 live1 (by simp [Sto.new]) (by simp [Sto.new]) (by omega) (by omega) (by simp [pX, ByteArray.size]) (by simp [pX, ByteArray.size]))
  clear hM1
  go_wp2_with fail
  refine HI1.out.mono ?_
  rintro e w2 ⟨rfl, kv2, X2, hM2⟩
  have HI2 := Lib.hid (hstep.out w2 kv2 X2 S1 2 pD S2 hM2 live2 (by simp [S1]) (by simp [S1]) (by omega) (by omega) (by simp [pD, ByteArray.size]) (by simp [pD, ByteArray.size]))
  clear hM2 HI1
  go_wp2_with fail
  refine HI2.out.mono ?_
  rintro e w3 ⟨rfl, kv3, X3, hM3⟩
  have HG : Hid (∀ W, My w W (z + 1) z kv3 X3 S2 → ∀ n, Calls Try.prog 16 #[.pointer (some ⟨z + 1, 0, none⟩), .string ⟨#[97]⟩, .int .i64 n] W fun e w' => e = .returned (.tuple #[.string (getS S2 ⟨#[97]⟩ n).1, .int .i64 (getS S2 ⟨#[97]⟩ n).2]) ∧ My w w' (z + 1) z kv3 X3 S2) := fun W h n =>
    (sget_calls (z + 1) z kv3 X3 S2 ⟨#[97]⟩ n W h.st (by simp [maxLen, ByteArray.size])).mono fun e w' ⟨h1, h2⟩ => ⟨h1, h.below h2⟩
  have HG1 := Lib.hid (HG.out w3 hM3 1)
  rw [live3] at HG1
  clear hM3 HI2 hstep
  go_wp2_with fail
  refine HG1.out.mono ?_
  rintro e w4 ⟨rfl, hM4⟩
  have HG2 := Lib.hid (HG.out w4 hM4 2)
  rw [live4] at HG2
  clear hM4 HG1
  go_wp2_with fail
  refine HG2.out.mono ?_
  rintro e w5 ⟨rfl, hM5⟩
  have HB5 := Lib.hid hM5.be
  clear hM5 HG2 HB HG
  go_wp2
  go_ret
  exact ⟨rfl, HB5.out⟩
end Go.Proofs.Ytnleldogmogkgaa
