import Derived.Test.YtidfogcilegloaaW14
/-! Install, whole. -/
namespace Go.Proofs.Ytidfogcilegloaa
open Go.RowKit Go.Op

set_option maxHeartbeats 1000000 in
theorem install_no (pb mb : Nat) (kv : Value) (X : List Nat) (S : Sto) (m : Int) (l : List Pair) (A : Option Addr) (n c : Nat) (w : World) (h : Stm w pb mb kv X S) (hl : Sl tPair w (fun _ => True) (.slice A n c) l)
    (hs : Short l) (hm1 : -9223372036854775808 ≤ m) (hm2 : m ≤ 9223372036854775807) (hno : goodL l = false ∨ m ≠ S.last + 1) :
    Calls Try.prog 20 #[.pointer (some ⟨pb, 0, none⟩), .int .i64 m, .slice A n c] w fun e w' => e = .returned (.int .i64 2) ∧ Below w.heap.size w w' := by
  obtain ⟨-, -, c2, -⟩ := h.cells
  have HMD := Lib.hid h.made
  have HGL := Lib.hid (goodl_calls l A n c w hl hs)
  have hpb : pb < w.heap.size := h.lt _ h.inP
  have h0 : 0 ≤ S.last := by have := h.ok.fl; have := h.ok.le; omega
  have h1 := h.last
  obtain ⟨la, hla⟩ : ∃ la, S.last = la := ⟨_, rfl⟩
  rw [hla] at c2 h0 h1 hno
  clear h hl hs hla
  go_enter Try.func20, Try.ntmps20
  go_wp2_with fail
  refine HMD.out.mono ?_
  rintro e w0 ⟨rfl, rfl⟩
  go_wp2_with fail
  refine HGL.out.mono ?_
  rintro e w1 ⟨rfl, hb1⟩
  have c2' : w1.cell? ⟨pb, 2, none⟩ = some (.int .i64 la) := by rw [(bcell hb1).1 _ _ hpb]; exact c2
  cases hg : goodL l
  · go_wp2
    go_ret
    exact ⟨rfl, hb1⟩
  · have hne : m ≠ la + 1 := by
      rcases hno with h | h
      · rw [hg] at h; cases h
      · exact h
    clear hno hg
    by_cases hle : m ≤ la
    · go_wp2
      go_ret
      exact ⟨rfl, hb1⟩
    · have h3 : ¬ m - 1 = la := by omega
      have h4 : (m - 1 != la) = true := by simpa using h3
      go_wp2
      go_ret
      exact ⟨rfl, hb1⟩

theorem install_calls (pb mb : Nat) (kv : Value) (X : List Nat) (S : Sto) (m : Int) (l : List Pair) (A : Option Addr) (n c : Nat) (w : World) (h : Stm w pb mb kv X S) (hl : Sl tPair w (fun b => b ≠ pb ∧ b ≠ mb ∧ kv.ownBlock ≠ some b) (.slice A n c) l)
    (hs : Short l) (hm1 : -9223372036854775808 ≤ m) (hm2 : m ≤ 9223372036854775807) (hle : S.ents.length + l.length ≤ 100000) (hla : S.last < 1000000) :
    Calls Try.prog 20 #[.pointer (some ⟨pb, 0, none⟩), .int .i64 m, .slice A n c] w fun e w' => e = .returned (.int .i64 (inst S m l).1) ∧ ∃ kv' X', Stm w' pb mb kv' X' (inst S m l).2 ∧ Chg pb mb kv w w' ∧ Kin w kv kv' ∧ Xin w X X' := by
  by_cases hgo : goodL l = true ∧ m = S.last + 1
  · rw [inst, if_pos hgo]
    obtain ⟨hg, rfl⟩ := hgo
    exact install_go pb mb kv X S l A n c w h hl hg hle hla hs
  · rw [inst, if_neg hgo]
    refine (install_no pb mb kv X S m l A n c w h (hl.mono fun _ _ => trivial) hs hm1 hm2 ?_).mono fun e w' ⟨h1, h2⟩ => ⟨h1, kv, X, h.below h2, Chg.of_below h2, Kin.refl _ _, Xin.refl _ _⟩
    cases hg : goodL l
    · exact .inl rfl
    · exact .inr fun e => hgo ⟨hg, e⟩
end Go.Proofs.Ytidfogcilegloaa
