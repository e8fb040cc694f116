import Derived.Test.YtkfndmbnfhhbiaaW15
/-! The document's put, whole. -/
namespace Go.Proofs.Ytkfndmbnfhhbiaa
open Go.RowKit Go.Op

theorem rput_calls (rb : Nat) (l : List Pair) (p : Pair) (w : World) (h : RBuf w rb l) (hk : p.key.size ≤ 140737488351232) (hv : p.val.size ≤ 140737488351232) :
    Calls Try.prog 27 #[.pointer (some ⟨rb, 0, none⟩), .agg #[.string p.key, .string p.val, .bool p.dead]] w fun e w' => e = .returned (.int .i64 (rput l p).1) ∧ RBuf w' rb (rput l p).2 ∧ w.grownBy w' (some rb) := by
  have hno : ∀ n : Int, rput l p = (n, l) → ((p.key.size < 1 ∧ n = 2) ∨ (1 ≤ p.key.size ∧ 64 < p.key.size ∧ n = 2) ∨ (1 ≤ p.key.size ∧ p.key.size ≤ 64 ∧ 256 < p.val.size ∧ n = 12) ∨ (1 ≤ p.key.size ∧ p.key.size ≤ 64 ∧ p.val.size ≤ 256 ∧ hasK l p.key = false ∧ 64 ≤ l.length ∧ n = 13)) →
      Calls Try.prog 27 #[.pointer (some ⟨rb, 0, none⟩), .agg #[.string p.key, .string p.val, .bool p.dead]] w fun e w' => e = .returned (.int .i64 (rput l p).1) ∧ RBuf w' rb (rput l p).2 ∧ w.grownBy w' (some rb) := by
    intro n hr hc
    rw [hr]
    exact (rputno_calls rb l p w h hk hv n hc).mono fun e w' ⟨he, hb⟩ => ⟨he, h.below hb, grown_of hb _⟩
  by_cases h0 : p.key.size < 1
  · exact hno 2 (by rw [rput, if_pos (.inl h0)]) (.inl ⟨h0, rfl⟩)
  · by_cases h1 : 64 < p.key.size
    · exact hno 2 (by rw [rput, if_pos (.inr h1)]) (.inr (.inl ⟨by omega, h1, rfl⟩))
    · by_cases h2 : 256 < p.val.size
      · exact hno 12 (by rw [rput, if_neg (by omega), if_pos h2]) (.inr (.inr (.inl ⟨by omega, by omega, h2, rfl⟩)))
      · cases h3 : hasK l p.key with
        | true =>
          rw [show rput l p = (0, put l p) by rw [rput, if_neg (by omega), if_neg h2, if_pos h3]]
          exact rputhas_calls rb l p w h hk hv (by omega) (by omega) (by omega) h3
        | false =>
          by_cases h4 : 64 ≤ l.length
          · exact hno 13 (by rw [rput, if_neg (by omega), if_neg h2, if_neg (by simp [h3]), if_pos h4]) (.inr (.inr (.inr ⟨by omega, by omega, by omega, h3, h4, rfl⟩)))
          · rw [show rput l p = (0, put l p) by rw [rput, if_neg (by omega), if_neg h2, if_neg (by simp [h3]), if_neg h4]]
            exact rputnew_calls rb l p w h hk hv (by omega) (by omega) (by omega) h3 (by omega)
end Go.Proofs.Ytkfndmbnfhhbiaa
