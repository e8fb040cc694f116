import Derived.Test.YtnleldogmogkgaaW16
/-! How many pairs acts have. -/
namespace Go.Proofs.Ytnleldogmogkgaa
open Go.RowKit Go.Op

def tot (l : List SAct) : Nat := (l.map fun a => a.l.length).sum
theorem tot_take {l : List SAct} {j : Nat} {a : SAct} (h : l[j]? = some a) : tot (l.take (j + 1)) = tot (l.take j) + a.l.length := by
  unfold tot
  rw [List.take_add_one, h]
  simp
theorem tot_le {l : List SAct} (j : Nat) : tot (l.take j) ≤ tot l := by
  unfold tot
  have h := List.take_append_drop j l
  conv => rhs; rw [← h]
  rw [List.map_append, List.sum_append]
  omega

set_option maxHeartbeats 4000000 in
theorem light2_calls (l : List SAct) (A : Option Addr) (n cap : Nat) (w : World) (hl : Sl tAct w (fun _ => True) (.slice A n cap) l) (ho : ∀ a ∈ l, ActOk a) :
    Calls Try.prog 11 #[.slice A n cap] w fun e w' => ∃ b : Bool, e = .returned (.bool b) ∧ (b = true → n ≤ 60 ∧ (∀ a ∈ l, Few a) ∧ tot l ≤ 400) ∧ Below w.heap.size w w' := by
  obtain ⟨hln, hcap, hcm⟩ := hl.length
  have H := Lib.hid hl
  have HO := Lib.hid ho
  clear hl ho
  have hX := Lib.hid (Below.refl w.heap.size w)
  have HLN := Lib.hid hln
  by_cases h60 : 60 < n
  · clear hln
    go_enter Try.func11, Try.ntmps11
    go_wp2
    go_ret
    exact ⟨false, rfl, (fun h => by cases h), hX.out⟩
  have HS0 : Hid (∀ a ∈ l.take 0, Few a) := fun a h => by simp at h
  have HT0 : Hid ((tot (l.take 0) : Int) ≤ n) := by show _ ≤ _; simp [tot]
  clear hln
  go_enter Try.func11, Try.ntmps11
  go_wp2
  go_loopw [3, 5, 7, 14] (fun v _ _ i w' => ∃ (j : Nat) (z : Int), j ≤ n ∧ i = .int .i64 j ∧ v = .int .i64 z ∧ 0 ≤ z ∧ z ≤ 400 ∧ Hid (∀ a ∈ l.take j, Few a) ∧ Hid ((tot (l.take j) : Int) ≤ z) ∧ Below w.heap.size w w') (fun _ _ _ i _ => n - (intOf i).toNat)
  case atStart => exact ⟨0, n, by omega, rfl, rfl, by omega, by omega, HS0, HT0, hX.out⟩
  case round =>
    obtain ⟨j, z, hj, rfl, rfl, hz0, hz1, hfew, htot, hb⟩ := hrel
    clear HT0
    by_cases hlt : j < n
    · obtain ⟨a, ha⟩ := some_at (show j < l.length by rw [HLN.out]; exact hlt)
      obtain ⟨b, off, P, np, cp, rfl, hbl, g0, g1, g2, g3, g4, g5, hP⟩ := sl_act (H.out.below hb) ha
      obtain ⟨ha1, ha2, ha3, -, -⟩ := HO.out a (List.mem_of_getElem? ha)
      have hpn := hP.length.1
      have hpc := hP.length.2
      have hb' := hb.alloc hb.size (.cells #[.int .i64 a.kind, .int .i64 a.n, .int .i64 a.most, .slice P np cp, .string a.fr, .string a.to] 25)
      have HB2 := Lib.hid hb'
      have HP := Lib.hid (hP.below ((Below.refl _ _).alloc (Nat.le_refl _) (.cells #[.int .i64 a.kind, .int .i64 a.n, .int .i64 a.most, .slice P np cp, .string a.fr, .string a.to] 25)))
      have hX3 := Lib.hid (Below.refl (wr.alloc (.cells #[.int .i64 a.kind, .int .i64 a.n, .int .i64 a.most, .slice P np cp, .string a.fr, .string a.to] 25)).heap.size (wr.alloc (.cells #[.int .i64 a.kind, .int .i64 a.n, .int .i64 a.most, .slice P np cp, .string a.fr, .string a.to] 25)))
      have HSH := Lib.hid ha3
      have HTS : Hid (tot (l.take (j + 1)) = tot (l.take j) + np) := by show _ = _; rw [← hpn]; exact tot_take ha
      have HPN := Lib.hid hpn
      have hnew : np ≤ 60 → (a.fr.size : Int) + (a.to.size : Int) ≤ 300 → Hid (∀ x ∈ l.take (j + 1), Few x) := fun h1 h2 x hx => by
        rw [List.take_add_one, ha] at hx
        rcases List.mem_append.1 hx with hx | hx
        · exact hfew.out x hx
        · simp at hx
          subst hx
          exact ⟨by rw [HPN.out]; exact h1, by omega, by omega⟩
      clear hb' hP ha ha3 hpn
      by_cases h1 : 60 < np
      · clear hnew
        go_wp2
        go_ret
        first | exact ⟨false, rfl, (fun h => by cases h), HB2.out⟩ | exact .inl ⟨rfl, HB2.out⟩
      by_cases h2 : 300 < (a.fr.size : Int) + (a.to.size : Int)
      · clear hnew
        go_wp2
        go_ret
        first | exact ⟨false, rfl, (fun h => by cases h), HB2.out⟩ | exact .inl ⟨rfl, HB2.out⟩
      have h3 : ¬ 300 < (a.fr.size : Int) := by omega
      have HN := hnew (by omega) (by omega)
      clear hnew hfew
      obtain ⟨T, hT⟩ : ∃ T, tot (l.take j) = T := ⟨_, rfl⟩
      have hTz := htot.out
      rw [hT] at HTS hTz
      clear hT htot
      go_wp2
      generalize wr.alloc (.cells #[.int .i64 a.kind, .int .i64 a.n, .int .i64 a.most, .slice P np cp, .string a.fr, .string a.to] 25) = w3 at *
      go_loopw [3, 7, 41] (fun v _ i w' => ∃ (k : Nat) (z : Int), k ≤ np ∧ i = .int .i64 k ∧ v = .int .i64 z ∧ 0 ≤ z ∧ z ≤ 400 ∧ (T : Int) + k ≤ z ∧ Below w3.heap.size w3 w') (fun _ _ i _ => np - (intOf i).toNat)
      case atStart => exact ⟨0, _, by omega, rfl, rfl, by omega, by omega, by omega, hX3.out⟩
      case round =>
        clear g0 g1 g2 g3 g4 g5 hbl hz0 hz1 hb h1 h2 h3
        clear hTz
        obtain ⟨k, z, hk, rfl, rfl, hz0, hz1, hTk, hb⟩ := hrel
        have hbw := HB2.out.trans (hb.mono HB2.out.size)
        by_cases hlt2 : k < np
        · obtain ⟨o, ho⟩ := some_at (show k < a.l.length by rw [HPN.out]; exact hlt2)
          obtain ⟨b', off', rfl, hbl, g0, g1, g2⟩ := sl_pair (HP.out.below hb) ho
          obtain ⟨hp1, hp2⟩ := HSH.out o (List.mem_of_getElem? ho)
          clear ho
          have hb' := hb.alloc hb.size (.cells #[.string o.key, .string o.val, .bool o.dead] 35)
          have hbw' := hbw.alloc hbw.size (.cells #[.string o.key, .string o.val, .bool o.dead] 35)
          have HB3 := Lib.hid hb'
          have HB4 := Lib.hid hbw'
          clear hb' hbw'
          go_wp2
          · go_ret
            exact ⟨false, rfl, (fun h => by cases h), HB4.out⟩
          · go_roundw
            case rel => exact ⟨k + 1, _, by omega, by go_num, rfl, by omega, by omega, by omega, HB3.out⟩
            case measure => simp [intOf]; omega
        · have HTN : Hid ((tot (l.take (j + 1)) : Int) ≤ z) := by show _ ≤ _; rw [HTS.out]; omega
          go_wp2
          exact ⟨⟨j + 1, z, by omega, by go_num, rfl, hz0, hz1, HN, HTN, hbw⟩, by simp [intOf]; omega⟩
    · go_wp2
      go_ret
      have hall : l.take j = l := List.take_of_length_le (by rw [HLN.out]; omega)
      have htz := htot.out
      have hff := hfew.out
      rw [hall] at htz hff
      exact ⟨true, rfl, fun _ => ⟨by omega, hff, by omega⟩, hb⟩

end Go.Proofs.Ytnleldogmogkgaa
