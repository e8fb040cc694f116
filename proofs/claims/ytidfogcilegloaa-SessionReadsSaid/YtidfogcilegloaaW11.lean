import Derived.Test.YtidfogcilegloaaJ2
import Derived.Deep.QuietTactic
import Derived.BigQuiet
import Derived.IntWalk
/-! Pairs that may be. -/
namespace Go.Proofs.Ytidfogcilegloaa
open Go.RowKit Go.Op

def Pair.enc (v : Pair) : List Value := [.string v.key, .string v.val, .bool v.dead]
def tPair : Ty Pair := Ty.flat 3 Pair.enc (fun _ => rfl) (by intro x u hu; simp [Pair.enc] at hu; rcases hu with rfl | rfl | rfl <;> rfl)
theorem sl_pair {w : World} {ok : Nat → Prop} {A : Option Addr} {n cap : Nat} {l : List Pair} (h : Sl tPair w ok (.slice A n cap) l) {i : Nat} {x : Pair} (hi : l[i]? = some x) :
    ∃ b off, A = some ⟨b, off, none⟩ ∧ b < w.heap.size ∧ w.cell? ⟨b, off + i * 3, none⟩ = some (.string x.key) ∧ w.cell? ⟨b, off + i * 3 + 1, none⟩ = some (.string x.val) ∧ w.cell? ⟨b, off + i * 3 + 2, none⟩ = some (.bool x.dead) := by
  obtain ⟨b, off, c, rfl, -, hk, hc⟩ := h.at (by decide) hi
  have hc' : ∀ j u, (Pair.enc x)[j]? = some u → w.cell? ⟨b, off + i * 3 + j, none⟩ = some u := by
    have e : c = Pair.enc x := hk
    subst e
    exact hc
  refine ⟨b, off, rfl, ?_, hc' 0 _ rfl, hc' 1 _ rfl, hc' 2 _ rfl⟩
  have := hc' 0 _ rfl
  rcases Nat.lt_or_ge b w.heap.size with h | h
  · exact h
  · simp [World.cell?, Array.getElem?_eq_none h] at this
theorem size_pos {k : ByteArray} (h : k.toList ≠ []) : 1 ≤ k.size := by
  rcases Nat.eq_zero_or_pos k.size with h0 | h0
  · exact absurd (by rw [ByteArray.toList_eq]; have : k.data.size = 0 := h0; rw [Array.size_eq_zero_iff.1 this]) h
  · exact h0
theorem size_zero {k : ByteArray} (h : k.toList = []) : k.size = 0 := by
  rw [ByteArray.toList_eq] at h
  show k.data.size = 0
  rw [← Array.length_toList, h]; rfl

theorem goodpair_calls (p : Pair) (w : World) (hk : p.key.size ≤ 140737488351232) (hv : p.val.size ≤ 140737488351232) :
    Calls Try.prog 54 #[.agg #[.string p.key, .string p.val, .bool p.dead]] w fun e w' => e = .returned (.bool (goodP p)) ∧ Below w.heap.size w w' := by
  have HB := Lib.hid ((Below.refl w.heap.size w).alloc (Nat.le_refl _) (.cells #[.string p.key, .string p.val, .bool p.dead] 68))
  obtain ⟨b, hb⟩ : ∃ b, goodP p = b := ⟨_, rfl⟩
  have hb' := hb
  rw [goodP] at hb'
  rw [hb]
  have HG := Lib.hid hb'
  clear hb hb'
  by_cases h1 : p.key.toList = []
  · have HR : Hid (false = b) := by show _ = _; rw [← HG.out, size_zero h1]; rfl
    go_enter Try.func54, Try.ntmps54
    go_wp2
    go_ret
    exact ⟨ret_bool HR.out, HB.out⟩
  · have q1 := size_pos h1
    by_cases h2 : p.key.size ≤ 64
    · by_cases h3 : p.val.size ≤ 256
      · cases hd : p.dead
        · have HR : Hid (true = b) := by show _ = _; rw [← HG.out]; simp [q1, h2, h3, hd]
          go_enter Try.func54, Try.ntmps54
          go_wp2
          go_ret
          exact ⟨ret_bool (by rw [← HR.out]; simp [*]), by have := HB.out; rw [hd] at this; exact this⟩
        · by_cases h4 : p.val.toList = []
          · have HR : Hid (true = b) := by show _ = _; rw [← HG.out]; simp [q1, h2, h3, hd, h4]
            go_enter Try.func54, Try.ntmps54
            go_wp2
            go_ret
            exact ⟨ret_bool (by rw [← HR.out]; simp [*]), by have := HB.out; rw [hd] at this; exact this⟩
          · have HR : Hid (false = b) := by show _ = _; rw [← HG.out]; simp [q1, h2, h3, hd, h4]
            go_enter Try.func54, Try.ntmps54
            go_wp2
            go_ret
            exact ⟨ret_bool (by rw [← HR.out]; simp [*]), by have := HB.out; rw [hd] at this; exact this⟩
      · have HR : Hid (false = b) := by show _ = _; rw [← HG.out]; simp [h3]
        go_enter Try.func54, Try.ntmps54
        go_wp2
        go_ret
        exact ⟨ret_bool HR.out, HB.out⟩
    · have HR : Hid (false = b) := by show _ = _; rw [← HG.out]; simp [h2]
      go_enter Try.func54, Try.ntmps54
      go_wp2
      go_ret
      exact ⟨ret_bool HR.out, HB.out⟩

def Short (l : List Pair) : Prop := ∀ p ∈ l, p.key.size ≤ 140737488351232 ∧ p.val.size ≤ 140737488351232
def prev (l : List Pair) (j : Nat) : Option ByteArray := if j = 0 then none else (l[j - 1]?).map (·.key)
theorem goodL_step {l : List Pair} {j : Nat} {p : Pair} (h : goodL l = goodGo (prev l j) (l.drop j)) (hp : l[j]? = some p) :
    goodL l = (goodP p && above (prev l j) p.key && goodGo (prev l (j + 1)) (l.drop (j + 1))) := by
  rw [h, drop_at hp, goodGo, show prev l (j + 1) = some p.key by simp [prev, hp]]

set_option maxHeartbeats 4000000 in
theorem goodl_calls (l : List Pair) (A : Option Addr) (n c : Nat) (w : World) (hl : Sl tPair w (fun _ => True) (.slice A n c) l) (hs : Short l) :
    Calls Try.prog 38 #[.slice A n c] w fun e w' => e = .returned (.bool (goodL l)) ∧ Below w.heap.size w w' := by
  obtain ⟨b, hb⟩ : ∃ b, goodL l = b := ⟨_, rfl⟩
  have h0 : b = goodGo (prev l 0) (l.drop 0) := by rw [← hb]; rfl
  have HE := Lib.hid hb
  have H0 := Lib.hid h0
  have hln := hl.length
  have HL := Lib.hid hl
  have HSH := Lib.hid hs
  obtain ⟨hln, hcap, hcm⟩ := hln
  have HLN := Lib.hid hln
  have hX := Lib.hid (Below.refl w.heap.size w)
  rw [hb]
  clear hl hs hln hb h0
  go_enter Try.func38, Try.ntmps38
  go_wp2
  go_loopw [7] (fun i wr => ∃ j : Nat, i = .int .i64 j ∧ j ≤ n ∧ Hid (b = goodGo (prev l j) (l.drop j)) ∧ Hid (Below w.heap.size w wr)) (fun i _ => n - (intOf i).toNat)
  case atStart => exact ⟨0, rfl, by omega, H0, hX⟩
  case round =>
    obtain ⟨j, rfl, hj, hg, hB⟩ := hrel
    clear H0 hX
    by_cases hlt : j < n
    · obtain ⟨p, hp⟩ := some_at (show j < l.length by rw [HLN.out]; exact hlt)
      obtain ⟨g, off, rfl, hgl, x0, x1, x2⟩ := sl_pair (HL.out.below hB.out) hp
      obtain ⟨s1, s2⟩ := HSH.out p (List.mem_of_getElem? hp)
      have hst : b = (goodP p && above (prev l j) p.key && goodGo (prev l (j + 1)) (l.drop (j + 1))) := by rw [← HE.out]; exact goodL_step (by rw [HE.out]; exact hg.out) hp
      obtain ⟨za, hza⟩ : ∃ za, wr.heap.size = za := ⟨_, rfl⟩
      obtain ⟨gp, hgp⟩ : ∃ gp, goodP p = gp := ⟨_, rfl⟩
      have h38 : Hid (∀ X, Calls Try.prog 54 #[.agg #[.string p.key, .string p.val, .bool p.dead]] X fun e w' => e = .returned (.bool gp) ∧ Below X.heap.size X w') := fun X => by
        have := goodpair_calls p X s1 s2
        rw [hgp] at this; exact this
      have HX0 : Hid (Below w.heap.size w (wr.alloc (.cells #[.string p.key, .string p.val, .bool p.dead] 68))) := hB.out.alloc hB.out.size _
      have HP : Hid (Blk (wr.alloc (.cells #[.string p.key, .string p.val, .bool p.dead] 68)) za #[.string p.key, .string p.val, .bool p.dead] 68) := by rw [← hza]; exact Blk.new _ _ _
      rw [hgp] at hst
      clear hg hgp
      cases gp
      · have HR : Hid (false = b) := by show _ = _; rw [hst]; rfl
        clear hst hp
        go_wp2_with fail
        obtain ⟨X0, hX0⟩ : ∃ X0, wr.alloc (.cells #[.string p.key, .string p.val, .bool p.dead] 68) = X0 := ⟨_, rfl⟩
        rw [hX0] at HX0 HP ⊢
        clear hX0 x0 x1 x2
        have a0 := HP.out.cell 0
        have a1 := HP.out.cell 1
        have a2 := HP.out.cell 2
        have hzaX := HP.out.lt
        refine wp_region_later (by kernel_rfl) (by kernel_rfl) ?_
        repeat (go_big_quiet_step (first | (go_at_call 54; exact calls_later (h38.out _))))
        refine wpQuiet_nil ?_
        rintro _ ⟨e, rfl⟩
        have hb' := Lib.hid (later_below e)
        clear a0 a1 a2
        generalize later _ e = w3 at *
        go_wp2
        go_ret
        exact ⟨ret_bool HR.out, HX0.out.trans (hb'.out.mono HX0.out.size)⟩
      · rcases Nat.eq_zero_or_pos j with hj0 | hj0
        · have hj1 : decide (0 < j) = false := decide_eq_false (by omega)
          have HR : Hid (b = goodGo (prev l (j + 1)) (l.drop (j + 1))) := by show _ = _; rw [hst, show prev l j = none by rw [prev, if_pos hj0]]; rfl
          clear hj0
          clear hst hp
          go_wp2_with fail
          obtain ⟨X0, hX0⟩ : ∃ X0, wr.alloc (.cells #[.string p.key, .string p.val, .bool p.dead] 68) = X0 := ⟨_, rfl⟩
          rw [hX0] at HX0 HP ⊢
          clear hX0 x0 x1 x2
          have a0 := HP.out.cell 0
          have a1 := HP.out.cell 1
          have a2 := HP.out.cell 2
          have hzaX := HP.out.lt
          refine wp_region_later (by kernel_rfl) (by kernel_rfl) ?_
          repeat (go_big_quiet_step (first | (go_at_call 54; exact calls_later (h38.out _))))
          refine wpQuiet_nil ?_
          rintro _ ⟨e, rfl⟩
          have hb' := Lib.hid (later_below e)
          clear a0 a1 a2
          generalize later _ e = w3 at *
          go_wp2
          have R := Lib.hid (HX0.out.trans (hb'.out.mono HX0.out.size))
          go_roundw
          case rel => exact ⟨j + 1, by go_num, by omega, HR, R⟩
          case measure => simp [intOf]; omega
        · obtain ⟨m, hm⟩ : ∃ m, j = m + 1 := ⟨j - 1, by omega⟩
          obtain ⟨o, ho⟩ := some_at (show m < l.length by rw [HLN.out]; omega)
          obtain ⟨g', off', e', hgl', y0, -, -⟩ := sl_pair (HL.out.below hB.out) ho
          injection e' with e'
          injection e' with e1 e2 e3
          subst e1 e2
          rw [show prev l j = some o.key by rw [hm]; simp [prev, ho], above, klt] at hst
          have y0' : (wr.alloc (.cells #[.string p.key, .string p.val, .bool p.dead] 68)).cell? ⟨g, off + m * 3, none⟩ = some (.string o.key) := by
            rw [(bcell ((Below.refl wr.heap.size wr).alloc (Nat.le_refl _) _)).1 _ _ hgl]; exact y0
          have hsub : IntKind.i64.wrap ((j : Int) - 1) = (m : Int) := by
            rw [show (j : Int) - 1 = (m : Int) by omega]; exact IntWalk.i64_in _ (by omega)
          have hm0 : (0 : Int) ≤ (m : Int) := by omega
          have hmn : (m : Int) < (n : Int) := by omega
          have hm1 : decide (0 < j) = true := decide_eq_true (by omega)
          have HM := Lib.hid hm
          clear hm hj0
          cases hk : bytesLess o.key.toList p.key.toList
          · have HR : Hid (false = b) := by show _ = _; rw [hst, hk]; rfl
            clear hst hp ho
            go_wp2_with fail
            obtain ⟨X0, hX0⟩ : ∃ X0, wr.alloc (.cells #[.string p.key, .string p.val, .bool p.dead] 68) = X0 := ⟨_, rfl⟩
            rw [hX0] at HX0 HP y0' ⊢
            clear x0 x1 x2 y0
            have hgX : g < X0.heap.size := by rw [← hX0]; simp; omega
            have a0 := HP.out.cell 0
            have a1 := HP.out.cell 1
            have a2 := HP.out.cell 2
            have hzaX := HP.out.lt
            clear hX0
            refine wp_region_later (by kernel_rfl) (by kernel_rfl) ?_
            repeat (go_big_quiet_step (first | (go_at_call 54; exact calls_later (h38.out _))))
            refine wpQuiet_nil ?_
            rintro _ ⟨e, rfl⟩
            have hb' := Lib.hid (later_below e)
            clear a0 a1 a2
            generalize later _ e = w3 at *
            clear hsub
            go_wp2
            go_ret
            exact ⟨ret_bool HR.out, HX0.out.trans (hb'.out.mono HX0.out.size)⟩
          · have HR : Hid (b = goodGo (prev l (j + 1)) (l.drop (j + 1))) := by show _ = _; rw [hst, hk]; rfl
            clear hst hp ho
            go_wp2_with fail
            obtain ⟨X0, hX0⟩ : ∃ X0, wr.alloc (.cells #[.string p.key, .string p.val, .bool p.dead] 68) = X0 := ⟨_, rfl⟩
            rw [hX0] at HX0 HP y0' ⊢
            clear x0 x1 x2 y0
            have hgX : g < X0.heap.size := by rw [← hX0]; simp; omega
            have a0 := HP.out.cell 0
            have a1 := HP.out.cell 1
            have a2 := HP.out.cell 2
            have hzaX := HP.out.lt
            clear hX0
            refine wp_region_later (by kernel_rfl) (by kernel_rfl) ?_
            repeat (go_big_quiet_step (first | (go_at_call 54; exact calls_later (h38.out _))))
            refine wpQuiet_nil ?_
            rintro _ ⟨e, rfl⟩
            have hb' := Lib.hid (later_below e)
            clear a0 a1 a2
            generalize later _ e = w3 at *
            clear hsub
            go_wp2
            have R := Lib.hid (HX0.out.trans (hb'.out.mono HX0.out.size))
            go_roundw
            case rel => exact ⟨j + 1, by go_num, by omega, HR, R⟩
            case measure => simp [intOf]; omega
    · have HR : Hid (true = b) := by show _ = _; rw [hg.out, List.drop_of_length_le (by rw [HLN.out]; omega)]; rfl
      clear hg
      go_wp2
      go_ret
      exact ⟨ret_bool HR.out, hB.out⟩
end Go.Proofs.Ytidfogcilegloaa
