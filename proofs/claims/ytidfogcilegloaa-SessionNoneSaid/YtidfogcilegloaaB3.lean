import Derived.Test.YtidfogcilegloaaB2
namespace Go.Proofs.Ytidfogcilegloaa.B
open Go.RowKit Go.Op

theorem sorted_ext {l m : List Pair} (hp : l.Perm m) (hs : SortedK l) (hm : Rising m) : l = m := by
  refine rising_ext ?_ hm fun p => hp.mem_iff
  have hn : (l.map (·.key)).Nodup := (hp.map _).nodup_iff.2 hm.keys
  rw [List.nodup_iff_pairwise_ne, List.pairwise_map] at hn
  refine (hs.and hn).imp ?_
  rintro a b ⟨h1, h2⟩
  rcases klt_cases a.key b.key with ⟨h, _⟩ | ⟨h, _⟩ | ⟨_, h, _⟩
  · exact h
  · exact absurd h h2
  · rw [h] at h1; cases h1

theorem kv_split {R : List Pair} {r1 r2 : List (ByteArray × Value)} {k : ByteArray} {v : Value} (h : R.map kv = r1 ++ (k, v) :: r2) : ∃ l1 p l2, R = l1 ++ p :: l2 ∧ r1 ++ r2 = (l1 ++ l2).map kv ∧ k = p.key ∧ v = tyv p := by
  obtain ⟨l1, t, rfl, rfl, h2⟩ := List.map_eq_append_iff.1 h
  obtain ⟨p, l2, rfl, h3, rfl⟩ := List.map_eq_cons_iff.1 h2
  cases h3
  exact ⟨l1, p, l2, rfl, by simp, rfl, rfl⟩

theorem perm_map_inv {α β : Type} (g : α → β) {V W : List β} (h : V.Perm W) : ∀ {l : List α}, W = l.map g → ∃ l' : List α, V = l'.map g ∧ l'.Perm l := by
  induction h with
  | nil => intro l hl; exact ⟨l, hl, .refl _⟩
  | cons x _ ih =>
    intro l hl
    obtain ⟨a, t, rfl, rfl, ht⟩ := List.map_eq_cons_iff.1 hl.symm
    obtain ⟨t', h1, h2⟩ := ih ht.symm
    exact ⟨a :: t', by rw [h1]; rfl, h2.cons a⟩
  | swap x y t =>
    intro l hl
    obtain ⟨a, s, rfl, rfl, hs⟩ := List.map_eq_cons_iff.1 hl.symm
    obtain ⟨b, s, rfl, rfl, rfl⟩ := List.map_eq_cons_iff.1 hs
    exact ⟨b :: a :: s, rfl, List.Perm.swap _ _ _⟩
  | trans _ _ ih1 ih2 =>
    intro l hl
    obtain ⟨l1, h1, h2⟩ := ih2 hl
    obtain ⟨l2, h3, h4⟩ := ih1 h1
    exact ⟨l2, h3, h4.trans h2⟩

set_option maxRecDepth 100000 in
theorem all_test (k : ByteArray) (w : World) : Calls Try.prog 49 #[.string k] w fun e w' => e = .returned (.bool true) ∧ Below w.heap.size w w' := by
  go_enter Try.func49, Try.ntmps49
  go_wp2
  go_ret
  exact ⟨rfl, Below.refl _ _⟩
set_option maxRecDepth 100000 in
theorem range_test (g h : Nat) (a b k : ByteArray) (w : World) (h1 : w.cell? ⟨g, 0, none⟩ = some (.string a)) (h2 : w.cell? ⟨h, 0, none⟩ = some (.string b)) :
    Calls Try.prog 53 #[.string k, .pointer (some ⟨g, 0, none⟩), .pointer (some ⟨h, 0, none⟩)] w fun e w' => e = .returned (.bool (inR a b k)) ∧ Below w.heap.size w w' := by
  cases he : bytesLess k.toList a.toList <;>
  · go_enter Try.func53, Try.ntmps53
    go_wp2
    go_ret
    exact ⟨ret_bool (by simp [inR, klt, he]), Below.refl _ _⟩

theorem filter_perm {f : Pair → Bool} {l1 l2 O L : List Pair} {p : Pair} (h : (O ++ (l1 ++ p :: l2).filter f).Perm L) : (f p = true → ((O ++ [p]) ++ (l1 ++ l2).filter f).Perm L) ∧ (f p = false → (O ++ (l1 ++ l2).filter f).Perm L) := by
  constructor
  · intro hf
    refine List.Perm.trans ?_ h
    rw [List.append_assoc, List.filter_append, List.filter_append, List.filter_cons_of_pos hf]
    refine List.Perm.append_left O ?_
    simpa using (List.perm_middle (l₁ := l1.filter f) (l₂ := l2.filter f) (a := p)).symm
  · intro hf
    rw [List.filter_append, List.filter_cons_of_neg (by simp [hf]), ← List.filter_append] at h
    exact h

set_option maxRecDepth 100000 in
set_option maxHeartbeats 4000000 in
theorem within_all (pb mb : Nat) (l : List Pair) (w : World) (h : Buf w pb mb l) :
    Calls Try.prog 48 #[.pointer (some ⟨pb, 0, none⟩), .func (.func 49) #[] #[]] w fun e w' => ∃ v, e = .returned v ∧ Sl tPair w' (fun b => w.heap.size ≤ b) v l ∧ Below w.heap.size w w' := by
  obtain ⟨V, hV, hp⟩ := h.map
  have HF : Hid ((∀ W k, Below w.heap.size w W → Calls Try.prog 49 #[.string k] W fun e w' => e = .returned (.bool ((fun _ => true) k)) ∧ Below W.heap.size W w')) := fun W k _ => all_test k W
  obtain ⟨f, hf⟩ : ∃ f : ByteArray → Bool, (fun _ => true) = f := ⟨_, rfl⟩
  rw [hf] at HF
  have hfl : l.filter (fun p => f p.key) = l := by rw [← hf]; simp
  have HFL := Lib.hid hfl
  obtain ⟨w0, hrange, hM0, hg0, hs0⟩ := hV.range Try.underlying102
  have c0 := h.blk.cell 0
  have HB := Lib.hid h.blk
  have hb0 : Below w.heap.size w w0 := ⟨hg0.os, hg0.tape, hg0.output, hg0.size, fun k hk => hg0.block k hk (by simp)⟩
  obtain ⟨rb, hrb⟩ : ∃ rb, w.heap.size = rb := ⟨_, rfl⟩
  have HB0 : Hid (Below rb w w0) := by rw [← hrb]; exact hb0
  have HP := Lib.hid hp
  have HL := Lib.hid h.len
  have HR := Lib.hid h.rising
  have hM0' : Hid (Mr KS w0 mb rb V V) := by rw [← hrb]; exact hM0
  have hO0 : Hid (Own tPair w0 (rb + 1) 68 none_ (.slice none 0 0) []) := Own.nil tPair w0 (rb + 1) 68 none_
  have hlt : mb < rb := by rw [← hrb]; exact hV.lt
  clear hf hfl hV hp h hg0 hb0 hM0
  go_enter Try.func48, Try.ntmps48
  go_wp2_with fail
  refine (made_calls pb mb _ HB.out).mono ?_
  rintro e w' ⟨rfl, rfl⟩
  go_wp2
  go_loopw [5] (fun v wr => ∃ (rest : List (ByteArray × Value)) (Rl O : List Pair), rest = Rl.map kv ∧ Hid (Own tPair wr (rb + 1) 68 none_ v O) ∧ Hid ((O ++ Rl.filter fun p => f p.key).Perm (l.filter fun p => f p.key)) ∧ Hid (Mr KS wr mb rb V rest) ∧ Hid (Below rb w wr) ∧ O.length + Rl.length ≤ l.length ∧ rb < wr.heap.size) (fun _ wr => wr.rangeLeft mb rb)
  case atStart =>
    obtain ⟨Rl, e1, e2⟩ := perm_map_inv kv HP.out rfl
    exact ⟨V, Rl, [], e1, hO0, e2.filter _, hM0', HB0.out, by simp [e2.length_eq], by omega⟩
  case round =>
    obtain ⟨rest, Rl, O, rfl, hO, hpm, hM, hb, hlen, hz⟩ := hrel
    rcases hM.out.next 0 with ⟨h0, hrun⟩ | ⟨k, v, r1, r2, w1, hsp, -, -, hrun, hM1, hlt1, hg1, hs1, hen⟩
    · have hRl : Rl = [] := by simpa using h0
      subst hRl
      have hO2 := Lib.hid hO.out
      have HS := Lib.hid (sort_calls O u5 (rb + 1) wr hO.out (by have := HL.out; simp at hlen; omega))
      clear hrange hs0 c0 hO
      go_wp2_with fail
      refine HS.out.mono ?_
      rintro e w2 ⟨rfl, l', h1, h2, h3, h4⟩
      have hl' : l' = l := by
        have hq := hpm.out
        rw [List.filter_nil, List.append_nil, HFL.out] at hq
        exact sorted_ext (h1.trans hq) h2 HR.out
      have H3 := Lib.hid (h3.sl.mono (ok' := fun b => rb ≤ b) fun b hb => hb.elim False.elim fun h => by omega)
      have H4 := Lib.hid (hb.out.grown h4 (by omega) (fun b hb => by have := (hO2.out.lo hb).1; omega))
      subst hl'
      clear h1 h2 h3 h4 hpm
      go_wp2
      go_ret
      exact ⟨_, rfl, by rw [hrb]; exact H3.out, by rw [hrb]; exact H4.out⟩
    · obtain ⟨l1, p, l2, rfl, hr, rfl, rfl⟩ := kv_split hsp
      have hM1' : Hid (Mr KS w1 mb rb V ((l1 ++ l2).map kv)) := by rw [← hr]; exact hM1
      have hO1 : Hid (Own tPair w1 (rb + 1) 68 none_ u5 O) := hO.out.grown hg1 (fun b hb e => by have := (hO.out.lo hb).1; injection e; omega) (fun _ h => h.elim)
      have hb1 : Hid (Below rb w w1) := hb.out.grown hg1 (by omega) (fun k e => by cases e; exact Nat.le_refl _)
      have hen' : (Instr.entry (.pointer (some ⟨rb, 0, none⟩))).run Try.prog w1 = .ok (.tuple #[.string p.key, .agg #[.string p.key, .string p.val, .bool p.dead]]) w1 := hen
      have hrun' : (Instr.next (.pointer (some ⟨rb, 0, none⟩)) false 0).run Try.prog wr = .ok (.tuple #[.bool true, .string p.key, .agg #[.string p.key, .string p.val, .bool p.dead]]) w1 := hrun
      have HLT := Lib.hid hlt1
      have hz1 : rb < w1.heap.size := by omega
      clear hrange hs0 c0 hO hM hb hsp hM1 hen hrun hlt1 hr hg1 hs1
      have hba := (Below.refl w1.heap.size w1).alloc (Nat.le_refl _) (.cells #[.string p.key, .string p.val, .bool p.dead] 68)
      have HBA := Lib.hid hba
      have HPa : Hid (Blk (w1.alloc (.cells #[.string p.key, .string p.val, .bool p.dead] 68)) w1.heap.size #[.string p.key, .string p.val, .bool p.dead] 68) := Blk.new _ _ _
      have HC := Lib.hid (HF.out (w1.alloc (.cells #[.string p.key, .string p.val, .bool p.dead] 68)) p.key (by rw [hrb]; exact hb1.out.trans (hba.mono (by omega))))
      clear hba
      go_wp2_with fail
      refine HC.out.mono ?_
      rintro e w2 ⟨rfl, hb2⟩
      have hb12 : Below w1.heap.size w1 w2 := HBA.out.trans (hb2.mono (by simp))
      have hPb : Blk w2 w1.heap.size #[.string p.key, .string p.val, .bool p.dead] 68 := HPa.out.below hb2 (by simp)
      have e0 := hPb.cell 0
      have e1 := hPb.cell 1
      have e2 := hPb.cell 2
      have hz2 := hb12.size
      have hO2 : Hid (Own tPair w2 (rb + 1) 68 none_ u5 O) := hO1.out.below hb12
      have hb2' : Hid (Below rb w w2) := hb1.out.trans (hb12.mono (by omega))
      have hM2 : Hid (Mr KS w2 mb rb V ((l1 ++ l2).map kv)) := hM1'.out.kept (row := none) ⟨hb12.os, hb12.tape, hb12.output, hb12.size, fun k hk _ => hb12.block k hk⟩ (by simp) (by simp)
      have hlt2 : Hid (w2.rangeLeft mb rb < wr.rangeLeft mb rb) := by
        show _ < _
        rw [hM1'.out.left ⟨hb12.os, hb12.tape, hb12.output, hb12.size, fun k hk _ => hb12.block k hk⟩]; exact HLT.out
      have hfp := filter_perm (f := fun p => f p.key) hpm.out
      clear hrun' hen' hb2 hb12 hPb HC HBA HPa hM1' hO1 hb1 HLT hpm
      simp only [List.length_append, List.length_cons] at hlen
      cases hf : f p.key
      · have HFP := Lib.hid (hfp.2 hf)
        clear hfp hf
        go_wp2
        go_roundw
        case rel => exact ⟨_, l1 ++ l2, O, rfl, hO2, HFP, hM2, hb2', by simp; omega, by omega⟩
        case measure => exact hlt2.out
      · have HFP := Lib.hid (hfp.1 hf)
        have hK : Hid (tPair.K w2 (fun b => none_ b ∧ u5.ownBlock ≠ some b) p [.string p.key, .string p.val, .bool p.dead]) := rfl
        have hlO : O.length ≤ 1000 := by have := HL.out; omega
        have hX2 := Lib.hid (Below.refl (rb + 1) w2)
        clear hfp hf
        go_wp2_with (at_builtin; refine wpList_app1 (o := ⟨some 26, _, _, _, _, _⟩) (t := tPair) (w0 := w2) (g := w2.heap.size) (cs := [.string p.key, .string p.val, .bool p.dead]) (y := p) (rb + 1) rfl _ _ 32 68 _ 40 rfl Try.underlying32 info52 rfl (by decide) (by decide) rfl rfl rfl hO2.out hK.out hX2.out ?c2 ?c3 ?_; (case c2 => omega); (case c3 => omega); intro v1 w9 hO9 hB9 hG9 _)
        have hO9' := Lib.hid hO9
        have hB9' : Hid (Below rb w w9) := hb2'.out.trans (hB9.mono (by omega))
        have hM9 : Hid (Mr KS w9 mb rb V ((l1 ++ l2).map kv)) := hM2.out.kept hG9 (fun e => by have := (hO2.out.lo e.symm).1; omega) (fun e => by have := (hO2.out.lo e.symm).1; omega)
        have hlt9 : Hid (w9.rangeLeft mb rb < wr.rangeLeft mb rb) := by
          show _ < _
          rw [hM2.out.left_row hG9 (fun e => by have := (hO2.out.lo e.symm).1; omega) (fun e => by have := (hO2.out.lo e.symm).1; omega)]; exact hlt2.out
        have hz9 := hG9.size
        clear hO9 hB9 hG9
        go_roundw
        case rel => exact ⟨_, l1 ++ l2, O ++ [p], rfl, hO9', HFP, hM9, hB9', by simp; omega, by omega⟩
        case measure => exact hlt9.out
set_option maxRecDepth 100000 in
set_option maxHeartbeats 4000000 in
theorem within_range (pb mb : Nat) (l : List Pair) (ga gb : Nat) (x y : ByteArray) (w : World) (h : Buf w pb mb l) (hga : Blk w ga #[.string x] 9) (hgb : Blk w gb #[.string y] 9) :
    Calls Try.prog 48 #[.pointer (some ⟨pb, 0, none⟩), .func (.func 53) #[] #[.pointer (some ⟨ga, 0, none⟩), .pointer (some ⟨gb, 0, none⟩)]] w fun e w' => ∃ v, e = .returned v ∧ Sl tPair w' (fun b => w.heap.size ≤ b) v (l.filter fun p => inR x y p.key) ∧ Below w.heap.size w w' := by
  obtain ⟨V, hV, hp⟩ := h.map
  have HF : Hid ((∀ W k, Below w.heap.size w W → Calls Try.prog 53 #[.string k, .pointer (some ⟨ga, 0, none⟩), .pointer (some ⟨gb, 0, none⟩)] W fun e w' => e = .returned (.bool ((inR x y) k)) ∧ Below W.heap.size W w')) := fun W k hw => range_test ga gb x y k W ((hga.below hw hga.lt).cell 0) ((hgb.below hw hgb.lt).cell 0)
  obtain ⟨f, hf⟩ : ∃ f : ByteArray → Bool, inR x y = f := ⟨_, rfl⟩
  rw [hf] at HF
  obtain ⟨lf, hlf⟩ : ∃ lf, l.filter (fun p => f p.key) = lf := ⟨_, rfl⟩
  have hfl : l.filter (fun p => f p.key) = lf := hlf
  have hrf : Rising lf := by rw [← hlf]; exact h.rising.sublist List.filter_sublist
  rw [show (fun p : Pair => inR x y p.key) = fun p => f p.key by rw [← hf], hlf]
  have HFL := Lib.hid hfl
  obtain ⟨w0, hrange, hM0, hg0, hs0⟩ := hV.range Try.underlying102
  have c0 := h.blk.cell 0
  have HB := Lib.hid h.blk
  have hb0 : Below w.heap.size w w0 := ⟨hg0.os, hg0.tape, hg0.output, hg0.size, fun k hk => hg0.block k hk (by simp)⟩
  obtain ⟨rb, hrb⟩ : ∃ rb, w.heap.size = rb := ⟨_, rfl⟩
  have HB0 : Hid (Below rb w w0) := by rw [← hrb]; exact hb0
  have HP := Lib.hid hp
  have HL := Lib.hid h.len
  have HR := Lib.hid hrf
  have hM0' : Hid (Mr KS w0 mb rb V V) := by rw [← hrb]; exact hM0
  have hO0 : Hid (Own tPair w0 (rb + 1) 68 none_ (.slice none 0 0) []) := Own.nil tPair w0 (rb + 1) 68 none_
  have hlt : mb < rb := by rw [← hrb]; exact hV.lt
  clear hf hfl hV hp h hg0 hb0 hM0 hlf hrf hga hgb
  go_enter Try.func48, Try.ntmps48
  go_wp2_with fail
  refine (made_calls pb mb _ HB.out).mono ?_
  rintro e w' ⟨rfl, rfl⟩
  go_wp2
  go_loopw [5] (fun v wr => ∃ (rest : List (ByteArray × Value)) (Rl O : List Pair), rest = Rl.map kv ∧ Hid (Own tPair wr (rb + 1) 68 none_ v O) ∧ Hid ((O ++ Rl.filter fun p => f p.key).Perm (l.filter fun p => f p.key)) ∧ Hid (Mr KS wr mb rb V rest) ∧ Hid (Below rb w wr) ∧ O.length + Rl.length ≤ l.length ∧ rb < wr.heap.size) (fun _ wr => wr.rangeLeft mb rb)
  case atStart =>
    obtain ⟨Rl, e1, e2⟩ := perm_map_inv kv HP.out rfl
    exact ⟨V, Rl, [], e1, hO0, e2.filter _, hM0', HB0.out, by simp [e2.length_eq], by omega⟩
  case round =>
    obtain ⟨rest, Rl, O, rfl, hO, hpm, hM, hb, hlen, hz⟩ := hrel
    rcases hM.out.next 0 with ⟨h0, hrun⟩ | ⟨k, v, r1, r2, w1, hsp, -, -, hrun, hM1, hlt1, hg1, hs1, hen⟩
    · have hRl : Rl = [] := by simpa using h0
      subst hRl
      have hO2 := Lib.hid hO.out
      have HS := Lib.hid (sort_calls O u5 (rb + 1) wr hO.out (by have := HL.out; simp at hlen; omega))
      clear hrange hs0 c0 hO
      go_wp2_with fail
      refine HS.out.mono ?_
      rintro e w2 ⟨rfl, l', h1, h2, h3, h4⟩
      have hl' : l' = lf := by
        have hq := hpm.out
        rw [List.filter_nil, List.append_nil, HFL.out] at hq
        exact sorted_ext (h1.trans hq) h2 HR.out
      have H3 := Lib.hid (h3.sl.mono (ok' := fun b => rb ≤ b) fun b hb => hb.elim False.elim fun h => by omega)
      have H4 := Lib.hid (hb.out.grown h4 (by omega) (fun b hb => by have := (hO2.out.lo hb).1; omega))
      subst hl'
      clear h1 h2 h3 h4 hpm
      go_wp2
      go_ret
      exact ⟨_, rfl, by rw [hrb]; exact H3.out, by rw [hrb]; exact H4.out⟩
    · obtain ⟨l1, p, l2, rfl, hr, rfl, rfl⟩ := kv_split hsp
      have hM1' : Hid (Mr KS w1 mb rb V ((l1 ++ l2).map kv)) := by rw [← hr]; exact hM1
      have hO1 : Hid (Own tPair w1 (rb + 1) 68 none_ u5 O) := hO.out.grown hg1 (fun b hb e => by have := (hO.out.lo hb).1; injection e; omega) (fun _ h => h.elim)
      have hb1 : Hid (Below rb w w1) := hb.out.grown hg1 (by omega) (fun k e => by cases e; exact Nat.le_refl _)
      have hen' : (Instr.entry (.pointer (some ⟨rb, 0, none⟩))).run Try.prog w1 = .ok (.tuple #[.string p.key, .agg #[.string p.key, .string p.val, .bool p.dead]]) w1 := hen
      have hrun' : (Instr.next (.pointer (some ⟨rb, 0, none⟩)) false 0).run Try.prog wr = .ok (.tuple #[.bool true, .string p.key, .agg #[.string p.key, .string p.val, .bool p.dead]]) w1 := hrun
      have HLT := Lib.hid hlt1
      have hz1 : rb < w1.heap.size := by omega
      clear hrange hs0 c0 hO hM hb hsp hM1 hen hrun hlt1 hr hg1 hs1
      have hba := (Below.refl w1.heap.size w1).alloc (Nat.le_refl _) (.cells #[.string p.key, .string p.val, .bool p.dead] 68)
      have HBA := Lib.hid hba
      have HPa : Hid (Blk (w1.alloc (.cells #[.string p.key, .string p.val, .bool p.dead] 68)) w1.heap.size #[.string p.key, .string p.val, .bool p.dead] 68) := Blk.new _ _ _
      have HC := Lib.hid (HF.out (w1.alloc (.cells #[.string p.key, .string p.val, .bool p.dead] 68)) p.key (by rw [hrb]; exact hb1.out.trans (hba.mono (by omega))))
      clear hba
      go_wp2_with fail
      refine HC.out.mono ?_
      rintro e w2 ⟨rfl, hb2⟩
      have hb12 : Below w1.heap.size w1 w2 := HBA.out.trans (hb2.mono (by simp))
      have hPb : Blk w2 w1.heap.size #[.string p.key, .string p.val, .bool p.dead] 68 := HPa.out.below hb2 (by simp)
      have e0 := hPb.cell 0
      have e1 := hPb.cell 1
      have e2 := hPb.cell 2
      have hz2 := hb12.size
      have hO2 : Hid (Own tPair w2 (rb + 1) 68 none_ u5 O) := hO1.out.below hb12
      have hb2' : Hid (Below rb w w2) := hb1.out.trans (hb12.mono (by omega))
      have hM2 : Hid (Mr KS w2 mb rb V ((l1 ++ l2).map kv)) := hM1'.out.kept (row := none) ⟨hb12.os, hb12.tape, hb12.output, hb12.size, fun k hk _ => hb12.block k hk⟩ (by simp) (by simp)
      have hlt2 : Hid (w2.rangeLeft mb rb < wr.rangeLeft mb rb) := by
        show _ < _
        rw [hM1'.out.left ⟨hb12.os, hb12.tape, hb12.output, hb12.size, fun k hk _ => hb12.block k hk⟩]; exact HLT.out
      have hfp := filter_perm (f := fun p => f p.key) hpm.out
      clear hrun' hen' hb2 hb12 hPb HC HBA HPa hM1' hO1 hb1 HLT hpm
      simp only [List.length_append, List.length_cons] at hlen
      cases hf : f p.key
      · have HFP := Lib.hid (hfp.2 hf)
        clear hfp hf
        go_wp2
        go_roundw
        case rel => exact ⟨_, l1 ++ l2, O, rfl, hO2, HFP, hM2, hb2', by simp; omega, by omega⟩
        case measure => exact hlt2.out
      · have HFP := Lib.hid (hfp.1 hf)
        have hK : Hid (tPair.K w2 (fun b => none_ b ∧ u5.ownBlock ≠ some b) p [.string p.key, .string p.val, .bool p.dead]) := rfl
        have hlO : O.length ≤ 1000 := by have := HL.out; omega
        have hX2 := Lib.hid (Below.refl (rb + 1) w2)
        clear hfp hf
        go_wp2_with (at_builtin; refine wpList_app1 (o := ⟨some 26, _, _, _, _, _⟩) (t := tPair) (w0 := w2) (g := w2.heap.size) (cs := [.string p.key, .string p.val, .bool p.dead]) (y := p) (rb + 1) rfl _ _ 32 68 _ 40 rfl Try.underlying32 info52 rfl (by decide) (by decide) rfl rfl rfl hO2.out hK.out hX2.out ?c2 ?c3 ?_; (case c2 => omega); (case c3 => omega); intro v1 w9 hO9 hB9 hG9 _)
        have hO9' := Lib.hid hO9
        have hB9' : Hid (Below rb w w9) := hb2'.out.trans (hB9.mono (by omega))
        have hM9 : Hid (Mr KS w9 mb rb V ((l1 ++ l2).map kv)) := hM2.out.kept hG9 (fun e => by have := (hO2.out.lo e.symm).1; omega) (fun e => by have := (hO2.out.lo e.symm).1; omega)
        have hlt9 : Hid (w9.rangeLeft mb rb < wr.rangeLeft mb rb) := by
          show _ < _
          rw [hM2.out.left_row hG9 (fun e => by have := (hO2.out.lo e.symm).1; omega) (fun e => by have := (hO2.out.lo e.symm).1; omega)]; exact hlt2.out
        have hz9 := hG9.size
        clear hO9 hB9 hG9
        go_roundw
        case rel => exact ⟨_, l1 ++ l2, O ++ [p], rfl, hO9', HFP, hM9, hB9', by simp; omega, by omega⟩
        case measure => exact hlt9.out
end Go.Proofs.Ytidfogcilegloaa.B
