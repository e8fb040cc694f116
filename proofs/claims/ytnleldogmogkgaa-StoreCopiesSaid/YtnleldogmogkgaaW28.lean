import Derived.Test.YtnleldogmogkgaaW27
/-! Was a key of a range written behind a snapshot? -/
namespace Go.Proofs.Ytnleldogmogkgaa
open Go.RowKit Go.Op Go.Shelf
attribute [local go_sem] Oper.semAt_some

theorem enters56 (args : Array Value) (w : World) : (callFunc 56 args).run Try.prog w = .ok (.enter 56 args) w := enters_of Try.func56 (by kernel_rfl) rfl args w
/-- What an iterator reads, of a store. -/
theorem Stm.btw {w W : World} {pb mb : Nat} {kv : Value} {X : List Nat} {S : Sto} {x y : ByteArray} {r bs : Nat} {V : List (ByteArray × Value)} (h : Stm w pb mb kv X S) (hV : Mp KS w mb V) (hB : Below w.heap.size w W) (hr : w.heap.size ≤ r) (hr1 : r < bs) (hbs : W.heap.size = bs + 3)
    (c1 : W.cell? ⟨bs, 0, none⟩ = some (.pointer (some ⟨pb, 0, none⟩))) (c2 : W.cell? ⟨bs + 1, 0, none⟩ = some (.string x)) (c3 : W.cell? ⟨bs + 2, 0, none⟩ = some (.string y)) :
    Btw W.heap.size (· ≠ r) W pb mb bs (bs + 1) (bs + 2) kv x y (S.ents.map (·.key)) V S.last S.floor := by
  have hlt := h.lt
  refine ⟨c1, c2, c3, h.blk.below hB (hlt _ h.inP), ?_, hV.same (hB.block _ (hlt _ h.inM)), fun b hb => ?_⟩
  · exact (h.below hB).keys
  · rcases hb with rfl | rfl | rfl | rfl | rfl | hb
    · omega
    · omega
    · omega
    · have := hlt _ h.inP; exact ⟨by omega, by omega⟩
    · have := hlt _ h.inM; exact ⟨by omega, by omega⟩
    · have := hlt _ (h.inK b hb); exact ⟨by omega, by omega⟩
/-- A chain that is told, in a later world. -/
theorem chain_at {w W : World} {mb : Nat} {X : List Nat} {S : Sto} {V : List (ByteArray × Value)} {z r : Nat} {w5 : World} (hok : S.Ok) (hla : S.last ≤ 1000000) (hV : Mp KS w mb V) (hC : Ch w X V S.ents) (hB : Below w.heap.size w w5) (hr : w.heap.size ≤ r) (hz : w.heap.size ≤ z) (hk : Kept (· ≠ r) z w5 W) (k : ByteArray) :
    ∃ A n c, valOf V k = .slice A n c ∧ Sl tVer W (fun _ => True) (.slice A n c) (chainOf S.ents k) ∧ n ≤ 1000000 := by
  obtain ⟨A, n, c, h1, h2⟩ := look_at hok.rising hV hC k
  have h3 := chain_len (by have := hok.fl; have := hok.le; omega) hla hok.chains k
  have hn := h2.length.1
  refine ⟨A, n, c, h1, (h2.inb.step fun b hb => ?_).mono fun _ _ => trivial, by omega⟩
  exact (hk.2 b (by omega) (by omega)).trans (hB.block b hb.2)
theorem sel_size {ks : List ByteArray} {V : List (ByteArray × Value)} {x y : ByteArray} {p : ByteArray × Value} (h : p ∈ selV ks V x y) : p.1 ∈ ks ∧ p.2 = valOf V p.1 := by
  unfold selV keysIn at h
  obtain ⟨k, hk, rfl⟩ := List.mem_map.1 h
  exact ⟨List.mem_of_mem_drop ((List.takeWhile_sublist _).subset hk), rfl⟩
theorem pre_mem {α : Type} {S pre : List α} {x : α} (h : pre ++ [x] <+: S) : x ∈ S := h.subset (by simp)

theorem end19 {w w9 : World} {D r : Nat} {tmps : Array Value} {b b' : Bool} (hbk : Blk w9 r #[.bool b] 4) (hK : w9.heap[D]? = some (.deferred (some []))) (hne : r ≠ D) (hb : Below w.heap.size w w9) (hb1 : w.heap.size ≤ D) (ht : tmps[8]? = some (.pointer (some ⟨r, 0, none⟩))) (h : b = b') :
    bodyPostM Fence.wide 4 Try.prog Try.f19 (fun e w' => e = .returned (.bool b') ∧ Below w.heap.size w w') .ret ⟨tmps, [{ target := .collected D, args := #[] }]⟩ w9 := by
  subst h
  refine ⟨by simp, .inl ⟨_, _, rfl, run_takeDeferred hK, ?_⟩⟩
  have hc : (w9.putObj D (.deferred none)).cell? ⟨r, 0, none⟩ = some (.bool b) := by
    rw [World.cell?_of_block (w := w9) (World.putObj_heap_other (by omega))]
    exact hbk.cell 0
  refine ⟨.bool b, by simp [results, Try.results19, ht, go_sem, hc], rfl, ?_⟩
  exact hb.grown (grownBy_putObj' _ D _) hb.size (fun k e => by cases e; exact hb1)
theorem kept_set {r z : Nat} (W : World) (v : Value) : Kept (· ≠ r) z W (W.setCell ⟨r, 0, none⟩ v) := ⟨by simp, fun b _ hb => Below.heap_setCell _ _ _ _ hb⟩

set_option maxHeartbeats 8000000 in
theorem swithin_calls (pb mb : Nat) (kv : Value) (X : List Nat) (S : Sto) (x y : ByteArray) (n : Int) (w : World) (h : Stm w pb mb kv X S) (_hx : x.size ≤ maxLen) (hy : y.size ≤ maxLen) :
    Calls Try.prog 19 #[.pointer (some ⟨pb, 0, none⟩), .string x, .string y, .int .i64 n] w fun e w' => e = .returned (.bool (within S.ents x y n)) ∧ Below w.heap.size w w' := by
  obtain ⟨V, hV, hC⟩ := h.map
  obtain ⟨z0, hz0⟩ : ∃ z0, w.heap.size = z0 := ⟨_, rfl⟩
  obtain ⟨wa, hwa⟩ : ∃ wa, (w.alloc (.cells #[.int .i64 n] 3)).alloc (.cells #[.bool false] 4) = wa := ⟨_, rfl⟩
  have hza : wa.heap.size = z0 + 2 := by rw [← hwa]; simp [hz0]
  have hba : Below w.heap.size w wa := by rw [← hwa]; exact ((Below.refl _ w).alloc (Nat.le_refl _) _).alloc (by simp) _
  have hN : Blk wa z0 #[.int .i64 n] 3 := by rw [← hwa, ← hz0]; exact (Blk.new _ _ _).alloc _
  have hR : Blk wa (z0 + 1) #[.bool false] 4 := by rw [← hwa, ← hz0]; have := Blk.new (w.alloc (.cells #[.int .i64 n] 3)) #[.bool false] 4; rwa [World.size_alloc] at this
  have HM := Lib.hid (h.below hba).made
  have HBC := Lib.hid (between_calls pb x y wa)
  have HS := Lib.hid h
  have HV := Lib.hid hV
  have HC := Lib.hid hC
  have HBA := Lib.hid hba
  have HN := Lib.hid hN
  have HR := Lib.hid hR
  have HZ := Lib.hid hz0
  have HWE := Lib.hid (within_eq (x := x) (y := y) (n := n) (V := V) h.ok.rising)
  clear h hV hC hba hN hR
  refine (callsIn_wide (n := 4)).1 ?_
  refine callsIn_of_wp_marks Try.func19 rfl trivial ?_ rfl
  simp only [Try.ntmps19, List.size_toArray, List.length_cons, List.length_nil, Nat.reduceAdd, Nat.reduceSub, Array.replicate_succ, Array.replicate_zero, List.push_toArray, List.append_toArray, List.nil_append, List.cons_append]
  refine wpIn_wide.2 ?_
  go_wp2_with fail
  refine HM.out.mono ?_
  rintro e w' ⟨rfl, rfl⟩
  clear HM
  go_wp2_with fail
  refine HBC.out.mono ?_
  rintro e w5 ⟨rfl, hb5, hz5, c1, c2, c3⟩
  clear HBC
  rw [hza] at hz5 c1 c2 c3 ⊢
  have hzw := HZ.out
  have hB5 : Below w.heap.size w w5 := HBA.out.trans (hb5.mono HBA.out.size)
  have HBT := Lib.hid (HS.out.btw (r := z0 + 1) HV.out hB5 (by omega) (by omega) hz5 c1 c2 c3)
  rw [hz5] at HBT
  have HN5 := Lib.hid (HN.out.below hb5 HN.out.lt)
  have HR5 := Lib.hid (HR.out.below hb5 HR.out.lt)
  have HB5 := Lib.hid hB5
  have HSZ : Hid (∀ k ∈ S.ents.map (·.key), k.size ≤ maxLen) := fun k hk => by
    obtain ⟨e, he, rfl⟩ := List.mem_map.1 hk
    have := (HS.out.ok.chains e he).2.2.2.2
    unfold maxLen; omega
  clear hb5 c1 c2 c3 HN HR HBA hzw hB5 hwa
  go_wp2_with fail
  refine (wpIn_wide (n := 4)).1 ?_
  refine range2_law (gf := 56) (lb := #[.pointer (some ⟨z0 + 2, 0, none⟩), .pointer (some ⟨z0 + 2 + 1, 0, none⟩), .pointer (some ⟨z0 + 2 + 2, 0, none⟩)]) (by omega) rfl enters56 (z0 + 2 + 3) hz5 (· ≠ z0 + 1) (by omega) (by omega) (selV (S.ents.map (·.key)) V x y) (fun p => .string p.1) (fun p => p.2) ?seq
    (fun pre W => Kept (· ≠ z0 + 1) (z0 + 5) w5 W ∧ Below w.heap.size w W ∧ Blk W (z0 + 1) #[.bool false] 4 ∧ ∀ p ∈ pre, ¬ 0 < since (chainOf S.ents p.1) n)
    (fun c pre W => c = .ret ∧ z0 + 5 ≤ W.heap.size ∧ Below w.heap.size w W ∧ Blk W (z0 + 1) #[.bool true] 4 ∧ ∃ p ∈ selV (S.ents.map (·.key)) V x y, 0 < since (chainOf S.ents p.1) n)
    ?hI ?hIx ⟨Kept.refl _ _ _, HB5.out, HR5.out, by simp⟩
    (fun p => { tmps := #[.pointer (some ⟨pb, 0, none⟩), .string x, .string y, .int .i64 n, undef, undef, undef, .pointer (some ⟨z0, 0, none⟩), .pointer (some ⟨z0 + 1, 0, none⟩), undef, p.2, .pointer (some ⟨pb, 0, none⟩), .bool true, .bool false, .pointer (some ⟨pb, 0, none⟩), .string x, .string y,
      .func (.func 56) #[] #[.pointer (some ⟨z0 + 2, 0, none⟩), .pointer (some ⟨z0 + 2 + 1, 0, none⟩), .pointer (some ⟨z0 + 2 + 2, 0, none⟩)], .string p.1, p.2, undef, undef, undef, undef], defers := [] }) ?assign ?body ?done ?stop
  case hI =>
    rintro s A B ⟨k1, k2, k3, k4⟩ ht
    have := k1.1
    exact ⟨k1.trans (ht.kept (by omega)), k2.trans (ht.below (by have := HZ.out; omega) (by omega)), (ht.block _ k3.lt (by omega) (by omega)).trans k3, k4⟩
  case hIx =>
    rintro c s A B ⟨k1, k5, k2, k3, k4⟩ ht
    exact ⟨k1, Nat.le_trans k5 ht.size, k2.trans (ht.below (by have := HZ.out; omega) (by omega)), (ht.block _ k3.lt (by omega) (by omega)).trans k3, k4⟩
  case seq =>
    intro lid J Jx W hW hJ hY h0 hJx
    exact btw1_in (z0 + 5) (· ≠ z0 + 1) pb mb (z0 + 2) (z0 + 2 + 1) (z0 + 2 + 2) kv x y (S.ents.map (·.key)) V S.last S.floor (show (S.ents.map (·.key)).Pairwise fun a b => klt a b = true from List.pairwise_map.2 HS.out.ok.rising) (by have := HS.out.few; simp; omega) HSZ.out hy (4 - 1) lid J Jx W
      (HBT.out.kept (Kept.of_below (hz5 ▸ hW) (by omega))) (by have := hW.size; omega) hJ hY h0
  case assign =>
    intro lid p W K hK
    gi_wp2
    exact hK
  case body =>
    rintro lid pre p W ⟨hk, hb, hbk, hno⟩ hpre hzW
    obtain ⟨k, v⟩ := p
    obtain ⟨hp1, hp2⟩ := sel_size (pre_mem hpre)
    obtain ⟨A, m, c, hval, hsl, hm⟩ := chain_at HS.out.ok HS.out.last HV.out HC.out HB5.out (by omega) (by omega) hk k
    obtain rfl : v = .slice A m c := hp2.trans hval
    have HSC := Lib.hid (since_calls (chainOf S.ents k) A m c n W hsl (by omega))
    have c0 : W.cell? ⟨z0, 0, none⟩ = some (.int .i64 n) := Blk.cell ((hk.2 z0 (by omega) (by omega)).trans HN5.out) 0
    have HK := Lib.hid hk
    have HBW := Lib.hid hb
    have HBK := Lib.hid hbk
    have HNO := Lib.hid hno
    have HPRE := Lib.hid hpre
    obtain ⟨q, hq⟩ : ∃ q, since (chainOf S.ents k) n = q := ⟨_, rfl⟩
    rw [hq] at HSC
    have HQ := Lib.hid hq
    clear hk hb hbk hno hpre hq hsl hval hp2 hp1
    gi_wp2_with fail
    refine ⟨trivial, (CallsIn.inRound lid (callsIn_wide.2 HSC.out)).mono ?_⟩
    rintro e w6 ⟨rfl, hb6⟩
    have HK6 := Lib.hid (HK.out.trans (Kept.of_below hb6 (by omega)))
    have HB6 := Lib.hid (HBW.out.trans (hb6.mono HBW.out.size))
    have hR6 := HBK.out.below hb6 HBK.out.lt
    have HR6 := Lib.hid hR6
    have d0 := hR6.cell 0
    have d1 := hR6.frozen 0
    have hz6 : z0 + 5 + 2 ≤ w6.heap.size := Nat.le_trans hzW hb6.size
    have HKW : Hid (Kept (· ≠ z0 + 1) (z0 + 5 + 2) W w6) := Kept.of_below hb6 hzW
    clear hb6 HSC HK HBW HBK c0 hR6
    by_cases h0 : 0 < q
    · have h0' : (0 : Int) < (q : Int) := by omega
      have HEX : Hid (∃ p ∈ selV (S.ents.map (·.key)) V x y, 0 < since (chainOf S.ents p.1) n) := ⟨_, pre_mem HPRE.out, by show 0 < since (chainOf S.ents k) n; rw [HQ.out]; exact h0⟩
      clear h0
      have hzw := HZ.out
      gi_wp2
      exact ⟨HKW.out.trans (kept_set _ _), rfl, by simp; omega, HB6.out.setCell (p := ⟨z0 + 1, 0, none⟩) (by show _ ≤ z0 + 1; omega) _, HR6.out.set 0 _, HEX.out⟩
    · have h0' : ¬ (0 : Int) < (q : Int) := by omega
      have HNX : Hid (∀ p ∈ pre ++ [(k, .slice A m c)], ¬ 0 < since (chainOf S.ents p.1) n) := fun p hp => by
        rcases List.mem_append.1 hp with hp | hp
        · exact HNO.out p hp
        · rw [List.mem_singleton.1 hp]; show ¬ 0 < since (chainOf S.ents k) n; rw [HQ.out]; exact h0
      clear h0
      gi_wp2
      exact ⟨HKW.out, HK6.out, HB6.out, HR6.out, HNX.out⟩
  case done =>
    rintro D W hD ⟨hk, hb, hbk, hno⟩ hK
    have d0 := hbk.cell 0
    have d1 := hbk.frozen 0
    have HB := Lib.hid hb
    have HBK := Lib.hid hbk
    have hw : Hid (within S.ents x y n = false) := by
      show _ = _
      rw [HWE.out, List.any_eq_false]
      intro p hp
      simpa using hno p hp
    have HKD := Lib.hid hK
    have hzw := HZ.out
    clear hk hb hbk hno hK
    gi_wp2_with fail
    go_wp2
    exact end19 (HBK.out.set 0 _) ((Below.heap_setCell _ _ _ _ (by show D ≠ z0 + 1; omega)).trans HKD.out) (by omega) (HB.out.setCell (p := ⟨z0 + 1, 0, none⟩) (by show _ ≤ z0 + 1; omega) _) (by omega) rfl hw.out.symm
  case stop =>
    rintro D c pre W hD ⟨rfl, hz, hb, hbk, hex⟩ hK
    have hw : Hid (within S.ents x y n = true) := by
      show _ = _
      rw [HWE.out, List.any_eq_true]
      obtain ⟨p, hp, h⟩ := hex
      exact ⟨p, hp, by simpa using h⟩
    have hzw := HZ.out
    gi_wp2
    exact end19 hbk hK (by omega) hb (by omega) rfl hw.out.symm
end Go.Proofs.Ytnleldogmogkgaa
