import Derived.Test.YtnleldogmogkgaaW21
/-! Collect. -/
namespace Go.Proofs.Ytnleldogmogkgaa
open Go.RowKit Go.Op

/-- Between two rounds. -/
structure Cl (w wr : World) (pb mb gb : Nat) (kv : Value) (X : List Nat) (E R : List Ent) (la n : Int) (V : List (ByteArray × Value)) : Prop where
  blk : Blk wr pb #[.map (some mb), kv, .int .i64 la, .int .i64 n] 57
  keys : Own Ty.str wr 0 9 none_ kv (E.map (·.key))
  mp : Mp KS wr mb V
  ch : Ch wr X V R
  box : Blk wr gb #[.pointer (some ⟨pb, 0, none⟩)] 26
  chg : Chg pb mb kv w wr
section
variable {w wr w' : World} {pb mb gb : Nat} {kv : Value} {X : List Nat} {E R : List Ent} {la n : Int} {V : List (ByteArray × Value)}
theorem Cl.below (h : Cl w wr pb mb gb kv X E R la n V) (hb : Below wr.heap.size wr w') : Cl w w' pb mb gb kv X E R la n V :=
  ⟨h.blk.below hb h.blk.lt, own_str h.keys fun b e => hb.block b (by have := (h.keys.lo e).2; exact this), h.mp.below hb, h.ch.step fun b hl _ => hb.block b hl, h.box.below hb h.box.lt, h.chg.trans (Kin.refl _ _) (Chg.of_below hb)⟩
theorem Cl.mapped {V' : List (ByteArray × Value)} {R' : List Ent} (h : Cl w wr pb mb gb kv X E R la n V) (hg : wr.grownBy w' (some mb)) (hm : Mp KS w' mb V') (hne : pb ≠ mb) (hM : mb ∈ X) (nM : kv.ownBlock ≠ some mb) (hc : Ch wr X V' R') : Cl w w' pb mb gb kv X E R' la n V' := by
  have hall : ∀ b, b < wr.heap.size → b ≠ mb → w'.heap[b]? = wr.heap[b]? := fun b h1 h2 => hg.block b h1 (fun e => h2 (by injection e))
  refine ⟨(hall pb h.blk.lt hne).trans h.blk, own_str h.keys fun b e => hall b (h.keys.lo e).2 (fun e' => nM (by rw [← e']; exact e)), hm, hc.step fun b hb hn => hall b hb (fun e => hn (by rw [e]; exact hM)), (hall gb h.box.lt (fun e => ?_)).trans h.box, h.chg.trans (Kin.refl _ _) (Chg.of_grown hg fun b e => .inr (.inl (by injection e with e; exact e.symm)))⟩
  obtain ⟨D, ⟨es, cl, h5, _⟩, _⟩ := h.mp
  have h6 := h.box
  unfold Blk at h6
  rw [e, h5] at h6
  cases h6
end

theorem coll_fin {w Wa wr W5 : World} {pb mb gb : Nat} {kv kq : Value} {X : List Nat} {E : List Ent} {la fl n : Int} {V : List (ByteArray × Value)} (h : Cl w wr pb mb gb kv X E (trims E n) la n V) (hX : Stx Wa pb mb kv X E la fl) (hlt : ∀ b ∈ X, b < wr.heap.size)
    (hO : Own Ty.str W5 0 9 none_ kq ((trims E n).map (·.key))) (hG : wr.grownBy W5 kv.ownBlock) (hK : kq.ownBlock = kv.ownBlock) (hok : Sto.Ok ⟨trims E n, la, n⟩) (hf : E.length ≤ 100000) (hl : la ≤ 1000000) :
    Stm (W5.setCell ⟨pb, 1, none⟩ kq) pb mb kq X ⟨trims E n, la, n⟩ ∧ Chg pb mb kv w (W5.setCell ⟨pb, 1, none⟩ kq) ∧ kq.ownBlock = kv.ownBlock := by
  have hfar : ∀ (k : Nat), k ≠ pb → (W5.setCell ⟨pb, 1, none⟩ kq).heap[k]? = W5.heap[k]? := fun k hne => Below.heap_setCell W5 ⟨pb, 1, none⟩ kq k hne
  have hall : ∀ b, b < wr.heap.size → b ≠ pb → kv.ownBlock ≠ some b → (W5.setCell ⟨pb, 1, none⟩ kq).heap[b]? = wr.heap[b]? := fun b h1 h2 h3 => (hfar b h2).trans (hG.block b h1 (fun e => h3 e.symm))
  have hb5 : Blk W5 pb #[.map (some mb), kv, .int .i64 la, .int .i64 n] 57 := (hG.block pb h.blk.lt (fun e => hX.nP e.symm)).trans h.blk
  have hs5 := hG.size
  refine ⟨⟨hb5.set 1 kq, own_str hO fun b e => hfar b (fun e' => hX.nP (by rw [← hK, ← e']; exact e)), ⟨V, h.mp.same (hall mb h.mp.lt (fun e => hX.ne e.symm) hX.nM), h.ch.step fun b hb hn => hall b hb (fun e => hn (by rw [e]; exact hX.inP)) (fun e => hn (hX.inK b e))⟩, hok, Nat.le_trans (trims_length E n) hf, hl, hX.inP, hX.inM,
    fun b e => hX.inK b (by rw [← hK]; exact e), fun b hb => by rw [World.size_setCell]; have := hlt b hb; omega, by rw [hK]; exact hX.nP, by rw [hK]; exact hX.nM⟩, ?_, hK⟩
  refine h.chg.trans (Kin.refl _ _) ⟨hG.os, hG.tape, hG.output, by rw [World.size_setCell]; exact hs5, fun b hb h1 _ h3 => hall b hb h1 h3⟩

set_option maxHeartbeats 4000000 in
set_option maxRecDepth 100000 in
theorem coll_go (pb mb : Nat) (kv : Value) (X : List Nat) (S : Sto) (n : Int) (w : World) (h : Stm w pb mb kv X S) (hlo : S.floor ≤ n) (hhi : n ≤ S.last) :
    Calls Try.prog 22 #[.pointer (some ⟨pb, 0, none⟩), .int .i64 n] w fun e w' => e = .returned (.int .i64 0) ∧ ∃ kv', Stm w' pb mb kv' X ⟨trims S.ents n, S.last, n⟩ ∧ Chg pb mb kv w w' ∧ kv'.ownBlock = kv.ownBlock := by
  obtain ⟨E, la, fl⟩ := S
  have hlo' : fl ≤ n := hlo
  have hhi' : n ≤ la := hhi
  have hok := h.ok
  have HOK : Hid (Sto.Ok ⟨trims E n, la, n⟩) := by
    have := coll_ok hok n
    rw [coll, if_neg (by show ¬ (n < fl ∨ la < n); omega)] at this
    exact this
  have hfew := h.few
  have hlast := h.last
  obtain ⟨gb, hgb⟩ : ∃ gb, w.heap.size = gb := ⟨_, rfl⟩
  have hba := (Below.refl w.heap.size w).alloc (Nat.le_refl _) (.cells #[.pointer (some ⟨pb, 0, none⟩)] 26)
  have hx := h.x.below hba
  have HM := Lib.hid ((h.below hba).made)
  have hG : Blk (w.alloc (.cells #[.pointer (some ⟨pb, 0, none⟩)] 26)) gb #[.pointer (some ⟨pb, 0, none⟩)] 26 := by rw [← hgb]; exact Blk.new _ _ _
  have hpg : pb ≠ gb := by have := h.lt _ h.inP; omega
  have hsz : gb < (w.alloc (.cells #[.pointer (some ⟨pb, 0, none⟩)] 26)).heap.size := hG.lt
  have HX := Lib.hid hx
  have HC0 : Hid (Chg pb mb kv w (w.alloc (.cells #[.pointer (some ⟨pb, 0, none⟩)] 26))) := Chg.of_below hba
  have HG := Lib.hid hG
  have HOKS := Lib.hid hok
  have HE : Hid (Rising E) := hok.rising
  have hne := h.ne
  have hinM := h.inM
  have hXlt : Hid (∀ b ∈ X, b < gb) := by rw [← hgb]; exact h.lt
  clear h hx hok hba hG
  obtain ⟨Wa, hWa⟩ : ∃ Wa, w.alloc (.cells #[.pointer (some ⟨pb, 0, none⟩)] 26) = Wa := ⟨_, rfl⟩
  rw [hWa] at HX HM HC0 HG hsz
  have g0 : Wa.cell? ⟨gb, 0, none⟩ = some (.pointer (some ⟨pb, 0, none⟩)) := HG.out.cell 0
  go_enter Try.func22, Try.ntmps22
  go_wp2_with fail
  clear hWa
  refine HM.out.mono ?_
  rintro e w0 ⟨rfl, rfl⟩
  have c1 : Wa.cell? ⟨pb, 1, none⟩ = some kv := HX.out.blk.cell 1
  have c2 : Wa.cell? ⟨pb, 2, none⟩ = some (.int .i64 la) := HX.out.blk.cell 2
  have c3 : Wa.cell? ⟨pb, 3, none⟩ = some (.int .i64 fl) := HX.out.blk.cell 3
  have f3 : Wa.frozen? ⟨pb, 3, none⟩ = false := HX.out.blk.frozen 3
  obtain ⟨Ak, ck, hkv, -⟩ := HX.out.keys.form
  obtain ⟨nk, hnk⟩ : ∃ nk, (E.map (·.key)).length = nk := ⟨_, rfl⟩
  rw [hnk] at hkv
  have hnkE : Hid (E.length = nk) := by show _ = _; rw [← hnk]; simp
  have hnk2 : nk ≤ 100000 := by rw [← hnkE.out]; exact hfew
  subst hkv
  clear hnk HM
  have hX1 := HX.out.other (l' := la) (f' := n) 3 (.int .i64 n) rfl
  obtain ⟨V0, hV0, hC0⟩ := hX1.map
  have HCl0 : Hid (Cl w (Wa.setCell ⟨pb, 3, none⟩ (.int .i64 n)) pb mb gb (.slice Ak nk ck) X E (trims (E.take 0) n ++ E.drop 0) la n V0) :=
    ⟨hX1.blk, hX1.keys, hV0, hC0, HG.out.far (p := ⟨pb, 3, none⟩) hpg.symm _, HC0.out.trans (Kin.refl _ _) (Chg.of_grown (setC_grown _ _ _ _) fun b e => .inl (by injection e with e; exact e.symm))⟩
  have HXS : Hid (Stx Wa pb mb (.slice Ak nk ck) X E la fl) := HX
  clear hX1 hV0 hC0 HX HC0
  go_wp2_with fail
  go_loopw [36] (fun i wr => ∃ (j : Nat) (V : List (ByteArray × Value)), i = .int .i64 j ∧ j ≤ nk ∧ Hid (Cl w wr pb mb gb (.slice Ak nk ck) X E (trims (E.take j) n ++ E.drop j) la n V)) (fun i _ => nk - (intOf i).toNat)
  case atStart => exact ⟨0, V0, rfl, by omega, HCl0.out⟩
  case round =>
    obtain ⟨j, V, rfl, hj, hCl⟩ := hrel
    clear HCl0 g0 c1 c2 c3 f3
    by_cases hlt : j < nk
    · obtain ⟨e, he⟩ : ∃ e, E[j]? = some e := ⟨_, List.getElem?_eq_getElem (by rw [hnkE.out]; exact hlt)⟩
      obtain ⟨b, off, rfl, hbl, k0⟩ := sl_str hCl.out.keys.sl (show (E.map (·.key))[j]? = some e.key by rw [List.getElem?_map, he]; rfl)
      have hmem := List.mem_of_getElem? he
      have hch := HOKS.out.chains e hmem
      have hkm : e.key.size ≤ maxLen := by have := hch.2.2.2.2; unfold maxLen; omega
      have hla0 : 0 ≤ la := by have h1 : 0 ≤ fl := HOKS.out.fl; have h2 : fl ≤ la := HOKS.out.le; omega
      have hcl : e.c.length ≤ 1000000 := by have h1 : (e.c.length : Int) ≤ la := hch.len hla0; have h2 : la ≤ 1000000 := hlast; omega
      obtain ⟨ap1, ap2⟩ := keys_apart HE.out he n
      obtain ⟨tk1, tk2⟩ := trims_take n he
      have hdr := drop_at he
      rw [hdr] at hCl
      obtain ⟨Ac, nc, cc, hlk, hsl⟩ := hCl.out.ch.chains e (by simp)
      have hrun := hCl.out.mp.look1 Try.underlying55 (zero61 _) hkm
      rw [hlk] at hrun
      have hrun' : (Instr.lookup 55 (.map (some mb)) (.string e.key) false).run Try.prog wr = .ok (.slice Ac nc cc) wr := hrun
      have g0 := hCl.out.box.cell 0
      have c0 : wr.cell? ⟨pb, 0, none⟩ = some (.map (some mb)) := hCl.out.blk.cell 0
      have HT := Lib.hid (trim_calls e.c Ac nc cc n wr (hsl.mono fun _ _ => trivial) (by have := hsl.length.1; omega))
      have HAP1 := Lib.hid ap1
      have HAP2 := Lib.hid ap2
      have HTK1 := Lib.hid tk1
      have HTK2 := Lib.hid tk2
      have HKM := Lib.hid hkm
      clear hrun hlk hsl hdr he hmem hch hkm hcl ap1 ap2 tk1 tk2
      go_wp2_with fail
      refine HT.out.mono ?_
      rintro e' w2 ⟨u, rfl, hu, hb2⟩
      obtain ⟨Au, cu, hu', -⟩ := hu.form
      obtain ⟨ku, hku⟩ : ∃ ku, (trim e.c n).length = ku := ⟨_, rfl⟩
      rw [hku] at hu'
      subst hu'
      have hC2 := hCl.out.below hb2
      have hXr : ∀ b ∈ X, b < wr.heap.size := fun b hb => by have := hXlt.out b hb; have := hCl.out.box.lt; omega
      have HS1 := Lib.hid (hC2.ch.set1 hC2.mp.nodup HAP1.out HAP2.out (A := Au) (k := ku) (c := cu) (c' := trim e.c n) (hu.mono fun b hb hm => by have := hXr b hm; omega))
      obtain ⟨w3, hput, hm3, hg3, hs3⟩ := hC2.mp.put Try.underlying55 (by
        have h1 := hC2.ch.keys.length_eq
        have h2 : (trims (E.take j) n).length ≤ E.length := Nat.le_trans (trims_length _ _) (by rw [List.length_take]; exact Nat.min_le_right _ _)
        have h3 := hnkE.out
        simp at h1
        unfold maxLen
        omega) (k := e.key) HKM.out (.slice Au ku cu)
      have hput' : (Instr.mapUpdate 55 (.map (some mb)) (.string e.key) (.slice Au ku cu)).run Try.prog w2 = .ok () w3 := hput
      have HC3 := Lib.hid (hC2.mapped hg3 hm3 hne hinM (by exact fun e => by have h1 := HXS.out.nM; exact h1 e) HS1.out)
      have g0' : w2.cell? ⟨gb, 0, none⟩ = some (.pointer (some ⟨pb, 0, none⟩)) := hC2.box.cell 0
      have c0' : w2.cell? ⟨pb, 0, none⟩ = some (.map (some mb)) := hC2.blk.cell 0
      have g3 : w3.cell? ⟨gb, 0, none⟩ = some (.pointer (some ⟨pb, 0, none⟩)) := HC3.out.box.cell 0
      have c3' : w3.cell? ⟨pb, 0, none⟩ = some (.map (some mb)) := HC3.out.blk.cell 0
      have HKU := Lib.hid hku
      clear HT hCl hC2 hu hb2 hput hm3 hg3 HS1 g0 c0 hrun' k0 hXr hku
      by_cases h0 : ku = 0
      · subst h0
        have hnil : trim e.c n = [] := List.eq_nil_of_length_eq_zero HKU.out
        have hEq : Hid (trims (E.take (j + 1)) n = trims (E.take j) n) := HTK1.out hnil
        obtain ⟨w4, hdel, hm4, hg4, hs4⟩ := HC3.out.mp.del Try.underlying55 (k := e.key) HKM.out 0
        have hdel' : (Builtin.delete_ #[55, 9] 0 #[.map (some mb), .string e.key]).run Try.prog w3 = .ok (.tuple #[]) w4 := hdel
        clear hdel
        go_wp2
        have R : Hid (Cl w w4 pb mb gb (.slice (some ⟨b, off, none⟩) nk ck) X E (trims (E.take (j + 1)) n ++ E.drop (j + 1)) la n (delV (setV V e.key (.slice Au 0 cu)) e.key)) := by
          show Cl _ _ _ _ _ _ _ _ _ _ _ _
          rw [hEq.out]
          exact HC3.out.mapped hg4 hm4 hne hinM HXS.out.nM (HC3.out.ch.del1 HC3.out.mp.nodup HAP1.out HAP2.out)
        clear hm4 hg4 hput' g3 c3' g0' c0'
        go_roundw
        case rel => exact ⟨j + 1, _, by go_num, by omega, R⟩
        case measure => simp [intOf]; omega
      · have h0' : ((ku : Int) == 0) = false := by simp; omega
        have hEq : Hid (trims (E.take (j + 1)) n = trims (E.take j) n ++ [⟨e.key, trim e.c n⟩]) := HTK2.out (fun h => h0 (by rw [← HKU.out, h]; rfl))
        have R : Hid (Cl w w3 pb mb gb (.slice (some ⟨b, off, none⟩) nk ck) X E (trims (E.take (j + 1)) n ++ E.drop (j + 1)) la n (setV V e.key (.slice Au ku cu))) := by
          show Cl _ _ _ _ _ _ _ _ _ _ _ _
          rw [hEq.out, List.append_assoc]
          exact HC3.out
        go_wp2
        clear hput' g3 c3' g0' c0'
        go_roundw
        case rel => exact ⟨j + 1, _, by go_num, by omega, R⟩
        case measure => simp [intOf]; omega
    · have hd : trims (E.take j) n ++ E.drop j = trims E n := by
        rw [List.take_of_length_le (by rw [hnkE.out]; omega), List.drop_of_length_le (by rw [hnkE.out]; omega), List.append_nil]
      rw [hd] at hCl
      have g0 := hCl.out.box.cell 0
      have c1 : wr.cell? ⟨pb, 1, none⟩ = some (.slice Ak nk ck) := hCl.out.blk.cell 1
      have hPK : PK V (fun x => (chainOf (trims E n) x).isEmpty) := fun x hx => by
        obtain ⟨A, k, c, h1, h2⟩ := look_at (trims_rising HE.out n) hCl.out.mp hCl.out.ch x
        refine ⟨A, k, c, h1, ?_⟩
        have h3 := h2.length.1
        show decide (k = 0) = (chainOf (trims E n) x).isEmpty
        rw [← h3]
        generalize chainOf (trims E n) x = L
        cases L <;> simp
      have hkb : ∀ b, (Value.slice Ak nk ck).ownBlock = some b → b < gb := fun b e => hXlt.out b (HXS.out.inK b e)
      have hCd := hCl.out.below (Below.refl _ wr).drew
      have hdc := delete_calls (E.map (·.key)) (.slice Ak nk ck) gb pb mb V _ wr.drew hCd.keys (fun k hk => by
        obtain ⟨e, he, rfl⟩ := List.mem_map.1 hk
        have h1 := (HOKS.out.chains e he).2.2.2.2
        unfold maxLen; omega) hPK ⟨hCd.box.cell 0, hCd.blk.cell 0, hCd.mp⟩ (fun e => by have := hkb _ e; omega) HXS.out.nP HXS.out.nM hCd.box.lt hCd.blk.lt (by rw [List.length_map]; omega)
      rw [keys_left HE.out] at hdc
      have HDC : Hid (Calls Try.prog 40 #[.slice Ak nk ck, .func (.func 41) #[] #[.pointer (some ⟨gb, 0, none⟩)]] wr.drew fun e w' => ∃ kv', e = .returned kv' ∧ Own Ty.str w' 0 9 none_ kv' ((trims E n).map (·.key)) ∧ wr.grownBy w' (Value.slice Ak nk ck).ownBlock ∧ kv'.ownBlock = (Value.slice Ak nk ck).ownBlock ∧
          w'.cell? ⟨gb, 0, none⟩ = some (.pointer (some ⟨pb, 0, none⟩)) ∧ w'.cell? ⟨pb, 1, none⟩ = some (.slice Ak nk ck) ∧ w'.frozen? ⟨pb, 1, none⟩ = false) := by
        refine hdc.mono fun e w' ⟨kv', e1, e2, e3, e4⟩ => ?_
        have hP' : Blk w' pb #[.map (some mb), .slice Ak nk ck, .int .i64 la, .int .i64 n] 57 := (e3.block pb hCd.blk.lt (fun e => HXS.out.nP e.symm)).trans hCd.blk
        have hB' : Blk w' gb #[.pointer (some ⟨pb, 0, none⟩)] 26 := (e3.block gb hCd.box.lt (fun e => by have := hkb _ e.symm; omega)).trans hCd.box
        exact ⟨kv', e1, e2, ⟨e3.os, e3.tape, e3.output, e3.size, e3.block⟩, e4, hB'.cell 0, hP'.cell 1, hP'.frozen 1⟩
      clear hd hdc hPK hkb hCd
      go_wp2_with fail
      go_region_law (first
        | (go_simp; go_at_call 40; refine HDC.out.mono ?_; rintro e' W5 ⟨kv', rfl, hO5, hG5, hK5, z0, z1, f1⟩; obtain ⟨Aq, cq, hkq, -⟩ := hO5.form; obtain ⟨lq, hlq⟩ : ∃ k, ((trims E n).map (·.key)).length = k := ⟨_, rfl⟩; rw [hlq] at hkq; subst hkq; clear hlq; have HO5 := Lib.hid hO5; have HG5 := Lib.hid hG5; have HK5 := Lib.hid hK5; clear hO5 hG5 hK5))
      all_goals
        have HF := coll_fin hCl.out HXS.out (fun b hb => by have := hXlt.out b hb; have := hCl.out.box.lt; omega) HO5.out HG5.out HK5.out HOK.out hfew hlast
        have HFI := Lib.hid HF
        clear HF HO5 HG5 HK5 z0 z1 f1 g0 c1
        go_wp2
        go_ret
        exact ⟨rfl, _, HFI.out.1, HFI.out.2.1, HFI.out.2.2⟩

set_option maxHeartbeats 1000000 in
theorem coll_no (pb mb : Nat) (kv : Value) (X : List Nat) (S : Sto) (n : Int) (w : World) (h : Stm w pb mb kv X S) (hno : n < S.floor ∨ S.last < n) :
    Calls Try.prog 22 #[.pointer (some ⟨pb, 0, none⟩), .int .i64 n] w fun e w' => e = .returned (.int .i64 2) ∧ Below w.heap.size w w' := by
  have hba := (Below.refl w.heap.size w).alloc (Nat.le_refl _) (.cells #[.pointer (some ⟨pb, 0, none⟩)] 26)
  have hx := h.below hba
  have HM := Lib.hid hx.made
  obtain ⟨-, -, c2, c3⟩ := hx.cells
  have HB := Lib.hid hba
  obtain ⟨gb, hgb⟩ : ∃ gb, w.heap.size = gb := ⟨_, rfl⟩
  have hG : Blk (w.alloc (.cells #[.pointer (some ⟨pb, 0, none⟩)] 26)) gb #[.pointer (some ⟨pb, 0, none⟩)] 26 := by rw [← hgb]; exact Blk.new _ _ _
  obtain ⟨Wa, hWa⟩ : ∃ Wa, w.alloc (.cells #[.pointer (some ⟨pb, 0, none⟩)] 26) = Wa := ⟨_, rfl⟩
  rw [hWa] at HM HB hG c2 c3
  have g0 : Wa.cell? ⟨gb, 0, none⟩ = some (.pointer (some ⟨pb, 0, none⟩)) := hG.cell 0
  clear h hx hba hG
  go_enter Try.func22, Try.ntmps22
  go_wp2_with fail
  clear hWa
  refine HM.out.mono ?_
  rintro e w0 ⟨rfl, rfl⟩
  by_cases h1 : n < S.floor
  · go_wp2
    go_ret
    exact ⟨rfl, HB.out⟩
  · have h2 : S.last < n := by omega
    go_wp2
    go_ret
    exact ⟨rfl, HB.out⟩

theorem coll_calls (pb mb : Nat) (kv : Value) (X : List Nat) (S : Sto) (n : Int) (w : World) (h : Stm w pb mb kv X S) :
    Calls Try.prog 22 #[.pointer (some ⟨pb, 0, none⟩), .int .i64 n] w fun e w' => e = .returned (.int .i64 (coll S n).1) ∧ ∃ kv', Stm w' pb mb kv' X (coll S n).2 ∧ Chg pb mb kv w w' ∧ kv'.ownBlock = kv.ownBlock := by
  by_cases hc : n < S.floor ∨ S.last < n
  · rw [coll, if_pos hc]
    exact (coll_no pb mb kv X S n w h hc).mono fun e w' ⟨h1, h2⟩ => ⟨h1, kv, h.below h2, Chg.of_below h2, rfl⟩
  · rw [coll, if_neg hc]
    exact coll_go pb mb kv X S n w h (by omega) (by omega)
theorem My.coll {w W : World} {pb mb : Nat} {kv : Value} {X : List Nat} {S : Sto} (h : My w W pb mb kv X S) (n : Int) :
    Calls Try.prog 22 #[.pointer (some ⟨pb, 0, none⟩), .int .i64 n] W fun e w' => e = .returned (.int .i64 (Go.Proofs.Ytnleldogmogkgaa.coll S n).1) ∧ ∃ kv', My w w' pb mb kv' X (Go.Proofs.Ytnleldogmogkgaa.coll S n).2 ∧ Chg pb mb kv W w' :=
  (coll_calls pb mb kv X S n W h.st).mono fun _ _ ⟨e1, kv', h1, h2, _⟩ =>
    ⟨e1, kv', ⟨h1, h.be.trans (h2.toBelow h.be.size (h.ge _ h.st.inP) (h.ge _ h.st.inM) fun b e => h.ge b (h.st.inK b e)), h.ge⟩, h2⟩
end Go.Proofs.Ytnleldogmogkgaa
