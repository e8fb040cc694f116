import Derived.Test.YtidfogcilegloaaS2
/-! A session reads: what was read stands in it. -/
namespace Go.Proofs.Ytidfogcilegloaa
open Go.RowKit Go.Op

instance memDec (k : ByteArray) (l : List ByteArray) : Decidable (k ∈ l) := @List.instDecidableMemOfLawfulBEq ByteArray instBEqOfDecidableEq _ k l
theorem look_seen (l : List ByteArray) (k : ByteArray) : look (seenV l) k = if k ∈ l then some (.bool true) else none := by
  by_cases h : k ∈ l
  · rw [if_pos h]
    unfold look
    have h1 : ((seenV l).find? fun p => decide (p.1 = k)).isSome = true := by
      rw [List.find?_isSome]
      exact ⟨(k, .bool true), List.mem_map.2 ⟨k, h, rfl⟩, by simp⟩
    obtain ⟨p, hp⟩ := Option.isSome_iff_exists.1 h1
    rw [hp]
    obtain ⟨q, _, rfl⟩ := List.mem_map.1 (List.mem_of_find?_eq_some hp)
    rfl
  · rw [if_neg h, look_none]
    intro p hp
    obtain ⟨q, hq, rfl⟩ := List.mem_map.1 hp
    exact fun e => h (by rw [← e]; exact hq)
theorem zero4 (w : World) : (zeroValue 4).run Try.prog w = .ok (.bool false) w := by kernel_rfl
theorem seen_run {w : World} {sb : Nat} {l : List ByteArray} (h : Mp KS w sb (seenV l)) (k : ByteArray) (hk : k.size ≤ maxLen) : (Instr.lookup 51 (.map (some sb)) (.string k) false).run Try.prog w = .ok (.bool (decide (k ∈ l))) w := by
  have := h.look1 Try.underlying51 (zero4 _) hk
  rw [look_seen] at this
  by_cases hm : k ∈ l
  · rw [if_pos hm] at this; rw [decide_eq_true hm]; exact this
  · rw [if_neg hm] at this; rw [decide_eq_false hm]; exact this
theorem seen_put {l : List ByteArray} {k : ByteArray} (h : k ∉ l) : setV (seenV l) k (.bool true) = seenV (l ++ [k]) := by
  unfold setV
  rw [look_seen, if_neg h]
  simp [seenV]

def Ses.read (s : Ses) (r : C.Rd) : Ses := if r.scan = false ∧ r.key ∈ s.seen then s else { s with reads := s.reads ++ [r], seen := if r.scan then s.seen else s.seen ++ [r.key] }

theorem sread_has (s : Ses) (xb sb : Nat) (rv mv : Value) (k t : ByteArray) (P : Option Addr) (np cp : Nat) (w : World) (hb : Blk w xb (s.cells rv mv (.map (some sb))) 53) (hm : Mp KS w sb (seenV s.seen)) (hk : k.size ≤ maxLen) (hs : k ∈ s.seen) :
    Calls Try.prog 34 #[.pointer (some ⟨xb, 0, none⟩), .agg #[.bool false, .string k, .string t, .slice P np cp]] w fun e w' => e = .returned (.tuple #[]) ∧ Below w.heap.size w w' := by
  have hba := (Below.refl w.heap.size w).alloc (Nat.le_refl _) (.cells #[.bool false, .string k, .string t, .slice P np cp] 63)
  have HBA := Lib.hid hba
  have hx : ∀ n, (Instr.lookup 51 (.map (some sb)) (.string k) false).run Try.prog ((w.alloc (.cells #[.bool false, .string k, .string t, .slice P np cp] 63)).drewN n) = .ok (.bool true) ((w.alloc (.cells #[.bool false, .string k, .string t, .slice P np cp] 63)).drewN n) := fun n => by
    have := seen_run (w := (w.alloc (.cells #[.bool false, .string k, .string t, .slice P np cp] 63)).drewN n) ((hm.below hba).same rfl) k hk
    rwa [decide_eq_true hs] at this
  have c7 : w.cell? ⟨xb, 7, none⟩ = some (.map (some sb)) := hb.cell 7
  have hlt := hb.lt
  clear hb hm hs hba
  go_enter Try.func34, Try.ntmps34
  go_wp2
  go_quiet (fail)
  go_wp2
  exact bodyPost_ret (results_none rfl _ _ _) rfl ⟨rfl, below_drewN HBA.out nq⟩

theorem app_after {wc W w3 : World} {v v3 : Value} (h : Below wc.heap.size wc W) (k : W.grownBy w3 v.ownBlock) (hat : v3.ownBlock = v.ownBlock ∨ v3.ownBlock = some W.heap.size) : wc.grownBy w3 v.ownBlock ∧ (v3.ownBlock = v.ownBlock ∨ ∃ g, v3.ownBlock = some g ∧ wc.heap.size ≤ g) :=
  ⟨⟨k.os.trans h.os, k.tape.trans h.tape, k.output.trans h.output, Nat.le_trans h.size k.size, fun i hi hne => (k.block i (Nat.lt_of_lt_of_le hi h.size) hne).trans (h.block i hi)⟩, hat.imp id fun e => ⟨_, e, h.size⟩⟩
/-- A read more: the row of reads has grown, and maybe what was seen. -/
theorem Opn.grow {W W' : World} {xb : Nat} {rv rv' : Value} {qb nb sb : Nat} {X Y : List Nat} {s s' : Ses} (h : Opn W xb rv qb nb sb X Y s) (hm : Mp KS W' sb (seenV s'.seen)) (hr : Own C.tRead W' 0 63 (· ∉ X) rv' s'.reads)
    (hb : Blk W' xb (s'.cells rv' (.pointer (some ⟨qb, 0, none⟩)) (.map (some sb))) 53) (hc : ∀ b, b < W.heap.size → b ≠ xb → b ≠ sb → rv.ownBlock ≠ some b → W'.heap[b]? = W.heap[b]?) (hs : W.heap.size ≤ W'.heap.size)
    (hv : rv'.ownBlock = rv.ownBlock ∨ ∃ g, rv'.ownBlock = some g ∧ W.heap.size ≤ g) (hok : s'.Ok) (hmi : s'.mine = s.mine) :
    Opn W' xb rv' qb nb sb (rv'.ownBlock.toList ++ X) (rv'.ownBlock.toList ++ Y) s' ∧ ∀ b ∈ rv'.ownBlock.toList, b ∈ Y ∨ W.heap.size ≤ b := by
  have hne : ∀ g, g ∈ X → g ≠ xb → rv.ownBlock ≠ some g → rv'.ownBlock ≠ some g := fun g hg _ h2 e => by
    rcases hv with hv | ⟨k, hk, hl⟩
    · rw [hv] at e; exact h2 e
    · rw [hk] at e; injection e with e; have := h.lt g hg; omega
  have hN : ∀ b ∈ rv'.ownBlock.toList, b ∈ Y ∨ W.heap.size ≤ b := fun b hb => by
    have e : rv'.ownBlock = some b := by simpa using hb
    rcases hv with hv | ⟨k, hk, hl⟩
    · exact .inl (h.rY b (by rw [← hv]; exact e))
    · rw [hk] at e; injection e with e; exact .inr (by omega)
  have hX : ∀ b ∈ Y, b ∈ rv'.ownBlock.toList ++ Y := fun b hb => List.mem_append_right _ hb
  have hrx : rv'.ownBlock ≠ some xb := fun e => by
    rcases hv with hv | ⟨k, hk, hl⟩
    · rw [hv] at e; exact h.rx e
    · rw [hk] at e; injection e with e; have := h.lt _ (h.sub _ h.xY); omega
  refine ⟨⟨hb, ?_, hm, own_more hr fun b hb1 hb2 _ hm => ?_, hok, hX _ h.xY, hX _ h.qY, hX _ h.nY, hX _ h.sY, fun b e => List.mem_append_left _ (by rw [e]; simp), fun b hm => ?_, fun b hm => ?_, h.xq, h.xn, h.xs, h.qs, h.ns, hrx, hne _ (h.sub _ h.qY) h.xq.symm h.rq, hne _ (h.sub _ h.nY) h.xn.symm h.rn, hne _ (h.sub _ h.sY) h.xs.symm h.rs⟩, hN⟩
  · rw [hmi]; exact buf_same h.buf (hc _ (h.lt _ (h.sub _ h.qY)) h.xq.symm h.qs h.rq) (hc _ (h.lt _ (h.sub _ h.nY)) h.xn.symm h.ns h.rn)
  · rcases List.mem_append.1 hm with hm | hm
    · exact hb2 (by simpa using hm)
    · exact hb1 hm
  · rcases List.mem_append.1 hm with hm | hm
    · exact List.mem_append_left _ hm
    · exact List.mem_append_right _ (h.sub b hm)
  · rcases List.mem_append.1 hm with hm | hm
    · exact (hr.lo (by simpa using hm)).2
    · exact Nat.lt_of_lt_of_le (h.lt b hm) hs
theorem Opn.readd {w wa wc w3 : World} {xb : Nat} {rv v3 : Value} {qb nb sb : Nat} {X Y : List Nat} {s s' : Ses} (h : Opn wa xb rv qb nb sb X Y s) (hba : Below w.heap.size w wa) (hgc : wa.grownBy wc (some sb)) (hm : Mp KS wc sb (seenV s'.seen))
    (hX3 : Blk w3 xb (s.cells rv (.pointer (some ⟨qb, 0, none⟩)) (.map (some sb))) 53) (hO3 : Own C.tRead w3 0 63 (· ∉ X) v3 s'.reads) (hG : wc.grownBy w3 rv.ownBlock) (hat : v3.ownBlock = rv.ownBlock ∨ ∃ g, v3.ownBlock = some g ∧ wc.heap.size ≤ g)
    (hok : s'.Ok) (hs : s'.cells v3 (.pointer (some ⟨qb, 0, none⟩)) (.map (some sb)) = s.cells v3 (.pointer (some ⟨qb, 0, none⟩)) (.map (some sb))) (hmi : s'.mine = s.mine) :
    Opn (w3.setCell ⟨xb, 4, none⟩ v3) xb v3 qb nb sb (v3.ownBlock.toList ++ X) (v3.ownBlock.toList ++ Y) s' ∧ Chl Y w (w3.setCell ⟨xb, 4, none⟩ v3) ∧ ∀ b ∈ v3.ownBlock.toList, b ∈ Y ∨ w.heap.size ≤ b := by
  have hfar : ∀ (k : Nat), k ≠ xb → (w3.setCell ⟨xb, 4, none⟩ v3).heap[k]? = w3.heap[k]? := fun k hne => Below.heap_setCell w3 ⟨xb, 4, none⟩ v3 k hne
  have hs1 := hgc.size
  have hs2 := hG.size
  have hall : ∀ b, b < wa.heap.size → b ≠ xb → b ≠ sb → rv.ownBlock ≠ some b → (w3.setCell ⟨xb, 4, none⟩ v3).heap[b]? = wa.heap[b]? := fun b hb h1 h2 h3 =>
    (hfar b h1).trans ((hG.block b (by omega) (fun e => h3 e.symm)).trans (hgc.block b hb (fun e => h2 (by injection e))))
  have hv : v3.ownBlock ≠ some xb := fun e => by
    rcases hat with hat | ⟨g, hg, hl⟩
    · rw [hat] at e; exact h.rx e
    · rw [hg] at e; injection e with e; have := h.blk.lt; omega
  obtain ⟨h1, h2⟩ := h.grow (W' := w3.setCell ⟨xb, 4, none⟩ v3) (rv' := v3) (s' := s') ((hm.kept hG (fun e => h.rs e.symm)).same (hfar _ h.xs.symm))
    (own_step hO3 (fun b e => hfar b (fun e' => hv (by rw [← e']; exact e))) (fun b hb _ => hfar b (fun e => hb (by rw [e]; exact h.sub _ h.xY)))) (by rw [hs]; exact hX3.set 4 v3) hall (by rw [World.size_setCell]; omega)
    (hat.imp id fun ⟨g, h1, h2⟩ => ⟨g, h1, by omega⟩) hok hmi
  refine ⟨h1, ?_, fun b hb => (h2 b hb).imp id fun h => Nat.le_trans hba.size h⟩
  refine (Chl.of_below hba).trans (L' := Y) ⟨hG.os.trans hgc.os, hG.tape.trans hgc.tape, hG.output.trans hgc.output, by rw [World.size_setCell]; omega, fun b hb hn => hall b hb (fun e => hn (by rw [e]; exact h.xY)) (fun e => hn (by rw [e]; exact h.sY)) (fun e => hn (h.rY b e))⟩ fun b hb => .inl hb
theorem Ses.Ok.readNew {s : Ses} (h : s.Ok) {r : C.Rd} (hr : r.key.size ≤ 64) (h1 : (s.reads.length : Int) + 1 ≤ s.ops) (h2 : (s.seen.length : Int) + 1 ≤ s.ops) (hn : r.scan = false → r.key ∉ s.seen) : (s.read r).Ok := by
  unfold Ses.read
  rw [if_neg (fun ⟨a, b⟩ => hn a b)]
  refine ⟨h.op, h.id1, h.id8, h.o0, h.o64, by simp; omega, ?_, ?_, ?_⟩
  · show ((if r.scan = true then s.seen else s.seen ++ [r.key]).length : Int) ≤ s.ops
    split
    · omega
    · simp; omega
  · intro x hx
    rcases List.mem_append.1 hx with hx | hx
    · exact h.keys x hx
    · rw [List.mem_singleton.1 hx]; exact hr
  · intro k
    show k ∈ (if r.scan = true then s.seen else s.seen ++ [r.key]) ↔ ∃ x ∈ s.reads ++ [r], x.scan = false ∧ x.key = k
    cases hs : r.scan
    · simp only [Bool.false_eq_true, if_false, List.mem_append, List.mem_singleton, h.seen k]
      constructor
      · rintro (⟨x, a, b⟩ | rfl)
        · exact ⟨x, .inl a, b⟩
        · exact ⟨r, .inr rfl, hs, rfl⟩
      · rintro ⟨x, a | rfl, b⟩
        · exact .inl ⟨x, a, b⟩
        · exact .inr b.2.symm
    · simp only [if_true, h.seen k, List.mem_append, List.mem_singleton]
      constructor
      · rintro ⟨x, a, b⟩
        exact ⟨x, .inl a, b⟩
      · rintro ⟨x, a | rfl, b⟩
        · exact ⟨x, a, b⟩
        · rw [hs] at b; cases b.1
theorem Ses.read_new {s : Ses} {r : C.Rd} (hn : r.scan = false → r.key ∉ s.seen) : s.read r = { s with reads := s.reads ++ [r], seen := if r.scan then s.seen else s.seen ++ [r.key] } := by
  unfold Ses.read
  rw [if_neg (fun ⟨a, b⟩ => hn a b)]
set_option maxHeartbeats 2000000 in
theorem sread_new (s : Ses) (xb : Nat) (rv : Value) (qb nb sb : Nat) (X Y : List Nat) (k t : ByteArray) (P : Option Addr) (np cp : Nat) (ps : List Pair) (w : World) (h : Opn w xb rv qb nb sb X Y s) (hk : k.size ≤ 64) (hs : k ∉ s.seen) (hp : Sl tPair w (· ∉ X) (.slice P np cp) ps)
    (h1 : (s.reads.length : Int) + 1 ≤ s.ops) (h2 : (s.seen.length : Int) + 1 ≤ s.ops) :
    Calls Try.prog 34 #[.pointer (some ⟨xb, 0, none⟩), .agg #[.bool false, .string k, .string t, .slice P np cp]] w fun e w' => e = .returned (.tuple #[]) ∧ ∃ rv' N, Opn w' xb rv' qb nb sb (N ++ X) (N ++ Y) (s.read ⟨false, k, t, ps⟩) ∧ Chl Y w w' ∧ ∀ b ∈ N, b ∈ Y ∨ w.heap.size ≤ b := by
  obtain ⟨wa, hwa⟩ : ∃ wa, w.alloc (.cells #[.bool false, .string k, .string t, .slice P np cp] 63) = wa := ⟨_, rfl⟩
  have hba : Below w.heap.size w wa := by rw [← hwa]; exact (Below.refl w.heap.size w).alloc (Nat.le_refl _) _
  have hga : Blk wa w.heap.size #[.bool false, .string k, .string t, .slice P np cp] 63 := by rw [← hwa]; exact Blk.new _ _ _
  have h' := h.below hba
  have hx : ∀ n, (Instr.lookup 51 (.map (some sb)) (.string k) false).run Try.prog (wa.drewN n) = .ok (.bool false) (wa.drewN n) := fun n => by
    have := seen_run (w := wa.drewN n) (h'.map.same rfl) k (by unfold maxLen; omega)
    rwa [decide_eq_false hs] at this
  obtain ⟨ga, hgw⟩ : ∃ ga, w.heap.size = ga := ⟨_, rfl⟩
  rw [hgw] at hga
  have g0 := hga.cell 0
  have g1 := hga.cell 1
  have g2 := hga.cell 2
  have g3 := hga.cell 3
  simp only [List.getElem?_toArray, List.getElem?_cons_succ, List.getElem?_cons_zero] at g0 g1 g2 g3
  have c7 : wa.cell? ⟨xb, 7, none⟩ = some (.map (some sb)) := h'.blk.cell 7
  have c4 : wa.cell? ⟨xb, 4, none⟩ = some rv := h'.blk.cell 4
  have f4 := h'.blk.frozen 4
  have HO := Lib.hid h'
  have HGW := Lib.hid hgw
  have HGA := Lib.hid hga
  have HSB : Hid (ga ≠ sb) := fun e => by have := h.lt _ (h.sub _ h.sY); omega
  have HP : Hid (Sl tPair wa (· ∉ X) (.slice P np cp) ps) := hp.below hba
  have HH := Lib.hid (And.intro h1 h2)
  have HBA := Lib.hid hba
  go_enter Try.func34, Try.ntmps34
  clear hba hga h' h hp h1 h2
  rw [hgw]
  go_wp2
  go_quiet (fail)
  have HOn : Hid (Opn (wa.drewN (nq + 1)) xb rv qb nb sb X Y s) := HO.out.below (below_drewN (Below.refl _ _) _)
  obtain ⟨wc, hput, hMc, hgc, hsc⟩ := HOn.out.map.put Try.underlying51 (by simp [seenV]; unfold maxLen; have := HO.out.ok.ns; have := HO.out.ok.o64; omega) (k := k) (by show k.size ≤ maxLen; unfold maxLen; omega) (.bool true)
  have hput' : (Instr.mapUpdate 51 (.map (some sb)) (.string k) (.bool true)).run Try.prog (wa.drewN (nq + 1)) = .ok () wc := hput
  clear hput hx
  go_wp2
  go_region
  obtain ⟨wb, hwb⟩ : ∃ wb, wa.drewN (nq + 1) = wb := ⟨_, rfl⟩
  rw [hwb] at HOn hgc hsc
  have hgw : ga < wb.heap.size := by rw [← hwb]; exact HGA.out.lt
  have hGb : Blk wb ga #[.bool false, .string k, .string t, .slice P np cp] 63 := by rw [← hwb]; exact HGA.out
  have HGb : Hid (Blk wc ga #[.bool false, .string k, .string t, .slice P np cp] 63) := (hgc.block ga hgw (fun e => HSB.out (by injection e))).trans hGb
  have hXb : Blk wc xb (s.cells rv (.pointer (some ⟨qb, 0, none⟩)) (.map (some sb))) 53 := (hgc.block xb HOn.out.blk.lt (fun e => HOn.out.xs (by injection e))).trans HOn.out.blk
  have HXb := Lib.hid hXb
  have HSL : Hid (Sl tPair wc (· ∉ X) (.slice P np cp) ps) := (HP.out.inb.step fun b hb => by
    have h1 : wb.heap[b]? = wa.heap[b]? := by rw [← hwb]; rfl
    rw [← h1]
    exact hgc.block b (by rw [← hwb]; exact hb.2) (fun e => by injection e with e; exact hb.1 (by rw [e]; exact HOn.out.sub _ HOn.out.sY))).mono fun b hb => hb.1
  have HOW : Hid (Own C.tRead wc 0 63 (· ∉ X) rv s.reads) := own_step HOn.out.reads (fun b e => hgc.block b (HOn.out.lt _ (HOn.out.sub _ (HOn.out.rY b e))) (fun e' => HOn.out.rs (by rw [e]; exact e'.symm ▸ rfl))) (fun b hb hl => hgc.block b hl (fun e => by injection e with e; exact hb (by rw [e]; exact HOn.out.sub _ HOn.out.sY)))
  have HMc : Hid (Mp KS wc sb (seenV (s.seen ++ [k]))) := by show Mp _ _ _ _; rw [← seen_put hs]; exact hMc
  have HGc := Lib.hid hgc
  have g0 := HGb.out.cell 0
  have g1 := HGb.out.cell 1
  have g2 := HGb.out.cell 2
  have g3 := HGb.out.cell 3
  have c4 : wc.cell? ⟨xb, 4, none⟩ = some rv := hXb.cell 4
  have f4 := hXb.frozen 4
  simp only [List.getElem?_toArray, List.getElem?_cons_succ, List.getElem?_cons_zero] at g0 g1 g2 g3
  have hzx : xb < wc.heap.size := hXb.lt
  have hzg : ga < wc.heap.size := HGb.out.lt
  have hbW : Below wc.heap.size wc wc := Below.refl _ _
  have HL : Hid (s.reads.length ≤ 64) := by show _ ≤ _; have := HO.out.ok.nr; have := HO.out.ok.o64; omega
  clear hput' hGb hXb hMc hgc hsc hgw
  obtain ⟨Ar, cr, hrv, -⟩ := HOW.out.form
  obtain ⟨nr, hnr⟩ : ∃ nr, s.reads.length = nr := ⟨_, rfl⟩
  rw [hnr] at hrv
  subst hrv
  go_wp2
  have hbW0 : Below 0 wc wc := Below.refl _ _
  have HRX : Hid (∀ b, b ∉ X → Value.ownBlock (.slice Ar nr cr) ≠ some b) := fun b hb e => hb (HO.out.sub _ (HO.out.rY b e))
  have HRV : Hid (Value.ownBlock (.slice Ar nr cr) ≠ some xb) := HO.out.rx
  go_region_law (refine step_appSl (o := ⟨some 33, _, _, _, _, _⟩) (t := C.tRead) (ok := (· ∉ X)) (l := s.reads) (m := [⟨false, k, t, ps⟩]) (w0 := wc) (v := .slice Ar nr cr) 0 rfl _ _ 31 63 _ 64 rfl Try.underlying31 C.info41 rfl (by decide) (by decide) rfl rfl ?_ ?_ ?_ ?_ ?_ ?_
                 · refine Own.below HOW.out ?_; repeat (first | with_reducible exact hbW | apply Below.drew | refine Below.alloc ?_ (by first | omega | (simp; omega)) _)
                 · refine SlX.one (g := wc.heap.size) (e := 63) (cs := [.bool false, .string k, .string t, .slice P np cp]) ?_ ?_
                   · simp only [Blk, alloc_heap, drew_heap]; simp; done
                   · refine C.read_mk (x := ⟨false, k, t, ps⟩) ((HSL.out.below ?_).mono fun b hb => ⟨hb, HRX.out b hb⟩); repeat (first | with_reducible exact hbW | apply Below.drew | refine Below.alloc ?_ (by first | omega | (simp; omega)) _)
                 · repeat (first | with_reducible exact hbW0 | apply Below.drew | refine Below.alloc ?_ (by first | omega | (simp; omega)) _)
                 · exact Nat.zero_le _
                 · have := HL.out; simp; omega
                 intro v3 w3 hO3 hB3 hG3 hat3
                 obtain ⟨hG4, hat4⟩ := app_after (wc := wc) (by repeat (first | with_reducible exact hbW | apply Below.drew | refine Below.alloc ?_ (by first | omega | (simp; omega)) _)) hG3 hat3
                 obtain ⟨A3, c3, rfl, -⟩ := hO3.form
                 obtain ⟨k3, hk3⟩ : ∃ k3, (s.reads ++ [(⟨false, k, t, ps⟩ : C.Rd)]).length = k3 := ⟨_, rfl⟩
                 rw [hk3] at hO3 hat4 ⊢
                 have hX3 : Blk w3 xb (s.cells (.slice Ar nr cr) (.pointer (some ⟨qb, 0, none⟩)) (.map (some sb))) 53 := (hG4.block xb hzx (fun e => HRV.out e.symm)).trans HXb.out
                 have x4 : w3.cell? ⟨xb, 4, none⟩ = some (.slice Ar nr cr) := hX3.cell 4
                 have y4 := hX3.frozen 4
                 have HX3 := Lib.hid hX3
                 have HO3 := Lib.hid hO3
                 have HG4 := Lib.hid hG4
                 have HAT := Lib.hid hat4
                 clear hX3 hO3 hG3 hG4 hat3 hat4 hk3)
  all_goals
    have hn : (⟨false, k, t, ps⟩ : C.Rd).scan = false → (⟨false, k, t, ps⟩ : C.Rd).key ∉ s.seen := fun _ => hs
    have hfin := Opn.readd (s' := s.read ⟨false, k, t, ps⟩) HO.out HBA.out (wc := wc) (by have h := HGc.out; rw [← hwb] at h; exact ⟨h.os, h.tape, h.output, h.size, h.block⟩) (by rw [Ses.read_new hn]; exact HMc.out) HX3.out (by rw [Ses.read_new hn]; exact HO3.out) HG4.out HAT.out (HO.out.ok.readNew hk HH.out.1 HH.out.2 hn) (by rw [Ses.read_new hn]; rfl) (by rw [Ses.read_new hn])
    have HFIN := Lib.hid hfin
    clear hfin
    go_end0
    exact ⟨rfl, .slice A3 k3 c3, (Value.slice A3 k3 c3).ownBlock.toList, HFIN.out.1, HFIN.out.2.1, fun b hb => by have := HFIN.out.2.2 b hb; first | exact this | (rw [HGW.out] at this; exact this)⟩
set_option maxHeartbeats 2000000 in
theorem sread_scan (s : Ses) (xb : Nat) (rv : Value) (qb nb sb : Nat) (X Y : List Nat) (k t : ByteArray) (P : Option Addr) (np cp : Nat) (ps : List Pair) (w : World) (h : Opn w xb rv qb nb sb X Y s) (hk : k.size ≤ 64) (hp : Sl tPair w (· ∉ X) (.slice P np cp) ps)
    (h1 : (s.reads.length : Int) + 1 ≤ s.ops) (h2 : (s.seen.length : Int) + 1 ≤ s.ops):
    Calls Try.prog 34 #[.pointer (some ⟨xb, 0, none⟩), .agg #[.bool true, .string k, .string t, .slice P np cp]] w fun e w' => e = .returned (.tuple #[]) ∧ ∃ rv' N, Opn w' xb rv' qb nb sb (N ++ X) (N ++ Y) (s.read ⟨true, k, t, ps⟩) ∧ Chl Y w w' ∧ ∀ b ∈ N, b ∈ Y ∨ w.heap.size ≤ b := by
  obtain ⟨wa, hwa⟩ : ∃ wa, w.alloc (.cells #[.bool true, .string k, .string t, .slice P np cp] 63) = wa := ⟨_, rfl⟩
  have hba : Below w.heap.size w wa := by rw [← hwa]; exact (Below.refl w.heap.size w).alloc (Nat.le_refl _) _
  have hga : Blk wa w.heap.size #[.bool true, .string k, .string t, .slice P np cp] 63 := by rw [← hwa]; exact Blk.new _ _ _
  have h' := h.below hba
  obtain ⟨ga, hgw⟩ : ∃ ga, w.heap.size = ga := ⟨_, rfl⟩
  rw [hgw] at hga
  have g0 := hga.cell 0
  have g1 := hga.cell 1
  have g2 := hga.cell 2
  have g3 := hga.cell 3
  simp only [List.getElem?_toArray, List.getElem?_cons_succ, List.getElem?_cons_zero] at g0 g1 g2 g3
  have c7 : wa.cell? ⟨xb, 7, none⟩ = some (.map (some sb)) := h'.blk.cell 7
  have c4 : wa.cell? ⟨xb, 4, none⟩ = some rv := h'.blk.cell 4
  have f4 := h'.blk.frozen 4
  have HO := Lib.hid h'
  have HGW := Lib.hid hgw
  have HGA := Lib.hid hga
  have HSB : Hid (ga ≠ sb) := fun e => by have := h.lt _ (h.sub _ h.sY); omega
  have HP : Hid (Sl tPair wa (· ∉ X) (.slice P np cp) ps) := hp.below hba
  have HH := Lib.hid (And.intro h1 h2)
  have HBA := Lib.hid hba
  go_enter Try.func34, Try.ntmps34
  clear hba hga h' h hp h1 h2
  rw [hgw]
  go_wp2
  go_quiet (fail)
  obtain ⟨wc, hwc⟩ : ∃ wc, wa.drewN nq = wc := ⟨_, rfl⟩
  rw [hwc]
  have HOW : Hid (Own C.tRead wc 0 63 (· ∉ X) rv s.reads) := by rw [← hwc]; exact own_step HO.out.reads (fun _ _ => rfl) (fun _ _ _ => rfl)
  have HXb : Hid (Blk wc xb (s.cells rv (.pointer (some ⟨qb, 0, none⟩)) (.map (some sb))) 53) := by rw [← hwc]; exact HO.out.blk
  have HSL : Hid (Sl tPair wc (· ∉ X) (.slice P np cp) ps) := by rw [← hwc]; exact HP.out.step fun _ _ => rfl
  have HGb : Hid (Blk wc ga #[.bool true, .string k, .string t, .slice P np cp] 63) := by rw [← hwc]; exact HGA.out
  have HMc : Hid (Mp KS wc sb (seenV s.seen)) := by rw [← hwc]; exact HO.out.map.same rfl
  have HGc : Hid (wa.grownBy wc (some sb)) := by rw [← hwc]; exact ⟨rfl, rfl, rfl, Nat.le_refl _, fun _ _ _ => rfl⟩
  have g0 := HGb.out.cell 0
  have g1 := HGb.out.cell 1
  have g2 := HGb.out.cell 2
  have g3 := HGb.out.cell 3
  have c4 : wc.cell? ⟨xb, 4, none⟩ = some rv := HXb.out.cell 4
  have f4 := HXb.out.frozen 4
  simp only [List.getElem?_toArray, List.getElem?_cons_succ, List.getElem?_cons_zero] at g0 g1 g2 g3
  have hzx : xb < wc.heap.size := HXb.out.lt
  have hzg : ga < wc.heap.size := HGb.out.lt
  have hbW : Below wc.heap.size wc wc := Below.refl _ _
  have HL : Hid (s.reads.length ≤ 64) := by show _ ≤ _; have := HO.out.ok.nr; have := HO.out.ok.o64; omega
  clear hwc
  obtain ⟨Ar, cr, hrv, -⟩ := HOW.out.form
  obtain ⟨nr, hnr⟩ : ∃ nr, s.reads.length = nr := ⟨_, rfl⟩
  rw [hnr] at hrv
  subst hrv
  go_wp2
  have hbW0 : Below 0 wc wc := Below.refl _ _
  have HRX : Hid (∀ b, b ∉ X → Value.ownBlock (.slice Ar nr cr) ≠ some b) := fun b hb e => hb (HO.out.sub _ (HO.out.rY b e))
  have HRV : Hid (Value.ownBlock (.slice Ar nr cr) ≠ some xb) := HO.out.rx
  go_region_law (refine step_appSl (o := ⟨some 33, _, _, _, _, _⟩) (t := C.tRead) (ok := (· ∉ X)) (l := s.reads) (m := [⟨true, k, t, ps⟩]) (w0 := wc) (v := .slice Ar nr cr) 0 rfl _ _ 31 63 _ 64 rfl Try.underlying31 C.info41 rfl (by decide) (by decide) rfl rfl ?_ ?_ ?_ ?_ ?_ ?_
                 · refine Own.below HOW.out ?_; repeat (first | with_reducible exact hbW | apply Below.drew | refine Below.alloc ?_ (by first | omega | (simp; omega)) _)
                 · refine SlX.one (g := wc.heap.size) (e := 63) (cs := [.bool true, .string k, .string t, .slice P np cp]) ?_ ?_
                   · simp only [Blk, alloc_heap, drew_heap]; simp; done
                   · refine C.read_mk (x := ⟨true, k, t, ps⟩) ((HSL.out.below ?_).mono fun b hb => ⟨hb, HRX.out b hb⟩); repeat (first | with_reducible exact hbW | apply Below.drew | refine Below.alloc ?_ (by first | omega | (simp; omega)) _)
                 · repeat (first | with_reducible exact hbW0 | apply Below.drew | refine Below.alloc ?_ (by first | omega | (simp; omega)) _)
                 · exact Nat.zero_le _
                 · have := HL.out; simp; omega
                 intro v3 w3 hO3 hB3 hG3 hat3
                 obtain ⟨hG4, hat4⟩ := app_after (wc := wc) (by repeat (first | with_reducible exact hbW | apply Below.drew | refine Below.alloc ?_ (by first | omega | (simp; omega)) _)) hG3 hat3
                 obtain ⟨A3, c3, rfl, -⟩ := hO3.form
                 obtain ⟨k3, hk3⟩ : ∃ k3, (s.reads ++ [(⟨true, k, t, ps⟩ : C.Rd)]).length = k3 := ⟨_, rfl⟩
                 rw [hk3] at hO3 hat4 ⊢
                 have hX3 : Blk w3 xb (s.cells (.slice Ar nr cr) (.pointer (some ⟨qb, 0, none⟩)) (.map (some sb))) 53 := (hG4.block xb hzx (fun e => HRV.out e.symm)).trans HXb.out
                 have x4 : w3.cell? ⟨xb, 4, none⟩ = some (.slice Ar nr cr) := hX3.cell 4
                 have y4 := hX3.frozen 4
                 have HX3 := Lib.hid hX3
                 have HO3 := Lib.hid hO3
                 have HG4 := Lib.hid hG4
                 have HAT := Lib.hid hat4
                 clear hX3 hO3 hG3 hG4 hat3 hat4 hk3)
  all_goals
    have hn : (⟨true, k, t, ps⟩ : C.Rd).scan = false → (⟨true, k, t, ps⟩ : C.Rd).key ∉ s.seen := fun h => by cases h
    have hfin := Opn.readd (s' := s.read ⟨true, k, t, ps⟩) HO.out HBA.out (wc := wc) HGc.out (by rw [Ses.read_new hn]; exact HMc.out) HX3.out (by rw [Ses.read_new hn]; exact HO3.out) HG4.out HAT.out (HO.out.ok.readNew hk HH.out.1 HH.out.2 hn) (by rw [Ses.read_new hn]; rfl) (by rw [Ses.read_new hn])
    have HFIN := Lib.hid hfin
    clear hfin
    go_end0
    exact ⟨rfl, .slice A3 k3 c3, (Value.slice A3 k3 c3).ownBlock.toList, HFIN.out.1, HFIN.out.2.1, fun b hb => by have := HFIN.out.2.2 b hb; first | exact this | (rw [HGW.out] at this; exact this)⟩
end Go.Proofs.Ytidfogcilegloaa
