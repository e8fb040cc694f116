import Derived.Test.YtlbcckdbpgofmaaW20
/-! CertifyOwn. -/
namespace Go.Proofs.Ytlbcckdbpgofmaa
open Go.RowKit Go.Op

theorem keep_le : ∀ (l : List Rd) (S : List (Bool × ByteArray)), (keep S l).length ≤ l.length
  | [], _ => Nat.le_refl _
  | x :: l, S => by
    rw [keep, List.length_append, List.length_cons]
    have := keep_le l ((x.scan, x.key) :: S)
    split
    · simp; omega
    · simp; omega
theorem keep_mem : ∀ (l : List Rd) (S : List (Bool × ByteArray)) (y : Rd), y ∈ keep S l → y ∈ l
  | [], _, _, h => by simp [keep] at h
  | x :: l, S, y, h => by
    rw [keep, List.mem_append] at h
    rcases h with h | h
    · split at h
      · simp at h; rw [h]; exact List.mem_cons_self
      · simp at h
    · exact List.mem_cons_of_mem _ (keep_mem l _ y h)
theorem countP_step {l : List Rd} {j : Nat} {x : Rd} (h : l[j]? = some x) : (l.drop j).countP (·.scan) = (if x.scan then 1 else 0) + (l.drop (j + 1)).countP (·.scan) := by
  obtain ⟨hj, e⟩ := List.getElem?_eq_some_iff.1 h
  rw [List.drop_eq_getElem_cons hj, e, List.countP_cons, Nat.add_comm]
/-- s[k:k+1] -/
theorem run_slice_one {P : Program} {T e : TypeId} {sz : Nat} (hu : P.underlying T = some (.slice e)) (hs : (P.info? e).map (·.size) = some sz) (A : Option Addr) {n cap k : Nat} (hk : k < n) (hn : n ≤ cap) (W : World) :
    (Instr.slice T (.slice A n cap) (some (.int .i64 (k : Int))) (some (.int .i64 ((k : Int) + 1))) none).run P W = .ok (.slice (A.map (·.add (k * sz))) 1 (cap - k)) W := by
  have hb : (Instr.sliceBounds true n cap (some (.int .i64 (k : Int))) (some (.int .i64 ((k : Int) + 1))) none).run P W = .ok (k, k + 1, cap) W := by
    have h1 : (k : Int) + 1 ≤ (cap : Int) := by omega
    have h2 : (0 : Int) ≤ (k : Int) + 1 := by omega
    have h3 : ((k : Int) + 1).toNat = k + 1 := by omega
    have h4 : (Instr.sliceBound (.int .i64 (k : Int)) (k + 1) .sliceB).run P W = .ok k W := by
      rw [run_sliceBound W .i64 (k : Int) (k + 1) .sliceB (by omega) (by omega)]; simp
    simp [Instr.sliceBounds, run_sliceBound, h1, h2, h3, h4]
  have hne : ¬ cap = k := by omega
  simp [Instr.slice, run_underlying hu, hb, info_size hs, hne]

/-- What stays while all is asked. -/
def OS (s sn : Int) (st : Bool) (R : Option Addr) (nr cr : Nat) (W : Option Addr) (nw cw : Nat) (A1 : Option Addr) (n1 c1 : Nat) (g2 g5 : Nat) (w6 : World) (X : World) : Prop :=
  X.cell? ⟨g2, 0, none⟩ = some (.int .i64 s) ∧ X.cell? ⟨g2, 1, none⟩ = some (.int .i64 sn) ∧ X.cell? ⟨g2, 2, none⟩ = some (.bool st) ∧ X.cell? ⟨g2, 3, none⟩ = some (.slice R nr cr) ∧ X.cell? ⟨g2, 4, none⟩ = some (.slice W nw cw) ∧ X.cell? ⟨g5, 0, none⟩ = some (.int .i64 s) ∧ X.cell? ⟨g5, 1, none⟩ = some (.int .i64 sn) ∧ X.cell? ⟨g5, 2, none⟩ = some (.bool st) ∧ X.cell? ⟨g5, 3, none⟩ = some (.slice A1 n1 c1) ∧ X.cell? ⟨g5, 4, none⟩ = some (.slice W nw cw) ∧ Hid (Below w6.heap.size w6 X) ∧ Hid (g2 < w6.heap.size) ∧ Hid (g5 < w6.heap.size)
section
variable {s sn : Int} {st : Bool} {R : Option Addr} {nr cr : Nat} {W : Option Addr} {nw cw : Nat} {A1 : Option Addr} {n1 c1 g2 g5 : Nat} {w6 X X' : World}
theorem OS.below (h : OS s sn st R nr cr W nw cw A1 n1 c1 g2 g5 w6 X) (hb : Below X.heap.size X X') : OS s sn st R nr cr W nw cw A1 n1 c1 g2 g5 w6 X' := by
  obtain ⟨a0, a1, a2, a3, a4, b0, b1, b2, b3, b4, hB, hz, hz2⟩ := h
  have hz' := hz.out
  have hz2' := hz2.out
  have hz3 := hB.out.size
  obtain ⟨hc, -⟩ := bcell hb
  refine ⟨?_, ?_, ?_, ?_, ?_, ?_, ?_, ?_, ?_, ?_, hB.out.trans (hb.mono hB.out.size), hz, hz2⟩ <;> (rw [hc _ _ (by omega)]; assumption)
theorem OS.alloc (h : OS s sn st R nr cr W nw cw A1 n1 c1 g2 g5 w6 X) (o : Obj) : OS s sn st R nr cr W nw cw A1 n1 c1 g2 g5 w6 (X.alloc o) := h.below ((Below.refl _ _).alloc (Nat.le_refl _) o)
theorem OS.drew (h : OS s sn st R nr cr W nw cw A1 n1 c1 g2 g5 w6 X) : OS s sn st R nr cr W nw cw A1 n1 c1 g2 g5 w6 X.drew := h.below (Below.refl _ _).drew
theorem OS.after (h : OS s sn st R nr cr W nw cw A1 n1 c1 g2 g5 w6 X) : Below w6.heap.size w6 X := h.2.2.2.2.2.2.2.2.2.2.1.out
end
def PS (sc : Bool) (kx tx : ByteArray) (P : Option Addr) (np cp : Nat) (A1 : Option Addr) (n1 c1 g5 g9 : Nat) (w8 : World) (X : World) : Prop :=
  X.cell? ⟨g5, 3, none⟩ = some (.slice A1 n1 c1) ∧ X.cell? ⟨g9, 0, none⟩ = some (.bool sc) ∧ X.cell? ⟨g9, 1, none⟩ = some (.string kx) ∧ X.cell? ⟨g9, 2, none⟩ = some (.string tx) ∧ X.cell? ⟨g9, 3, none⟩ = some (.slice P np cp) ∧ Hid (Below w8.heap.size w8 X) ∧ Hid (g5 < w8.heap.size) ∧ Hid (g9 < w8.heap.size)
section
variable {sc : Bool} {kx tx : ByteArray} {P : Option Addr} {np cp : Nat} {A1 : Option Addr} {n1 c1 g5 g9 : Nat} {w8 X X' : World}
theorem PS.below (h : PS sc kx tx P np cp A1 n1 c1 g5 g9 w8 X) (hb : Below X.heap.size X X') : PS sc kx tx P np cp A1 n1 c1 g5 g9 w8 X' := by
  obtain ⟨a0, b0, b1, b2, b3, hB, hz, hz2⟩ := h
  have hz' := hz.out
  have hz2' := hz2.out
  have hz3 := hB.out.size
  obtain ⟨hc, -⟩ := bcell hb
  refine ⟨?_, ?_, ?_, ?_, ?_, hB.out.trans (hb.mono hB.out.size), hz, hz2⟩ <;> (rw [hc _ _ (by omega)]; assumption)
theorem PS.alloc (h : PS sc kx tx P np cp A1 n1 c1 g5 g9 w8 X) (o : Obj) : PS sc kx tx P np cp A1 n1 c1 g5 g9 w8 (X.alloc o) := h.below ((Below.refl _ _).alloc (Nat.le_refl _) o)
theorem PS.drew (h : PS sc kx tx P np cp A1 n1 c1 g5 g9 w8 X) : PS sc kx tx P np cp A1 n1 c1 g5 g9 w8 X.drew := h.below (Below.refl _ _).drew
theorem PS.after (h : PS sc kx tx P np cp A1 n1 c1 g5 g9 w8 X) : Below w8.heap.size w8 X := h.2.2.2.2.2.1.out
end
theorem one_read' {w : World} {ok : Nat → Prop} {g : Nat} {x : Rd} {P : Option Addr} {np cp : Nat} (h : Blk w g #[.bool x.scan, .string x.key, .string x.to, .slice P np cp] 41) (hp : Sl tPair w ok (.slice P np cp) x.pairs) :
    Sl tRead w (fun b => ok b ∨ b = g) (.slice (some ⟨g, 0, none⟩) 1 1) [x] :=
  ⟨_, 1, [.bool x.scan, .string x.key, .string x.to, .slice P np cp], rfl, Nat.le_refl _, ⟨by omega, fun h => by cases h⟩,
    (Cells.one (read_mk (x := x) hp)).mono fun b h => .inl h, .inr ⟨g, 0, rfl, .inr rfl, fun j u hj => by rw [h.cell (0 + j)]; simpa using hj⟩⟩

set_option maxHeartbeats 16000000 in
theorem ownlaw_calls (s sn : Int) (st : Bool) (R : Option Addr) (nr cr : Nat) (W : Option Addr) (nw cw : Nat) (rs : List Rd) (ws : List Pair) (l : List Rec) (A : Option Addr) (n cap : Nat) (w : World)
    (hr : Sl tRead w (fun _ => True) (.slice R nr cr) rs) (hw : Sl tPair w (fun _ => True) (.slice W nw cw) ws) (hl : Sl tRec w (fun _ => True) (.slice A n cap) l) (hro : RecOk ⟨s, sn, st, rs, ws⟩) (h64 : nr * 64 ≤ 140737488351232) (ho : ∀ x ∈ l, RecOk x) (hn : n ≤ 1954687338211) :
    Calls Try.prog 8 #[.agg #[.int .i64 s, .int .i64 sn, .bool st, .slice R nr cr, .slice W nw cw], .slice A n cap] w fun e w' => e = .returned (.bool true) ∧ Below w.heap.size w w' := by
  have HS0 : Hid (Small l) := fun o h => by obtain ⟨_, _, h3, h4⟩ := ho o h; omega
  have hB0 := Blk.new w #[.int .i64 s, .int .i64 sn, .bool st, .slice R nr cr, .slice W nw cw] 25
  have hb0 : Below w.heap.size w (w.alloc (.cells #[.int .i64 s, .int .i64 sn, .bool st, .slice R nr cr, .slice W nw cw] 25)) := (Below.refl _ _).alloc (Nat.le_refl _) _
  have hz : (w.alloc (.cells #[.int .i64 s, .int .i64 sn, .bool st, .slice R nr cr, .slice W nw cw] 25)).heap.size = w.heap.size + 1 := by simp
  have HO := Lib.hid ho
  have HRO := Lib.hid hro
  have HLN := Lib.hid hl.length.1
  have HBl := Lib.hid hB0
  have HB := Lib.hid hb0
  have hbb : Below w.heap.size w ((w.alloc (.cells #[.int .i64 s, .int .i64 sn, .bool st, .slice R nr cr, .slice W nw cw] 25)).alloc (.cells #[.int .i64 s, .int .i64 sn, .bool st, .slice R nr cr, .slice W nw cw] 25)) := hb0.alloc hb0.size _
  have HWR := Lib.hid hr
  have HWW := Lib.hid hw
  have HWL := Lib.hid hl
  have HO1 : Hid (Own tRec ((w.alloc (.cells #[.int .i64 s, .int .i64 sn, .bool st, .slice R nr cr, .slice W nw cw] 25)).alloc (.cells #[.int .i64 s, .int .i64 sn, .bool st, .slice R nr cr, .slice W nw cw] 25)) (w.heap.size + 1) 25 (fun b => b < w.heap.size) (.slice (some ⟨w.heap.size + 1, 0, none⟩) 1 1) [⟨s, sn, st, rs, ws⟩]) := by
    have hB1 := Blk.new (w.alloc (.cells #[.int .i64 s, .int .i64 sn, .bool st, .slice R nr cr, .slice W nw cw] 25)) #[.int .i64 s, .int .i64 sn, .bool st, .slice R nr cr, .slice W nw cw] 25
    rw [hz] at hB1
    refine Own.oneBlk (cs := [.int .i64 s, .int .i64 sn, .bool st, .slice R nr cr, .slice W nw cw]) hB1 (rec_mk (x := ⟨s, sn, st, rs, ws⟩) ?_ ?_) (Nat.le_refl _)
    · exact (hr.inb.below (hbb.mono (Nat.le_refl _))).mono fun b h => ⟨h.2, by omega⟩
    · exact (hw.inb.below (hbb.mono (Nat.le_refl _))).mono fun b h => ⟨h.2, by omega⟩
  have HS1 : Hid (SlX tRec ((w.alloc (.cells #[.int .i64 s, .int .i64 sn, .bool st, .slice R nr cr, .slice W nw cw] 25)).alloc (.cells #[.int .i64 s, .int .i64 sn, .bool st, .slice R nr cr, .slice W nw cw] 25)) (fun b => b < w.heap.size ∧ (Value.slice (some ⟨w.heap.size + 1, 0, none⟩) 1 1).ownBlock ≠ some b) (.slice A n cap) l) := by
    refine ((hl.inb.below (hbb.mono (Nat.le_refl _))).mono fun b h => ⟨h.2, ?_⟩).x
    simp [Value.ownBlock]; omega
  have HB1 : Hid (Below (w.heap.size + 1) (w.alloc (.cells #[.int .i64 s, .int .i64 sn, .bool st, .slice R nr cr, .slice W nw cw] 25)) ((w.alloc (.cells #[.int .i64 s, .int .i64 sn, .bool st, .slice R nr cr, .slice W nw cw] 25)).alloc (.cells #[.int .i64 s, .int .i64 sn, .bool st, .slice R nr cr, .slice W nw cw] 25))) := (Below.refl _ _).alloc (by rw [hz]; omega) _
  clear hr hw hl hb0 hB0 ho hro hz hbb
  go_enter Try.func8, Try.ntmps8
  go_wp2_with (at_builtin; refine wpList_appSl (o := ⟨some 15, _, _, _, _, _⟩) (t := tRec) (ok := fun b => b < w.heap.size) (l := [⟨s, sn, st, rs, ws⟩]) (m := l) (w0 := w.alloc (.cells #[.int .i64 s, .int .i64 sn, .bool st, .slice R nr cr, .slice W nw cw] 25)) (w.heap.size + 1) rfl _ _ 26 25 _ 72 rfl Try.underlying26 info25 rfl (by decide) (by decide) rfl rfl ?c1 ?c2 ?c3 ?c4 ?c5 ?_; (case c1 => exact HO1.out); (case c2 => exact HS1.out); (case c3 => exact HB1.out); (case c4 => simp); (case c5 => rw [List.length_cons, List.length_nil, HLN.out]; omega); intro v1 w3 hO hB3 hq1 hq2; clear hq1 hq2)
  have hsl := hO.sl.mono (ok' := fun _ => True) fun _ _ => trivial
  obtain ⟨A0, cap1, rfl, -⟩ := hsl.form
  have HSL := Lib.hid hsl
  have hb3 := HBl.out.below hB3 (by omega)
  have HB3 := Lib.hid hb3
  have hW3 := HB.out.trans (hB3.mono (by omega))
  clear hO hsl hb3 hB3 HO1 HS1 HB1
  refine (lights_calls ([⟨s, sn, st, rs, ws⟩] ++ l) A0 _ cap1 _ HSL.out (fun x hx => by
    rcases List.mem_append.1 hx with h | h
    · simp at h; rw [h]; exact HRO.out
    · exact HO.out x h)).mono ?_
  rintro e w4 ⟨b, rfl, hb4⟩
  have HW4 := Lib.hid (hW3.trans (hb4.mono hW3.size))
  have HB4 := Lib.hid (HB3.out.below hb4 HB3.out.lt)
  clear hb4 HSL hW3 HB3 HB HBl
  cases b
  · go_wp2_with fail
    refine (lives_calls _).mono ?_
    rintro e w5 ⟨rfl, hb5⟩
    go_wp2
    go_ret
    exact ⟨rfl, HW4.out.trans (hb5.mono HW4.out.size)⟩
  · obtain ⟨c0, c1, c2, c3, c4⟩ := rec_cells _ _ _ _ _ _ _ _ _ HB4.out
    have q2 := HB4.out.lt
    have hks : Hid (∀ x ∈ rs, x.key.size ≤ maxLen) := fun x hx => by
      have := (HRO.out.2.1 x hx).1
      unfold maxLen; omega
    go_wp2_with fail
    have hWz : Hid (Below w.heap.size w (w4.alloc (.cells #[.int .i64 s, .int .i64 sn, .bool st, .slice R nr cr, .slice W nw cw] 25))) := HW4.out.alloc HW4.out.size _
    have HBz : Hid (Blk (w4.alloc (.cells #[.int .i64 s, .int .i64 sn, .bool st, .slice R nr cr, .slice W nw cw] 25)) w.heap.size #[.int .i64 s, .int .i64 sn, .bool st, .slice R nr cr, .slice W nw cw] 25) := HB4.out.alloc _
    have HPz : Hid (Blk (w4.alloc (.cells #[.int .i64 s, .int .i64 sn, .bool st, .slice R nr cr, .slice W nw cw] 25)) w4.heap.size #[.int .i64 s, .int .i64 sn, .bool st, .slice R nr cr, .slice W nw cw] 25) := Blk.new _ _ _
    have hle := HW4.out.size
    have hsz : (w4.alloc (.cells #[.int .i64 s, .int .i64 sn, .bool st, .slice R nr cr, .slice W nw cw] 25)).heap.size = w4.heap.size + 1 := by simp
    have hBlt : Hid (w.heap.size < w4.heap.size) := q2
    clear c0 c1 c2 c3 c4 q2 HB4 HW4
    generalize w4.alloc (.cells #[.int .i64 s, .int .i64 sn, .bool st, .slice R nr cr, .slice W nw cw] 25) = wz at *
    generalize w4.heap.size = g5 at *
    clear w4
    refine (own_calls_ok s sn st R nr cr W nw cw (fun b => b < w.heap.size) rs wz ((HWR.out.inb.below hWz.out).mono fun b h => h.2) hks.out h64).mono ?_
    rintro e w5 ⟨v, rfl, hs1, hb5⟩
    obtain ⟨K, hKe⟩ : ∃ K, keep [] rs = K := ⟨_, rfl⟩
    have hKK : keep [] K = K := by rw [← hKe]; exact keep_keep rs
    have hKS : stale K l = stale rs l := by rw [← hKe]; exact stale_keep rs l
    have hKE : Hid (Emb sameRd K rs) := by rw [← hKe]; exact emb_keep rs []
    have hKC : Hid (K.countP (·.scan) = rs.countP (·.scan)) := by rw [← hKe]; exact keep_scans rs []
    have hKL : K.length ≤ nr := by rw [← hKe, ← HWR.out.length.1]; exact keep_le rs []
    have hKM : ∀ x ∈ K, x ∈ rs := fun x hx => keep_mem rs [] x (by rw [hKe]; exact hx)
    rw [hKe] at hs1
    clear hKe
    obtain ⟨A1, c1, rfl, hc11, hc12, -⟩ := hs1.form
    have HK1 := Lib.hid hs1
    have HW5 := Lib.hid (hWz.out.trans (hb5.mono hWz.out.size))
    have HB5 := Lib.hid (HBz.out.below hb5 HBz.out.lt)
    have HP5 := Lib.hid (HPz.out.below hb5 HPz.out.lt)
    clear hs1 hb5 HBz HPz
    have q2 := HB5.out.lt
    have q5 := HP5.out.lt
    have f5 := HP5.out.frozen 3
    have c3 : w5.cell? ⟨g5, 3, none⟩ = some (.slice R nr cr) := HP5.out.cell 3
    go_wp2_with fail
    have HW6 : Hid (Below w.heap.size w (w5.setCell ⟨g5, 3, none⟩ (.slice A1 K.length c1))) := HW5.out.setCell (by show _ ≤ g5; omega) _
    have HB6 : Hid (Blk (w5.setCell ⟨g5, 3, none⟩ (.slice A1 K.length c1)) w.heap.size #[.int .i64 s, .int .i64 sn, .bool st, .slice R nr cr, .slice W nw cw] 25) := HB5.out.far (by show _ ≠ g5; have := hBlt.out; omega) _
    have HP6 : Hid (Blk (w5.setCell ⟨g5, 3, none⟩ (.slice A1 K.length c1)) g5 #[.int .i64 s, .int .i64 sn, .bool st, .slice A1 K.length c1, .slice W nw cw] 25) := HP5.out.set 3 _
    have HK6 : Hid (Sl tRead (w5.setCell ⟨g5, 3, none⟩ (.slice A1 K.length c1)) (fun _ => True) (.slice A1 K.length c1) K) := (HK1.out.step fun b hb => Below.heap_setCell _ _ _ _ (by show b ≠ g5; rcases hb with h | h <;> omega)).mono fun _ _ => trivial
    clear q2 q5 f5 c3 HW5 HB5 HP5 HK1
    generalize w5.setCell ⟨g5, 3, none⟩ (.slice A1 K.length c1) = w6 at *
    clear w5
    have hS : OS s sn st R nr cr W nw cw A1 K.length c1 w.heap.size g5 w6 w6 := by
      obtain ⟨c0, c1, c2, c3, c4⟩ := rec_cells _ _ _ _ _ _ _ _ _ HB6.out
      obtain ⟨d0, d1, d2, d3, d4⟩ := rec_cells _ _ _ _ _ _ _ _ _ HP6.out
      exact ⟨c0, c1, c2, c3, c4, d0, d1, d2, d3, d4, Below.refl _ _, HB6.out.lt, HP6.out.lt⟩
    have hH : Hid (∀ X, OS s sn st R nr cr W nw cw A1 K.length c1 w.heap.size g5 w6 X → Below w.heap.size w X) := fun X h => HW6.out.trans (h.after.mono HW6.out.size)
    have h22 : Hid (∀ X, OS s sn st R nr cr W nw cw A1 K.length c1 w.heap.size g5 w6 X → Calls Try.prog 22 #[.agg #[.int .i64 s, .int .i64 sn, .bool st, .slice A1 K.length c1, .slice W nw cw]] X fun e w' => ∃ A n c, e = .returned (.slice A n c) ∧ Hid (Sl tRead w' (fun _ => True) (.slice A n c) K) ∧ Below X.heap.size X w') := fun X h =>
      (own_calls s sn st A1 K.length c1 W nw cw K X (HK6.out.below h.after) (fun x hx => hks.out x (hKM x hx)) (by omega)).mono fun e w' ⟨v, e1, h1, h2⟩ => by
        rw [hKK] at h1
        obtain ⟨A, c, e2, -⟩ := h1.form
        exact ⟨A, _, c, by rw [e1, e2], by rw [e2] at h1; exact h1, h2⟩
    have h21 : Hid (∀ A n c X, OS s sn st R nr cr W nw cw A1 K.length c1 w.heap.size g5 w6 X → Hid (Sl tRead X (fun _ => True) (.slice A n c) K) → Calls Try.prog 21 #[.slice A n c, .slice A1 K.length c1] X fun e w' => e = .returned (.bool true) ∧ Below X.heap.size X w') := fun A n c X h h1 => by
      have := samereads_calls _ _ A n c A1 K.length c1 X h1.out (HK6.out.below h.after)
      rwa [sameRds_refl] at this
    have h13 : Hid (∀ X a, OS s sn st R nr cr W nw cw A1 K.length c1 w.heap.size g5 w6 X → (a = .agg #[.int .i64 s, .int .i64 sn, .bool st, .slice R nr cr, .slice W nw cw] ∨ a = .agg #[.int .i64 s, .int .i64 sn, .bool st, .slice A1 K.length c1, .slice W nw cw]) → Calls Try.prog 13 #[a, .slice A n cap] X fun e w' => e = .returned (.int .i64 (stale rs l)) ∧ Below X.heap.size X w') := fun X a h ha => by
      have hX := hH.out X h
      rcases ha with rfl | rfl
      · exact stale_calls s sn st R nr cr W nw cw rs l A n cap X (HWR.out.below hX) (HWL.out.below hX) HS0.out
      · have := stale_calls s sn st A1 K.length c1 W nw cw K l A n cap X (HK6.out.below h.after) (HWL.out.below hX) HS0.out
        rwa [hKS] at this
    clear hKK hKS hKM
    generalize stale rs l = z at *
    go_region_held3 (fun X => X.cell? ⟨w.heap.size, 0, none⟩ = some (.int .i64 s) ∧ X.cell? ⟨w.heap.size, 1, none⟩ = some (.int .i64 sn) ∧ X.cell? ⟨w.heap.size, 2, none⟩ = some (.bool st) ∧ X.cell? ⟨w.heap.size, 3, none⟩ = some (.slice R nr cr) ∧ X.cell? ⟨w.heap.size, 4, none⟩ = some (.slice W nw cw) ∧ X.cell? ⟨g5, 0, none⟩ = some (.int .i64 s) ∧ X.cell? ⟨g5, 1, none⟩ = some (.int .i64 sn) ∧ X.cell? ⟨g5, 2, none⟩ = some (.bool st) ∧ X.cell? ⟨g5, 3, none⟩ = some (.slice A1 K.length c1) ∧ X.cell? ⟨g5, 4, none⟩ = some (.slice W nw cw) ∧ Hid (Below w6.heap.size w6 X) ∧ Hid (w.heap.size < w6.heap.size) ∧ Hid (g5 < w6.heap.size)) ((show OS s sn st R nr cr W nw cw A1 K.length c1 w.heap.size g5 w6 _; (repeat (first | with_reducible exact hS | with_reducible refine OS.drew ?_ | with_reducible refine OS.alloc ?_ _))))
      (first
      | (go_at_call 22; refine (h22.out _ ?_).mono ?_; (focus (repeat (first | with_reducible exact hS | with_reducible refine OS.drew ?_ | with_reducible refine OS.alloc ?_ _))); rintro e wx ⟨A2, n2, cp2, rfl, hs2, hb1⟩; have hS : OS s sn st R nr cr W nw cw A1 K.length c1 w.heap.size g5 w6 wx := OS.below (by (repeat (first | with_reducible exact hS | with_reducible refine OS.drew ?_ | with_reducible refine OS.alloc ?_ _))) hb1)
      | (go_at_call 21; refine (h21.out _ _ _ _ ?_ ?_).mono ?_; (focus (repeat (first | with_reducible exact hS | with_reducible refine OS.drew ?_ | with_reducible refine OS.alloc ?_ _))); (focus exact hs2); rintro e wx ⟨rfl, hb1⟩; have hS : OS s sn st R nr cr W nw cw A1 K.length c1 w.heap.size g5 w6 wx := OS.below (by (repeat (first | with_reducible exact hS | with_reducible refine OS.drew ?_ | with_reducible refine OS.alloc ?_ _))) hb1)
      | (go_at_call 13; refine (h13.out _ _ ?_ ?_).mono ?_; (focus (repeat (first | with_reducible exact hS | with_reducible refine OS.drew ?_ | with_reducible refine OS.alloc ?_ _))); (focus first | with_reducible exact .inl rfl | with_reducible exact .inr rfl); rintro e wx ⟨rfl, hb1⟩; have hS : OS s sn st R nr cr W nw cw A1 K.length c1 w.heap.size g5 w6 wx := OS.below (by (repeat (first | with_reducible exact hS | with_reducible refine OS.drew ?_ | with_reducible refine OS.alloc ?_ _))) hb1))
    have HX := Lib.hid (hH.out _ hS)
    have HKX := Lib.hid (HK6.out.below hS.after)
    have c3 := hS.2.2.2.1
    have d3 := hS.2.2.2.2.2.2.2.2.1
    have q2 : w.heap.size < wx.heap.size := Nat.lt_of_lt_of_le hS.2.2.2.2.2.2.2.2.2.2.2.1.out hS.after.size
    have q5 : g5 < wx.heap.size := Nat.lt_of_lt_of_le hS.2.2.2.2.2.2.2.2.2.2.2.2.out hS.after.size
    have hd3 : Hid (wx.cell? ⟨g5, 3, none⟩ = some (.slice A1 K.length c1)) := d3
    have hq5 : Hid (g5 < wx.heap.size) := q5
    clear hS h13 h21 h22 hH HK6 HP6 HB6 HW6
    go_wp2
    clear c3 d3 q2 q5
    have hX0 := Lib.hid (Below.refl wx.heap.size wx)
    have hrl := HWR.out.length.1
    have hrc := HWR.out.length.2
    go_loopw [6, 7, 9, 41] (fun vk vs _ i w' => ∃ (j k c : Nat), j ≤ nr ∧ k ≤ K.length ∧ i = .int .i64 j ∧ vk = .int .i64 k ∧ vs = .int .i64 c ∧ c ≤ j ∧ Hid (c + (rs.drop j).countP (·.scan) = rs.countP (·.scan)) ∧ Hid (Emb sameRd (K.drop k) (rs.drop j)) ∧ Below wx.heap.size wx w') (fun _ _ _ i _ => nr - (intOf i).toNat)
    case atStart => exact ⟨0, 0, 0, by omega, by omega, rfl, rfl, rfl, by omega, by show _ = _; simp, hKE, hX0.out⟩
    case round =>
      obtain ⟨j, k, c, hj, hk, rfl, rfl, rfl, hcj, hcc, hem, hb⟩ := hrel
      have hbw := Lib.hid (HX.out.trans (hb.mono HX.out.size))
      have hd5 : wr.cell? ⟨g5, 3, none⟩ = some (.slice A1 K.length c1) := by rw [(bcell hb).1 _ _ hq5.out]; exact hd3.out
      have hg5 : g5 < wr.heap.size := Nat.lt_of_lt_of_le hq5.out hb.size
      by_cases hlt : j < nr
      · obtain ⟨x, hx⟩ := some_at (show j < rs.length by omega)
        have hcs := Lib.hid (countP_step hx)
        obtain ⟨b, off, P, np, cp, hRe, hbl, g0, g1, g2, g3, hP⟩ := sl_read (HWR.out.below hbw.out) hx
        have hb' := hb.alloc hb.size (.cells #[.bool x.scan, .string x.key, .string x.to, .slice P np cp] 41)
        have HBB := Lib.hid hb'
        have hP8 := Lib.hid (hP.below ((Below.refl _ _).alloc (Nat.le_refl _) (.cells #[.bool x.scan, .string x.key, .string x.to, .slice P np cp] 41)))
        have hK8 := Lib.hid (HKX.out.below hb')
        have hXB : Hid (Blk (wr.alloc (.cells #[.bool x.scan, .string x.key, .string x.to, .slice P np cp] 41)) wr.heap.size #[.bool x.scan, .string x.key, .string x.to, .slice P np cp] 41) := Blk.new _ _ _
        have hd8 : Hid ((wr.alloc (.cells #[.bool x.scan, .string x.key, .string x.to, .slice P np cp] 41)).cell? ⟨g5, 3, none⟩ = some (.slice A1 K.length c1)) := by
          show _ = _
          rw [(bcell ((Below.refl wr.heap.size wr).alloc (Nat.le_refl _) _)).1 _ _ hg5]; exact hd5
        clear hP hb hb'
        subst hRe
        cases hxs : x.scan
        · rw [hxs] at g0 HBB hP8 hK8 hXB hd8 hcs
          replace hcs : Hid ((rs.drop j).countP (·.scan) = 0 + (rs.drop (j + 1)).countP (·.scan)) := by have h := hcs.out; rw [if_neg Bool.false_ne_true] at h; exact h
          by_cases hkk : k < K.length
          · obtain ⟨y, hy⟩ := some_at hkk
            have hen := emb_drop hem.out hx hy
            have hsl8 : Hid (Sl tRead (wr.alloc (.cells #[.bool false, .string x.key, .string x.to, .slice P np cp] 41)) (fun _ => True) (.slice (A1.map (·.add (k * 4))) 1 (c1 - k)) [y]) := by
              obtain ⟨A', e, h1⟩ := sl_from hK8.out (Nat.le_of_lt hkk) (by decide)
              rw [if_neg (by omega)] at e
              have h2 := h1.take (k := 1) (by omega)
              rw [e] at h2
              have e3 : (K.drop k).take 1 = [y] := by
                obtain ⟨hj', e'⟩ := List.getElem?_eq_some_iff.1 hy
                rw [List.drop_eq_getElem_cons hj', e']; rfl
              rwa [e3] at h2
            have hsl := fun W' => run_slice_one (P := Try.prog) (T := 22) (e := 41) (sz := 4) Try.underlying22 (by kernel_rfl) A1 hkk hc11 W'
            obtain ⟨As, hAs⟩ : ∃ As, A1.map (·.add (k * 4)) = As := ⟨_, rfl⟩
            rw [hAs] at hsl8
            simp only [hAs] at hsl
            have e64 : IntKind.i64.wrap ((k : Int) + 1) = (k : Int) + 1 := by simp [IntKind.wrap, IntKind.bits, IntKind.signed]; omega
            clear hx hy hem hAs
            go_wp2_with fail
            generalize wr.alloc (.cells #[.bool false, .string x.key, .string x.to, .slice P np cp] 41) = w8 at *
            have hl9 := hXB.out.lt
            have hl5 : g5 < w8.heap.size := World.block_lt_of_cell? w8 _ hd8.out
            have hXc : w8.cell? ⟨wr.heap.size, 0, none⟩ = some (.bool false) ∧ w8.cell? ⟨wr.heap.size, 1, none⟩ = some (.string x.key) ∧ w8.cell? ⟨wr.heap.size, 2, none⟩ = some (.string x.to) ∧ w8.cell? ⟨wr.heap.size, 3, none⟩ = some (.slice P np cp) := ⟨hXB.out.cell 0, hXB.out.cell 1, hXB.out.cell 2, hXB.out.cell 3⟩
            generalize wr.heap.size = g9 at *
            have hS : PS false x.key x.to P np cp A1 K.length c1 g5 g9 w8 w8 := ⟨hd8.out, hXc.1, hXc.2.1, hXc.2.2.1, hXc.2.2.2, Below.refl _ _, hl5, hl9⟩
            have h21 : Hid (∀ X g, PS false x.key x.to P np cp A1 K.length c1 g5 g9 w8 X → Blk X g #[.bool false, .string x.key, .string x.to, .slice P np cp] 41 → Calls Try.prog 21 #[.slice As 1 (c1 - k), .slice (some ⟨g, 0, none⟩) 1 1] X fun e w' => e = .returned (.bool (sameRd y x)) ∧ Below X.heap.size X w') := fun X g h hg => by
              have := samereads_calls [y] [x] As 1 (c1 - k) (some ⟨g, 0, none⟩) 1 1 X (hsl8.out.below h.after) ((one_read' (ok := fun _ => True) (by rw [hxs]; exact hg) (hP8.out.below h.after)).mono fun _ _ => trivial)
              rwa [show sameRds [y] [x] = sameRd y x by simp [sameRds, alike]] at this
            clear hXB hd8 hXc hl9 hl5 hP8 hK8 hsl8 g0 g1 g2 g3 hbl hd5 hg5
            cases hq : sameRd y x
            · rw [hq] at h21
              rw [hq, if_neg Bool.false_ne_true] at hen
              go_region_held3 (fun X => X.cell? ⟨g5, 3, none⟩ = some (.slice A1 K.length c1) ∧ X.cell? ⟨g9, 0, none⟩ = some (.bool false) ∧ X.cell? ⟨g9, 1, none⟩ = some (.string x.key) ∧ X.cell? ⟨g9, 2, none⟩ = some (.string x.to) ∧ X.cell? ⟨g9, 3, none⟩ = some (.slice P np cp) ∧ Hid (Below w8.heap.size w8 X) ∧ Hid (g5 < w8.heap.size) ∧ Hid (g9 < w8.heap.size)) ((show PS false x.key x.to P np cp A1 K.length c1 g5 g9 w8 _; (repeat (first | with_reducible exact hS | with_reducible refine PS.drew ?_ | with_reducible refine PS.alloc ?_ _))))
                (first
                | (go_at_call 21; refine (h21.out _ _ ?_ ?_).mono ?_; (focus (repeat (first | with_reducible exact hS | with_reducible refine PS.drew ?_ | with_reducible refine PS.alloc ?_ _))); (focus (repeat (first | with_reducible exact blk_new (by simp) | with_reducible refine blk_drew ?_ | with_reducible refine Blk.alloc ?_ _ | fail))); rintro e wy ⟨rfl, hb1⟩; have hS : PS false x.key x.to P np cp A1 K.length c1 g5 g9 w8 wy := PS.below (by (repeat (first | with_reducible exact hS | with_reducible refine PS.drew ?_ | with_reducible refine PS.alloc ?_ _))) hb1))
              all_goals
                have hfin := HBB.out.trans (hS.after.mono HBB.out.size)
                go_wp2
                go_roundw
                case rel => exact ⟨j + 1, k, c, by omega, by omega, by go_num, rfl, rfl, by omega, (by show _ = _; have h1 := hcs.out; have h2 := hcc.out; omega), hen, hfin⟩
                case measure => simp [intOf]; omega
            · rw [hq] at h21
              rw [hq, if_pos rfl] at hen
              go_region_held3 (fun X => X.cell? ⟨g5, 3, none⟩ = some (.slice A1 K.length c1) ∧ X.cell? ⟨g9, 0, none⟩ = some (.bool false) ∧ X.cell? ⟨g9, 1, none⟩ = some (.string x.key) ∧ X.cell? ⟨g9, 2, none⟩ = some (.string x.to) ∧ X.cell? ⟨g9, 3, none⟩ = some (.slice P np cp) ∧ Hid (Below w8.heap.size w8 X) ∧ Hid (g5 < w8.heap.size) ∧ Hid (g9 < w8.heap.size)) ((show PS false x.key x.to P np cp A1 K.length c1 g5 g9 w8 _; (repeat (first | with_reducible exact hS | with_reducible refine PS.drew ?_ | with_reducible refine PS.alloc ?_ _))))
                (first
                | (go_at_call 21; refine (h21.out _ _ ?_ ?_).mono ?_; (focus (repeat (first | with_reducible exact hS | with_reducible refine PS.drew ?_ | with_reducible refine PS.alloc ?_ _))); (focus (repeat (first | with_reducible exact blk_new (by simp) | with_reducible refine blk_drew ?_ | with_reducible refine Blk.alloc ?_ _ | fail))); rintro e wy ⟨rfl, hb1⟩; have hS : PS false x.key x.to P np cp A1 K.length c1 g5 g9 w8 wy := PS.below (by (repeat (first | with_reducible exact hS | with_reducible refine PS.drew ?_ | with_reducible refine PS.alloc ?_ _))) hb1))
              all_goals
                have hfin := HBB.out.trans (hS.after.mono HBB.out.size)
                go_wp2
                go_roundw
                case rel => exact ⟨j + 1, k + 1, c, by omega, by omega, by go_num, by go_num, rfl, by omega, (by show _ = _; have h1 := hcs.out; have h2 := hcc.out; omega), hen, hfin⟩
                case measure => simp [intOf]; omega
          · have hen : Hid (Emb sameRd (K.drop k) (rs.drop (j + 1))) := emb_over (by omega)
            clear hx hem
            go_wp2_with fail
            generalize wr.alloc (.cells #[.bool false, .string x.key, .string x.to, .slice P np cp] 41) = w8 at *
            have hd8' := hd8.out
            have hl5 : g5 < w8.heap.size := World.block_lt_of_cell? w8 _ hd8'
            go_quiet (fail)
            have hfin := below_drewN HBB.out nq
            go_wp2
            go_roundw
            case rel => exact ⟨j + 1, k, c, by omega, by omega, by go_num, rfl, rfl, by omega, (by show _ = _; have h1 := hcs.out; have h2 := hcc.out; omega), hen, hfin⟩
            case measure => simp [intOf]; omega
        · rw [hxs] at g0 HBB hP8 hK8 hXB hd8 hcs
          replace hcs : Hid ((rs.drop j).countP (·.scan) = 1 + (rs.drop (j + 1)).countP (·.scan)) := by have h := hcs.out; rw [if_pos rfl] at h; exact h
          by_cases hkk : k < K.length
          · obtain ⟨y, hy⟩ := some_at hkk
            have hen := emb_drop hem.out hx hy
            have hsl8 : Hid (Sl tRead (wr.alloc (.cells #[.bool true, .string x.key, .string x.to, .slice P np cp] 41)) (fun _ => True) (.slice (A1.map (·.add (k * 4))) 1 (c1 - k)) [y]) := by
              obtain ⟨A', e, h1⟩ := sl_from hK8.out (Nat.le_of_lt hkk) (by decide)
              rw [if_neg (by omega)] at e
              have h2 := h1.take (k := 1) (by omega)
              rw [e] at h2
              have e3 : (K.drop k).take 1 = [y] := by
                obtain ⟨hj', e'⟩ := List.getElem?_eq_some_iff.1 hy
                rw [List.drop_eq_getElem_cons hj', e']; rfl
              rwa [e3] at h2
            have hsl := fun W' => run_slice_one (P := Try.prog) (T := 22) (e := 41) (sz := 4) Try.underlying22 (by kernel_rfl) A1 hkk hc11 W'
            obtain ⟨As, hAs⟩ : ∃ As, A1.map (·.add (k * 4)) = As := ⟨_, rfl⟩
            rw [hAs] at hsl8
            simp only [hAs] at hsl
            have e64 : IntKind.i64.wrap ((k : Int) + 1) = (k : Int) + 1 := by simp [IntKind.wrap, IntKind.bits, IntKind.signed]; omega
            clear hx hy hem hAs
            go_wp2_with fail
            generalize wr.alloc (.cells #[.bool true, .string x.key, .string x.to, .slice P np cp] 41) = w8 at *
            have hl9 := hXB.out.lt
            have hl5 : g5 < w8.heap.size := World.block_lt_of_cell? w8 _ hd8.out
            have hXc : w8.cell? ⟨wr.heap.size, 0, none⟩ = some (.bool true) ∧ w8.cell? ⟨wr.heap.size, 1, none⟩ = some (.string x.key) ∧ w8.cell? ⟨wr.heap.size, 2, none⟩ = some (.string x.to) ∧ w8.cell? ⟨wr.heap.size, 3, none⟩ = some (.slice P np cp) := ⟨hXB.out.cell 0, hXB.out.cell 1, hXB.out.cell 2, hXB.out.cell 3⟩
            generalize wr.heap.size = g9 at *
            have hS : PS true x.key x.to P np cp A1 K.length c1 g5 g9 w8 w8 := ⟨hd8.out, hXc.1, hXc.2.1, hXc.2.2.1, hXc.2.2.2, Below.refl _ _, hl5, hl9⟩
            have h21 : Hid (∀ X g, PS true x.key x.to P np cp A1 K.length c1 g5 g9 w8 X → Blk X g #[.bool true, .string x.key, .string x.to, .slice P np cp] 41 → Calls Try.prog 21 #[.slice As 1 (c1 - k), .slice (some ⟨g, 0, none⟩) 1 1] X fun e w' => e = .returned (.bool (sameRd y x)) ∧ Below X.heap.size X w') := fun X g h hg => by
              have := samereads_calls [y] [x] As 1 (c1 - k) (some ⟨g, 0, none⟩) 1 1 X (hsl8.out.below h.after) ((one_read' (ok := fun _ => True) (by rw [hxs]; exact hg) (hP8.out.below h.after)).mono fun _ _ => trivial)
              rwa [show sameRds [y] [x] = sameRd y x by simp [sameRds, alike]] at this
            clear hXB hd8 hXc hl9 hl5 hP8 hK8 hsl8 g0 g1 g2 g3 hbl hd5 hg5
            cases hq : sameRd y x
            · rw [hq] at h21
              rw [hq, if_neg Bool.false_ne_true] at hen
              go_region_held3 (fun X => X.cell? ⟨g5, 3, none⟩ = some (.slice A1 K.length c1) ∧ X.cell? ⟨g9, 0, none⟩ = some (.bool true) ∧ X.cell? ⟨g9, 1, none⟩ = some (.string x.key) ∧ X.cell? ⟨g9, 2, none⟩ = some (.string x.to) ∧ X.cell? ⟨g9, 3, none⟩ = some (.slice P np cp) ∧ Hid (Below w8.heap.size w8 X) ∧ Hid (g5 < w8.heap.size) ∧ Hid (g9 < w8.heap.size)) ((show PS true x.key x.to P np cp A1 K.length c1 g5 g9 w8 _; (repeat (first | with_reducible exact hS | with_reducible refine PS.drew ?_ | with_reducible refine PS.alloc ?_ _))))
                (first
                | (go_at_call 21; refine (h21.out _ _ ?_ ?_).mono ?_; (focus (repeat (first | with_reducible exact hS | with_reducible refine PS.drew ?_ | with_reducible refine PS.alloc ?_ _))); (focus (repeat (first | with_reducible exact blk_new (by simp) | with_reducible refine blk_drew ?_ | with_reducible refine Blk.alloc ?_ _ | fail))); rintro e wy ⟨rfl, hb1⟩; have hS : PS true x.key x.to P np cp A1 K.length c1 g5 g9 w8 wy := PS.below (by (repeat (first | with_reducible exact hS | with_reducible refine PS.drew ?_ | with_reducible refine PS.alloc ?_ _))) hb1))
              all_goals
                have hfin := HBB.out.trans (hS.after.mono HBB.out.size)
                go_wp2
                go_roundw
                case rel => exact ⟨j + 1, k, c + 1, by omega, by omega, by go_num, rfl, by go_num, by omega, (by show _ = _; have h1 := hcs.out; have h2 := hcc.out; omega), hen, hfin⟩
                case measure => simp [intOf]; omega
            · rw [hq] at h21
              rw [hq, if_pos rfl] at hen
              go_region_held3 (fun X => X.cell? ⟨g5, 3, none⟩ = some (.slice A1 K.length c1) ∧ X.cell? ⟨g9, 0, none⟩ = some (.bool true) ∧ X.cell? ⟨g9, 1, none⟩ = some (.string x.key) ∧ X.cell? ⟨g9, 2, none⟩ = some (.string x.to) ∧ X.cell? ⟨g9, 3, none⟩ = some (.slice P np cp) ∧ Hid (Below w8.heap.size w8 X) ∧ Hid (g5 < w8.heap.size) ∧ Hid (g9 < w8.heap.size)) ((show PS true x.key x.to P np cp A1 K.length c1 g5 g9 w8 _; (repeat (first | with_reducible exact hS | with_reducible refine PS.drew ?_ | with_reducible refine PS.alloc ?_ _))))
                (first
                | (go_at_call 21; refine (h21.out _ _ ?_ ?_).mono ?_; (focus (repeat (first | with_reducible exact hS | with_reducible refine PS.drew ?_ | with_reducible refine PS.alloc ?_ _))); (focus (repeat (first | with_reducible exact blk_new (by simp) | with_reducible refine blk_drew ?_ | with_reducible refine Blk.alloc ?_ _ | fail))); rintro e wy ⟨rfl, hb1⟩; have hS : PS true x.key x.to P np cp A1 K.length c1 g5 g9 w8 wy := PS.below (by (repeat (first | with_reducible exact hS | with_reducible refine PS.drew ?_ | with_reducible refine PS.alloc ?_ _))) hb1))
              all_goals
                have hfin := HBB.out.trans (hS.after.mono HBB.out.size)
                go_wp2
                go_roundw
                case rel => exact ⟨j + 1, k + 1, c + 1, by omega, by omega, by go_num, by go_num, by go_num, by omega, (by show _ = _; have h1 := hcs.out; have h2 := hcc.out; omega), hen, hfin⟩
                case measure => simp [intOf]; omega
          · have hen : Hid (Emb sameRd (K.drop k) (rs.drop (j + 1))) := emb_over (by omega)
            clear hx hem
            go_wp2_with fail
            generalize wr.alloc (.cells #[.bool true, .string x.key, .string x.to, .slice P np cp] 41) = w8 at *
            have hd8' := hd8.out
            have hl5 : g5 < w8.heap.size := World.block_lt_of_cell? w8 _ hd8'
            go_quiet (fail)
            have hfin := below_drewN HBB.out nq
            go_wp2
            go_roundw
            case rel => exact ⟨j + 1, k, c + 1, by omega, by omega, by go_num, rfl, by go_num, by omega, (by show _ = _; have h1 := hcs.out; have h2 := hcc.out; omega), hen, hfin⟩
            case measure => simp [intOf]; omega
      · have he := hem.out
        rw [show rs.drop j = [] from List.drop_of_length_le (by omega)] at he
        have hkl : K.length ≤ k := List.drop_eq_nil_iff.1 he.end_
        obtain rfl : k = K.length := by omega
        have hc0 := hcc.out
        rw [show rs.drop j = [] from List.drop_of_length_le (by omega), ← hKC.out] at hc0
        simp only [List.countP_nil, Nat.add_zero] at hc0
        have hc1 := Lib.hid hc0
        have hcl : c ≤ K.length := by rw [hc0]; exact List.countP_le_length
        clear hc0 he hem hcc hkl
        have HKR := Lib.hid (HKX.out.below hb)
        clear hb
        go_wp2
        have hX1 := Lib.hid (Below.refl wr.heap.size wr)
        have hd6 : Hid (wr.cell? ⟨g5, 3, none⟩ = some (.slice A1 K.length c1)) := hd5
        have hg6 := Lib.hid hg5
        clear hd5 hg5
        generalize wr = wq at *
        go_loopw [7, 11, 71] (fun vs _ i w' => ∃ (j c : Nat), j ≤ K.length ∧ i = .int .i64 j ∧ vs = .int .i64 c ∧ c ≤ K.length ∧ Hid (c = (K.drop j).countP (·.scan)) ∧ Below wq.heap.size wq w') (fun _ _ i _ => K.length - (intOf i).toNat)
        case atStart => exact ⟨0, c, by omega, rfl, rfl, hcl, hc1, hX1.out⟩
        case round =>
          clear hcl hc1 hcj hlt hj
          obtain ⟨j, c, hj, rfl, rfl, hcl, hcc, hb⟩ := hrel
          by_cases hlt : j < K.length
          · obtain ⟨y, hy⟩ := some_at hlt
            have hcs := hcc.out
            rw [countP_step hy] at hcs
            obtain ⟨b, off, P, np, cp, rfl, hbl, g0, g1, g2, g3, hP⟩ := sl_read (HKR.out.below hb) hy
            have hb' := Lib.hid (hb.alloc hb.size (.cells #[.bool y.scan, .string y.key, .string y.to, .slice P np cp] 41))
            clear hP hy
            cases hys : y.scan
            · rw [hys] at g0 hb' hcs
              rw [if_neg Bool.false_ne_true, Nat.zero_add] at hcs
              go_wp2
              go_roundw
              case rel => exact ⟨j + 1, c, by omega, by go_num, rfl, hcl, hcs, hb'.out⟩
              case measure => simp [intOf]; omega
            · rw [hys] at g0 hb' hcs
              rw [if_pos rfl] at hcs
              have hcs' := Lib.hid hcs
              have hc1 : 1 ≤ c := by omega
              clear hcs
              go_wp2
              go_roundw
              case rel => exact ⟨j + 1, c - 1, by omega, by go_num, (by rw [show ((c - 1 : Nat) : Int) = (c : Int) - 1 by omega]), by omega, (by show _ = _; have := hcs'.out; omega), hb'.out⟩
              case measure => simp [intOf]; omega
          · have hc0 := hcc.out
            rw [List.drop_of_length_le (by omega)] at hc0
            obtain rfl : c = 0 := hc0
            have hd7 : wr.cell? ⟨g5, 3, none⟩ = some (.slice A1 K.length c1) := by rw [(bcell hb).1 _ _ hg6.out]; exact hd6.out
            have hg7 : g5 < wr.heap.size := Nat.lt_of_lt_of_le hg6.out hb.size
            have hfin := Lib.hid (hbw.out.trans (hb.mono hbw.out.size))
            clear hb
            go_wp2_with fail
            refine (lives_calls _).mono ?_
            rintro e wl ⟨rfl, hbl⟩
            go_wp2
            go_ret
            exact ⟨rfl, hfin.out.trans (hbl.mono hfin.out.size)⟩
end Go.Proofs.Ytlbcckdbpgofmaa
