import Derived.Test.YtidfogcilegloaaB3
namespace Go.Proofs.Ytidfogcilegloaa.B
open Go.RowKit Go.Op

/-- All stays but the two boxes. -/
structure Fr (gl gw : Nat) (W w' : World) : Prop where
  size : W.heap.size ≤ w'.heap.size
  block : ∀ b, b < W.heap.size → b ≠ gl → b ≠ gw → w'.heap[b]? = W.heap[b]?
  below : ∀ lo w0, lo ≤ gl → lo ≤ gw → lo ≤ W.heap.size → Below lo w0 W → Below lo w0 w'
def NextPost (gl gw : Nat) (ok : Nat → Prop) (l m : List Pair) (W : World) (e : Ending) (w' : World) : Prop :=
  ∃ A n c B k d l' m' p, e = .returned (.agg #[.string p.key, .string p.val, .bool p.dead]) ∧ merge l m = p :: merge l' m' ∧ Blk w' gl #[.slice A n c] 32 ∧ Blk w' gw #[.slice B k d] 32 ∧
    Sl tPair w' ok (.slice A n c) l' ∧ Sl tPair w' ok (.slice B k d) m' ∧ l'.length + m'.length + 1 ≤ l.length + m.length ∧ Fr gl gw W w'

theorem sl_one {l : List Pair} {p : Pair} {W : World} {ok : Nat → Prop} {b off n cap : Nat} (h : Sl tPair W ok (.slice (some ⟨b, off, none⟩) n cap) (p :: l)) :
    ∃ off2 c2, (∀ W, (Instr.slice 32 (.slice (some ⟨b, off, none⟩) n cap) (some (.int .i64 1)) none none).run Try.prog W = .ok (.slice (some ⟨b, off2, none⟩) (n - 1) c2) W) ∧ Sl tPair W ok (.slice (some ⟨b, off2, none⟩) (n - 1) c2) l := by
  have h1 : 1 ≤ n := by have := h.length.1; simp at this; omega
  exact run_slice_from (t := tPair) (P := Try.prog) (T := 32) (e := 68) Try.underlying32 (by kernel_rfl) h h1

theorem Fr.set {gl gw g : Nat} {W : World} (h : g = gl ∨ g = gw) (v : Value) : Fr gl gw W (W.setCell ⟨g, 0, none⟩ v) where
  size := by simp
  block := fun b hb h1 h2 => Below.heap_setCell _ _ _ _ (by show b ≠ g; rcases h with rfl | rfl <;> assumption)
  below := fun lo w0 h1 h2 _ hb => hb.setCell (p := ⟨g, 0, none⟩) (by show lo ≤ g; rcases h with rfl | rfl <;> assumption) _
theorem Fr.alloc {gl gw : Nat} {W w' : World} (h : Fr gl gw W w') (o : Obj) : Fr gl gw W (w'.alloc o) where
  size := by have := h.size; simp; omega
  block := fun b hb h1 h2 => (Below.heap_alloc w' o b (by have := h.size; omega)).trans (h.block b hb h1 h2)
  below := fun lo w0 h1 h2 h3 hb => (h.below lo w0 h1 h2 h3 hb).alloc (by have := h.size; omega) _
theorem Fr.drewN {gl gw : Nat} {W w' : World} (h : Fr gl gw W w') (n : Nat) : Fr gl gw W (w'.drewN n) := ⟨h.size, h.block, fun lo w0 h1 h2 h3 hb => below_drewN (h.below lo w0 h1 h2 h3 hb) n⟩
theorem Fr.refl (gl gw : Nat) (W : World) : Fr gl gw W W := ⟨Nat.le_refl _, fun _ _ _ _ => rfl, fun _ _ _ _ _ h => h⟩
theorem Fr.put {gl gw b : Nat} {W w' : World} (h : Fr gl gw W w') (hb : b = gl ∨ b = gw ∨ W.heap.size ≤ b) (j : Nat) (v : Value) : Fr gl gw W (w'.setCell ⟨b, j, none⟩ v) where
  size := by have := h.size; simpa using this
  block := fun k hk h1 h2 => (Below.heap_setCell _ _ _ _ (by show k ≠ b; rcases hb with rfl | rfl | hb <;> omega)).trans (h.block k hk h1 h2)
  below := fun lo w0 h1 h2 h3 hb' => (h.below lo w0 h1 h2 h3 hb').setCell (p := ⟨b, j, none⟩) (by show lo ≤ b; rcases hb with rfl | rfl | hb <;> omega) _
theorem Fr.trans {gl gw : Nat} {A B C : World} (h : Fr gl gw A B) (k : Fr gl gw B C) : Fr gl gw A C where
  size := Nat.le_trans h.size k.size
  block := fun b hb h1 h2 => (k.block b (by have := h.size; omega) h1 h2).trans (h.block b hb h1 h2)
  below := fun lo w0 h1 h2 h3 hb => k.below lo w0 h1 h2 (by have := h.size; omega) (h.below lo w0 h1 h2 h3 hb)
theorem Fr.sl {gl gw : Nat} {W w' : World} (F : Fr gl gw W w') {v : Value} {l : List Pair} (h : Sl tPair W (fun b => b < gl ∧ b < gw) v l) (hg : gl < W.heap.size) : Sl tPair w' (fun b => b < gl ∧ b < gw) v l :=
  h.step fun b hb => F.block b (by omega) (by omega) (by omega)

def res_w (Wx : World) (z : Nat) (p : Pair) : World := (((Wx.setCell ⟨z, 0, none⟩ (.string p.key)).setCell ⟨z, 1, none⟩ (.string p.val)).setCell ⟨z, 2, none⟩ (.bool p.dead)).alloc (.cells #[.string p.key, .string p.val, .bool p.dead] 68)
theorem res_fin {gl gw : Nat} {W Wx : World} {a b : Value} {p : Pair} (F : Fr gl gw W Wx) (hr : Blk Wx W.heap.size #[.string ⟨#[]⟩, .string ⟨#[]⟩, .bool false] 68) (hl : Blk Wx gl #[a] 32) (hw : Blk Wx gw #[b] 32) (g1 : gl < W.heap.size) (g2 : gw < W.heap.size) :
    Fr gl gw W (res_w Wx W.heap.size p) ∧ Blk (res_w Wx W.heap.size p) gl #[a] 32 ∧ Blk (res_w Wx W.heap.size p) gw #[b] 32 ∧
      (res_w Wx W.heap.size p).cell? ⟨W.heap.size, 0, none⟩ = some (.string p.key) ∧ (res_w Wx W.heap.size p).cell? ⟨W.heap.size, 1, none⟩ = some (.string p.val) ∧ (res_w Wx W.heap.size p).cell? ⟨W.heap.size, 2, none⟩ = some (.bool p.dead) := by
  have hb : Blk (res_w Wx W.heap.size p) W.heap.size #[.string p.key, .string p.val, .bool p.dead] 68 := (((hr.set 0 (.string p.key)).set 1 (.string p.val)).set 2 (.bool p.dead)).alloc _
  exact ⟨(((F.put (.inr (.inr (Nat.le_refl _))) 0 _).put (.inr (.inr (Nat.le_refl _))) 1 _).put (.inr (.inr (Nat.le_refl _))) 2 _).alloc _,
    (((hl.far (by show gl ≠ W.heap.size; omega) _).far (by show gl ≠ W.heap.size; omega) _).far (by show gl ≠ W.heap.size; omega) _).alloc _,
    (((hw.far (by show gw ≠ W.heap.size; omega) _).far (by show gw ≠ W.heap.size; omega) _).far (by show gw ≠ W.heap.size; omega) _).alloc _, hb.cell 0, hb.cell 1, hb.cell 2⟩

set_option maxRecDepth 100000 in
set_option maxHeartbeats 2000000 in
theorem next_left (gl gw : Nat) (hne : gl ≠ gw) (l : List Pair) (p : Pair) (A B : Option Addr) (n c k d : Nat) (W : World) (hgl : Blk W gl #[.slice A n c] 32) (hgw : Blk W gw #[.slice B k d] 32)
    (hl : Sl tPair W (fun b => b < gl ∧ b < gw) (.slice A n c) (p :: l)) (hm : Sl tPair W (fun b => b < gl ∧ b < gw) (.slice B k d) []) :
    Calls Try.prog 68 #[.pointer (some ⟨gl, 0, none⟩), .pointer (some ⟨gw, 0, none⟩)] W (NextPost gl gw (fun b => b < gl ∧ b < gw) (p :: l) [] W) := by
  have hn : (0 : Int) < (n : Int) := by have := hl.length.1; simp at this; omega
  obtain ⟨b, off, rfl, hb, x0, x1, x2⟩ := sl_pair hl (i := 0) rfl
  obtain ⟨off2, c2, hsl, hl2⟩ := sl_one hl
  simp only [Nat.zero_mul, Nat.add_zero] at x0 x1 x2
  have hlt1 := Lib.hid hl2
  have hk : k = 0 := by have := hm.length.1; simpa using this.symm
  subst hk
  have c0 := hgl.cell 0
  have f0 := hgl.frozen 0
  have c1 := hgw.cell 0
  have f1 := hgw.frozen 0
  have g1 := hgl.lt
  have g2 := hgw.lt
  have hL := Lib.hid hgl
  have hW := Lib.hid hgw
  have hL2 := Lib.hid hl
  have hM := Lib.hid hm
  clear hgl hgw hl hm
  go_enter Try.func68, Try.ntmps68
  go_wp2
  have HF := ((Fr.set (gl := gl) (gw := gw) (W := W) (.inl rfl) (.slice (some ⟨b, off2, none⟩) (n - 1) c2)).alloc (.cells #[.string p.key, .string p.val, .bool p.dead] 68)).alloc (.cells #[.string p.key, .string p.val, .bool p.dead] 68)
  exact bodyPost_ret (v := .agg #[.string p.key, .string p.val, .bool p.dead]) (by simp [results, Try.results68, go_sem]) rfl
    ⟨_, _, _, _, _, _, _, _, p, rfl, by rw [merge_nil, merge_nil], ((hL.out.set 0 _).alloc _).alloc _, ((hW.out.far (by exact hne.symm) _).alloc _).alloc _, HF.sl hlt1.out g1, HF.sl hM.out g1, by simp, HF⟩
set_option maxRecDepth 100000 in
set_option maxHeartbeats 2000000 in
theorem next_right (gl gw : Nat) (hne : gl ≠ gw) (m : List Pair) (q : Pair) (A B : Option Addr) (n c k d : Nat) (W : World) (hgl : Blk W gl #[.slice A n c] 32) (hgw : Blk W gw #[.slice B k d] 32)
    (hl : Sl tPair W (fun b => b < gl ∧ b < gw) (.slice A n c) []) (hm : Sl tPair W (fun b => b < gl ∧ b < gw) (.slice B k d) (q :: m)) :
    Calls Try.prog 68 #[.pointer (some ⟨gl, 0, none⟩), .pointer (some ⟨gw, 0, none⟩)] W (NextPost gl gw (fun b => b < gl ∧ b < gw) [] (q :: m) W) := by
  have hk : (0 : Int) < (k : Int) := by have := hm.length.1; simp at this; omega
  obtain ⟨b3, off3, rfl, hb3, y0, y1, y2⟩ := sl_pair hm (i := 0) rfl
  obtain ⟨off4, c4, hsm, hm2⟩ := sl_one hm
  simp only [Nat.zero_mul, Nat.add_zero] at y0 y1 y2
  have hmt1 := Lib.hid hm2
  have hn : n = 0 := by have := hl.length.1; simpa using this.symm
  subst hn
  have c0 := hgl.cell 0
  have f0 := hgl.frozen 0
  have c1 := hgw.cell 0
  have f1 := hgw.frozen 0
  have g1 := hgl.lt
  have g2 := hgw.lt
  have hL := Lib.hid hgl
  have hW := Lib.hid hgw
  have hL2 := Lib.hid hl
  have hM := Lib.hid hm
  clear hgl hgw hl hm
  go_enter Try.func68, Try.ntmps68
  go_wp2
  have HF := ((Fr.set (gl := gl) (gw := gw) (W := W) (.inr rfl) (.slice (some ⟨b3, off4, none⟩) (k - 1) c4)).alloc (.cells #[.string q.key, .string q.val, .bool q.dead] 68)).alloc (.cells #[.string q.key, .string q.val, .bool q.dead] 68)
  exact bodyPost_ret (v := .agg #[.string q.key, .string q.val, .bool q.dead]) (by simp [results, Try.results68, go_sem]) rfl
    ⟨_, _, _, _, _, _, _, _, q, rfl, by rw [nil_merge, nil_merge], ((hL.out.far (by exact hne) _).alloc _).alloc _, ((hW.out.set 0 _).alloc _).alloc _, HF.sl hL2.out g1, HF.sl hmt1.out g1, by simp, HF⟩
set_option maxRecDepth 100000 in
set_option maxHeartbeats 2000000 in
theorem next_lt (gl gw : Nat) (hne : gl ≠ gw) (l m : List Pair) (p q : Pair) (A B : Option Addr) (n c k d : Nat) (W : World) (hgl : Blk W gl #[.slice A n c] 32) (hgw : Blk W gw #[.slice B k d] 32)
    (hl : Sl tPair W (fun b => b < gl ∧ b < gw) (.slice A n c) (p :: l)) (hm : Sl tPair W (fun b => b < gl ∧ b < gw) (.slice B k d) (q :: m)) (h1 : klt p.key q.key = true) :
    Calls Try.prog 68 #[.pointer (some ⟨gl, 0, none⟩), .pointer (some ⟨gw, 0, none⟩)] W (NextPost gl gw (fun b => b < gl ∧ b < gw) (p :: l) (q :: m) W) := by
  have hcv : cmpK p.key q.key = -1 := by rw [cmpK, h1]; rfl
  have HG := Lib.hid (merge_lt (l := l) (w := m) h1)
  clear h1
  have hn : (0 : Int) < (n : Int) := by have := hl.length.1; simp at this; omega
  obtain ⟨b, off, rfl, hb, x0, x1, x2⟩ := sl_pair hl (i := 0) rfl
  obtain ⟨off2, c2, hsl, hl2⟩ := sl_one hl
  simp only [Nat.zero_mul, Nat.add_zero] at x0 x1 x2
  have hlt1 := Lib.hid hl2
  have hk : (0 : Int) < (k : Int) := by have := hm.length.1; simp at this; omega
  obtain ⟨b3, off3, rfl, hb3, y0, y1, y2⟩ := sl_pair hm (i := 0) rfl
  obtain ⟨off4, c4, hsm, hm2⟩ := sl_one hm
  simp only [Nat.zero_mul, Nat.add_zero] at y0 y1 y2
  have hmt1 := Lib.hid hm2
  have hcm : ∀ W, Calls Try.prog 67 #[.string p.key, .string q.key] W fun e w' => e = .returned (.int .i64 (-1)) ∧ w' = W := fun W => (cmp_calls p.key q.key W).mono fun _ _ h => ⟨by rw [h.1, hcv], h.2.symm⟩
  have HCM := Lib.hid hcm
  clear hcm hcv
  have c0 := hgl.cell 0
  have f0 := hgl.frozen 0
  have c1 := hgw.cell 0
  have f1 := hgw.frozen 0
  have g1 := hgl.lt
  have g2 := hgw.lt
  have hL := Lib.hid hgl
  have hW := Lib.hid hgw
  have hL2 := Lib.hid hl
  have hM := Lib.hid hm
  clear hgl hgw hl hm
  go_enter Try.func68, Try.ntmps68
  go_wp2
  go_quiet ((go_at_call 67; exact Calls.quiet_of_same (HCM.out _)))
  obtain ⟨Wq, hWq⟩ : ∃ Wq, (W.alloc (.cells #[.string ⟨#[]⟩, .string ⟨#[]⟩, .bool false] 68)).drewN nq = Wq := ⟨_, rfl⟩
  have hFq : Fr gl gw W Wq := by rw [← hWq]; exact ((Fr.refl gl gw W).alloc _).drewN _
  have hRq : Blk Wq W.heap.size #[.string ⟨#[]⟩, .string ⟨#[]⟩, .bool false] 68 := by rw [← hWq]; exact (Blk.new W _ 68).drewN _
  have hLq : Blk Wq gl #[.slice (some ⟨b, off, none⟩) n c] 32 := by rw [← hWq]; exact (hL.out.alloc _).drewN _
  have hWw : Blk Wq gw #[.slice (some ⟨b3, off3, none⟩) k d] 32 := by rw [← hWq]; exact (hW.out.alloc _).drewN _
  have hsq : Wq.heap.size = W.heap.size + 1 := by rw [← hWq]; show (W.alloc _).heap.size = _; simp
  have hcl : ∀ b o, b < W.heap.size → Wq.cell? ⟨b, o, none⟩ = W.cell? ⟨b, o, none⟩ := fun b o hb => by rw [← hWq]; exact ((Below.refl W.heap.size W).alloc (Nat.le_refl _) _).cell (p := ⟨b, o, none⟩) hb
  rw [hWq]
  clear hWq
  rw [← hcl _ _ hb] at x0 x1 x2
  rw [← hcl _ _ hb3] at y0 y1 y2
  have c0 := hLq.cell 0
  have f0 := hLq.frozen 0
  have c1 := hWw.cell 0
  have f1 := hWw.frozen 0
  have r0 := hRq.cell 0
  have r1 := hRq.cell 1
  have r2 := hRq.cell 2
  have r3 := hRq.frozen 0
  have r4 := hRq.frozen 1
  have r5 := hRq.frozen 2
  have HF := Lib.hid hFq
  have HR := Lib.hid hRq
  have HL' := Lib.hid hLq
  have HW' := Lib.hid hWw
  clear hcl hFq hRq hLq hWw
  go_wp2
  obtain ⟨k1, k2, k3, k4, k5, k6⟩ := res_fin (p := p) (HF.out.put (.inl rfl) 0 (.slice (some ⟨b, off2, none⟩) (n - 1) c2)) (HR.out.far (by exact Nat.ne_of_gt g1) (.slice (some ⟨b, off2, none⟩) (n - 1) c2)) (HL'.out.set 0 (.slice (some ⟨b, off2, none⟩) (n - 1) c2)) (HW'.out.far (by exact hne.symm) (.slice (some ⟨b, off2, none⟩) (n - 1) c2)) g1 g2
  exact bodyPost_ret (v := .agg #[.string p.key, .string p.val, .bool p.dead]) (by
    change (results Try.f68 _).run Try.prog (res_w (Wq.setCell ⟨gl, 0, none⟩ (.slice (some ⟨b, off2, none⟩) (n - 1) c2)) W.heap.size p) = _
    simp [results, Try.results68, go_sem, k4, k5, k6]; rfl) rfl
    ⟨_, _, _, _, _, _, _, _, p, rfl, HG.out, k2, k3, k1.sl hlt1.out g1, k1.sl hM.out g1, by simp; try omega, k1⟩
set_option maxRecDepth 100000 in
set_option maxHeartbeats 2000000 in
theorem next_gt (gl gw : Nat) (hne : gl ≠ gw) (l m : List Pair) (p q : Pair) (A B : Option Addr) (n c k d : Nat) (W : World) (hgl : Blk W gl #[.slice A n c] 32) (hgw : Blk W gw #[.slice B k d] 32)
    (hl : Sl tPair W (fun b => b < gl ∧ b < gw) (.slice A n c) (p :: l)) (hm : Sl tPair W (fun b => b < gl ∧ b < gw) (.slice B k d) (q :: m)) (h1 : klt p.key q.key = false) (h2 : (p.key.toList == q.key.toList) = false) :
    Calls Try.prog 68 #[.pointer (some ⟨gl, 0, none⟩), .pointer (some ⟨gw, 0, none⟩)] W (NextPost gl gw (fun b => b < gl ∧ b < gw) (p :: l) (q :: m) W) := by
  have hcv : cmpK p.key q.key = 1 := by
    rw [beq_key] at h2
    rcases klt_cases p.key q.key with ⟨h, _⟩ | ⟨h, _⟩ | ⟨_, h, _⟩
    · rw [h] at h1; cases h1
    · rw [decide_eq_true h] at h2; cases h2
    · rw [cmpK, h1, h]; rfl
  have HG := Lib.hid (merge_gt (l := l) (w := m) h1 h2)
  clear h1 h2
  have hn : (0 : Int) < (n : Int) := by have := hl.length.1; simp at this; omega
  obtain ⟨b, off, rfl, hb, x0, x1, x2⟩ := sl_pair hl (i := 0) rfl
  obtain ⟨off2, c2, hsl, hl2⟩ := sl_one hl
  simp only [Nat.zero_mul, Nat.add_zero] at x0 x1 x2
  have hlt1 := Lib.hid hl2
  have hk : (0 : Int) < (k : Int) := by have := hm.length.1; simp at this; omega
  obtain ⟨b3, off3, rfl, hb3, y0, y1, y2⟩ := sl_pair hm (i := 0) rfl
  obtain ⟨off4, c4, hsm, hm2⟩ := sl_one hm
  simp only [Nat.zero_mul, Nat.add_zero] at y0 y1 y2
  have hmt1 := Lib.hid hm2
  have hcm : ∀ W, Calls Try.prog 67 #[.string p.key, .string q.key] W fun e w' => e = .returned (.int .i64 (1)) ∧ w' = W := fun W => (cmp_calls p.key q.key W).mono fun _ _ h => ⟨by rw [h.1, hcv], h.2.symm⟩
  have HCM := Lib.hid hcm
  clear hcm hcv
  have c0 := hgl.cell 0
  have f0 := hgl.frozen 0
  have c1 := hgw.cell 0
  have f1 := hgw.frozen 0
  have g1 := hgl.lt
  have g2 := hgw.lt
  have hL := Lib.hid hgl
  have hW := Lib.hid hgw
  have hL2 := Lib.hid hl
  have hM := Lib.hid hm
  clear hgl hgw hl hm
  go_enter Try.func68, Try.ntmps68
  go_wp2
  go_quiet ((go_at_call 67; exact Calls.quiet_of_same (HCM.out _)))
  obtain ⟨Wq, hWq⟩ : ∃ Wq, (W.alloc (.cells #[.string ⟨#[]⟩, .string ⟨#[]⟩, .bool false] 68)).drewN nq = Wq := ⟨_, rfl⟩
  have hFq : Fr gl gw W Wq := by rw [← hWq]; exact ((Fr.refl gl gw W).alloc _).drewN _
  have hRq : Blk Wq W.heap.size #[.string ⟨#[]⟩, .string ⟨#[]⟩, .bool false] 68 := by rw [← hWq]; exact (Blk.new W _ 68).drewN _
  have hLq : Blk Wq gl #[.slice (some ⟨b, off, none⟩) n c] 32 := by rw [← hWq]; exact (hL.out.alloc _).drewN _
  have hWw : Blk Wq gw #[.slice (some ⟨b3, off3, none⟩) k d] 32 := by rw [← hWq]; exact (hW.out.alloc _).drewN _
  have hsq : Wq.heap.size = W.heap.size + 1 := by rw [← hWq]; show (W.alloc _).heap.size = _; simp
  have hcl : ∀ b o, b < W.heap.size → Wq.cell? ⟨b, o, none⟩ = W.cell? ⟨b, o, none⟩ := fun b o hb => by rw [← hWq]; exact ((Below.refl W.heap.size W).alloc (Nat.le_refl _) _).cell (p := ⟨b, o, none⟩) hb
  rw [hWq]
  clear hWq
  rw [← hcl _ _ hb] at x0 x1 x2
  rw [← hcl _ _ hb3] at y0 y1 y2
  have c0 := hLq.cell 0
  have f0 := hLq.frozen 0
  have c1 := hWw.cell 0
  have f1 := hWw.frozen 0
  have r0 := hRq.cell 0
  have r1 := hRq.cell 1
  have r2 := hRq.cell 2
  have r3 := hRq.frozen 0
  have r4 := hRq.frozen 1
  have r5 := hRq.frozen 2
  have HF := Lib.hid hFq
  have HR := Lib.hid hRq
  have HL' := Lib.hid hLq
  have HW' := Lib.hid hWw
  clear hcl hFq hRq hLq hWw
  go_wp2
  obtain ⟨k1, k2, k3, k4, k5, k6⟩ := res_fin (p := q) (HF.out.put (.inr (.inl rfl)) 0 (.slice (some ⟨b3, off4, none⟩) (k - 1) c4)) (HR.out.far (by exact Nat.ne_of_gt g2) (.slice (some ⟨b3, off4, none⟩) (k - 1) c4)) (HL'.out.far (by exact hne) (.slice (some ⟨b3, off4, none⟩) (k - 1) c4)) (HW'.out.set 0 (.slice (some ⟨b3, off4, none⟩) (k - 1) c4)) g1 g2
  exact bodyPost_ret (v := .agg #[.string q.key, .string q.val, .bool q.dead]) (by
    change (results Try.f68 _).run Try.prog (res_w (Wq.setCell ⟨gw, 0, none⟩ (.slice (some ⟨b3, off4, none⟩) (k - 1) c4)) W.heap.size q) = _
    simp [results, Try.results68, go_sem, k4, k5, k6]; rfl) rfl
    ⟨_, _, _, _, _, _, _, _, q, rfl, HG.out, k2, k3, k1.sl hL2.out g1, k1.sl hmt1.out g1, by simp; try omega, k1⟩
set_option maxRecDepth 100000 in
set_option maxHeartbeats 2000000 in
theorem next_eq (gl gw : Nat) (hne : gl ≠ gw) (l m : List Pair) (p q : Pair) (A B : Option Addr) (n c k d : Nat) (W : World) (hgl : Blk W gl #[.slice A n c] 32) (hgw : Blk W gw #[.slice B k d] 32)
    (hl : Sl tPair W (fun b => b < gl ∧ b < gw) (.slice A n c) (p :: l)) (hm : Sl tPair W (fun b => b < gl ∧ b < gw) (.slice B k d) (q :: m)) (h1 : klt p.key q.key = false) (h2 : (p.key.toList == q.key.toList) = true) :
    Calls Try.prog 68 #[.pointer (some ⟨gl, 0, none⟩), .pointer (some ⟨gw, 0, none⟩)] W (NextPost gl gw (fun b => b < gl ∧ b < gw) (p :: l) (q :: m) W) := by
  have hcv : cmpK p.key q.key = 0 := by
    have e : p.key = q.key := by rw [beq_key] at h2; simpa using h2
    rw [cmpK, e, klt_irrefl]; rfl
  have HG := Lib.hid (merge_eq (l := l) (w := m) h1 h2)
  clear h1 h2
  have hn : (0 : Int) < (n : Int) := by have := hl.length.1; simp at this; omega
  obtain ⟨b, off, rfl, hb, x0, x1, x2⟩ := sl_pair hl (i := 0) rfl
  obtain ⟨off2, c2, hsl, hl2⟩ := sl_one hl
  simp only [Nat.zero_mul, Nat.add_zero] at x0 x1 x2
  have hlt1 := Lib.hid hl2
  have hk : (0 : Int) < (k : Int) := by have := hm.length.1; simp at this; omega
  obtain ⟨b3, off3, rfl, hb3, y0, y1, y2⟩ := sl_pair hm (i := 0) rfl
  obtain ⟨off4, c4, hsm, hm2⟩ := sl_one hm
  simp only [Nat.zero_mul, Nat.add_zero] at y0 y1 y2
  have hmt1 := Lib.hid hm2
  have hcm : ∀ W, Calls Try.prog 67 #[.string p.key, .string q.key] W fun e w' => e = .returned (.int .i64 (0)) ∧ w' = W := fun W => (cmp_calls p.key q.key W).mono fun _ _ h => ⟨by rw [h.1, hcv], h.2.symm⟩
  have HCM := Lib.hid hcm
  clear hcm hcv
  have c0 := hgl.cell 0
  have f0 := hgl.frozen 0
  have c1 := hgw.cell 0
  have f1 := hgw.frozen 0
  have g1 := hgl.lt
  have g2 := hgw.lt
  have hL := Lib.hid hgl
  have hW := Lib.hid hgw
  have hL2 := Lib.hid hl
  have hM := Lib.hid hm
  clear hgl hgw hl hm
  go_enter Try.func68, Try.ntmps68
  go_wp2
  go_quiet ((go_at_call 67; exact Calls.quiet_of_same (HCM.out _)))
  obtain ⟨Wq, hWq⟩ : ∃ Wq, (W.alloc (.cells #[.string ⟨#[]⟩, .string ⟨#[]⟩, .bool false] 68)).drewN nq = Wq := ⟨_, rfl⟩
  have hFq : Fr gl gw W Wq := by rw [← hWq]; exact ((Fr.refl gl gw W).alloc _).drewN _
  have hRq : Blk Wq W.heap.size #[.string ⟨#[]⟩, .string ⟨#[]⟩, .bool false] 68 := by rw [← hWq]; exact (Blk.new W _ 68).drewN _
  have hLq : Blk Wq gl #[.slice (some ⟨b, off, none⟩) n c] 32 := by rw [← hWq]; exact (hL.out.alloc _).drewN _
  have hWw : Blk Wq gw #[.slice (some ⟨b3, off3, none⟩) k d] 32 := by rw [← hWq]; exact (hW.out.alloc _).drewN _
  have hsq : Wq.heap.size = W.heap.size + 1 := by rw [← hWq]; show (W.alloc _).heap.size = _; simp
  have hcl : ∀ b o, b < W.heap.size → Wq.cell? ⟨b, o, none⟩ = W.cell? ⟨b, o, none⟩ := fun b o hb => by rw [← hWq]; exact ((Below.refl W.heap.size W).alloc (Nat.le_refl _) _).cell (p := ⟨b, o, none⟩) hb
  rw [hWq]
  clear hWq
  rw [← hcl _ _ hb] at x0 x1 x2
  rw [← hcl _ _ hb3] at y0 y1 y2
  have c0 := hLq.cell 0
  have f0 := hLq.frozen 0
  have c1 := hWw.cell 0
  have f1 := hWw.frozen 0
  have r0 := hRq.cell 0
  have r1 := hRq.cell 1
  have r2 := hRq.cell 2
  have r3 := hRq.frozen 0
  have r4 := hRq.frozen 1
  have r5 := hRq.frozen 2
  have HF := Lib.hid hFq
  have HR := Lib.hid hRq
  have HL' := Lib.hid hLq
  have HW' := Lib.hid hWw
  clear hcl hFq hRq hLq hWw
  go_wp2
  obtain ⟨k1, k2, k3, k4, k5, k6⟩ := res_fin (p := q) ((HF.out.put (.inr (.inl rfl)) 0 (.slice (some ⟨b3, off4, none⟩) (k - 1) c4)).put (.inl rfl) 0 (.slice (some ⟨b, off2, none⟩) (n - 1) c2)) ((HR.out.far (by exact Nat.ne_of_gt g2) (.slice (some ⟨b3, off4, none⟩) (k - 1) c4)).far (by exact Nat.ne_of_gt g1) (.slice (some ⟨b, off2, none⟩) (n - 1) c2)) ((HL'.out.far (by exact hne) (.slice (some ⟨b3, off4, none⟩) (k - 1) c4)).set 0 (.slice (some ⟨b, off2, none⟩) (n - 1) c2)) ((HW'.out.set 0 (.slice (some ⟨b3, off4, none⟩) (k - 1) c4)).far (by exact hne.symm) (.slice (some ⟨b, off2, none⟩) (n - 1) c2)) g1 g2
  exact bodyPost_ret (v := .agg #[.string q.key, .string q.val, .bool q.dead]) (by
    change (results Try.f68 _).run Try.prog (res_w ((Wq.setCell ⟨gw, 0, none⟩ (.slice (some ⟨b3, off4, none⟩) (k - 1) c4)).setCell ⟨gl, 0, none⟩ (.slice (some ⟨b, off2, none⟩) (n - 1) c2)) W.heap.size q) = _
    simp [results, Try.results68, go_sem, k4, k5, k6]; rfl) rfl
    ⟨_, _, _, _, _, _, _, _, q, rfl, HG.out, k2, k3, k1.sl hlt1.out g1, k1.sl hmt1.out g1, by simp; try omega, k1⟩
end Go.Proofs.Ytidfogcilegloaa.B
