import Derived.Test.YtnleldogmogkgaaW45
import Derived.Test.YtnleldogmogkgaaW37
import Derived.Test.YtnleldogmogkgaaW41
import Derived.Test.YtnleldogmogkgaaW31
import Derived.Test.YtnleldogmogkgaaW23
/-! The store and the document's, side by side. -/
namespace Go.Proofs.Ytnleldogmogkgaa
open Go.RowKit Go.Op

/-! ### How many versions a store has -/
def sliceLen : Value → Nat
  | .slice _ n _ => n
  | _ => 0
def lens (V : List (ByteArray × Value)) : Nat := (V.map fun p => sliceLen p.2).sum
theorem lens_cut {r1 r2 : List (ByteArray × Value)} {k : ByteArray} {v : Value} : lens (r1 ++ (k, v) :: r2) = lens (r1 ++ r2) + sliceLen v := by
  simp [lens]; omega
theorem ch_val {w : World} {X : List Nat} {V : List (ByteArray × Value)} {E : List Ent} (hr : Rising E) (hn : (V.map (·.1)).Nodup) (hC : Ch w X V E) {p : ByteArray × Value} (hp : p ∈ V) : ∃ A c, p.2 = .slice A (chainOf E p.1).length c ∧ p.1 ∈ E.map (·.key) := by
  have hm : p.1 ∈ E.map (·.key) := hC.keys.mem_iff.1 (List.mem_map.2 ⟨p, hp, rfl⟩)
  obtain ⟨e, he, hk⟩ := List.mem_map.1 hm
  obtain ⟨A, n, c, h1, h2⟩ := hC.chains e he
  rw [show e.key = p.1 from hk, look_of_mem hn hp] at h1
  injection h1 with h1
  have hl := h2.length.1
  exact ⟨A, c, by rw [h1, ← hk, chainOf_mem hr he, hl], hm⟩
theorem lens_eq {w : World} {X : List Nat} {V : List (ByteArray × Value)} {E : List Ent} (hr : Rising E) (hn : (V.map (·.1)).Nodup) (hC : Ch w X V E) : lens V = vers E := by
  have h1 : V.map (fun p => sliceLen p.2) = (V.map (·.1)).map fun k => (chainOf E k).length := by
    rw [List.map_map]
    refine List.map_congr_left fun p hp => ?_
    obtain ⟨A, c, e, _⟩ := ch_val hr hn hC hp
    simp [e, sliceLen]
  have h2 : (E.map (·.key)).map (fun k => (chainOf E k).length) = E.map fun e => e.c.length := by
    rw [List.map_map]
    exact List.map_congr_left fun e he => by simp [chainOf_mem hr he]
  unfold lens vers
  rw [h1, ← h2]
  exact (hC.keys.map _).sum_nat

set_option maxHeartbeats 4000000 in
theorem svers_calls (pb mb : Nat) (kv : Value) (X : List Nat) (S : Sto) (w : World) (h : Stm w pb mb kv X S) :
    Calls Try.prog 25 #[.pointer (some ⟨pb, 0, none⟩)] w fun e w' => e = .returned (.int .i64 (vers S.ents : Nat)) ∧ Below w.heap.size w w' := by
  obtain ⟨V, hV, hC⟩ := h.map
  obtain ⟨w0, hrange, hM0, hg0, hs0⟩ := hV.range Try.underlying55
  have c0 := h.cells.1
  have HMD := Lib.hid h.made
  have hb0 : Below w.heap.size w w0 := ⟨hg0.os, hg0.tape, hg0.output, hg0.size, fun k hk => hg0.block k hk (by simp)⟩
  obtain ⟨rb, hrb⟩ : ∃ rb, w.heap.size = rb := ⟨_, rfl⟩
  have HB0 : Hid (Below rb w w0) := by rw [← hrb]; exact hb0
  have hM0' : Hid (Mr KS w0 mb rb V V) := by rw [← hrb]; exact hM0
  have hL := lens_eq h.ok.rising hV.nodup hC
  obtain ⟨tot, htot⟩ : ∃ t, vers S.ents = t := ⟨_, rfl⟩
  rw [htot] at hL ⊢
  have HL := Lib.hid hL
  have htb : tot ≤ 200000000000 := by
    have h1 := vers_le h.ok h.last (l := S.ents) fun _ hx => hx
    have h2 := h.few
    have : S.ents.length * 1000000 ≤ 100000 * 1000000 := Nat.mul_le_mul_right _ h2
    omega
  have HV : Hid (∀ p ∈ V, ∃ A n c, p.2 = .slice A n c) := fun p hp => by
    obtain ⟨A, c, e, _⟩ := ch_val h.ok.rising hV.nodup hC hp
    exact ⟨A, _, c, e⟩
  have hlt : mb < rb := by rw [← hrb]; exact hV.lt
  clear hV hC h hg0 hb0 hM0 hL htot
  go_enter Try.func25, Try.ntmps25
  go_wp2_with fail
  refine HMD.out.mono ?_
  rintro e w' ⟨rfl, rfl⟩
  go_wp2
  go_loopw [3] (fun vn wr => ∃ (rest : List (ByteArray × Value)) (a : Nat), vn = .int .i64 (a : Nat) ∧ a + lens rest = tot ∧ (∀ p ∈ rest, p ∈ V) ∧ Hid (Mr KS wr mb rb V rest) ∧ Hid (Below rb w wr) ∧ rb < wr.heap.size) (fun _ wr => wr.rangeLeft mb rb)
  case atStart => exact ⟨V, 0, rfl, by rw [HL.out]; omega, fun _ h => h, hM0', HB0.out, by omega⟩
  case round =>
    obtain ⟨rest, a, rfl, hsum, hsub, hM, hb, hz⟩ := hrel
    clear hM0' HB0
    rcases hM.out.next 0 with ⟨h0, hrun⟩ | ⟨k, v, r1, r2, w1, hsp, -, -, hrun, hM1, hlt1, hg1, hs1, hen⟩
    · subst h0
      obtain rfl : a = tot := by simpa [lens] using hsum
      clear hrange hs0 c0 hsub hM
      go_wp2
      go_ret
      exact ⟨rfl, by rw [hrb]; exact hb.out⟩
    · subst hsp
      obtain ⟨A, n, c, hv⟩ := HV.out (k, v) (hsub _ (by simp))
      have hv' : v = .slice A n c := hv
      subst hv'
      rw [lens_cut] at hsum
      have hsum2 : a + n + lens (r1 ++ r2) = tot := by have : sliceLen (.slice A n c) = n := rfl; omega
      have hM1' := Lib.hid hM1
      have hb1 : Hid (Below rb w w1) := hb.out.grown hg1 (by omega) (fun k e => by cases e; exact Nat.le_refl _)
      have hen' : (Instr.entry (.pointer (some ⟨rb, 0, none⟩))).run Try.prog w1 = .ok (.tuple #[.string k, .slice A n c]) w1 := hen
      have hrun' : (Instr.next (.pointer (some ⟨rb, 0, none⟩)) false 0).run Try.prog wr = .ok (.tuple #[.bool true, .string k, .slice A n c]) w1 := hrun
      have HLT := Lib.hid hlt1
      have hz1 : rb < w1.heap.size := by omega
      have hsub' : Hid (∀ p ∈ r1 ++ r2, p ∈ V) := fun p hp => hsub p (by rcases List.mem_append.1 hp with h | h; exact List.mem_append_left _ h; exact List.mem_append_right _ (List.mem_cons_of_mem _ h))
      have HS := Lib.hid hsum2
      have hab : a + n ≤ 200000000000 := by omega
      clear hrange hs0 c0 hM hb hM1 hen hrun hlt1 hg1 hs1 hsub hsum hsum2 hv
      go_wp2
      go_roundw
      case rel => exact ⟨r1 ++ r2, a + n, by go_num, HS.out, hsub'.out, hM1', hb1, hz1⟩
      case measure => exact HLT.out
section
variable {wx w W W' w' : World} {pb mb : Nat} {kv : Value} {X X' : List Nat} {S : Sto}
theorem Stm.shift (h : Stm w pb mb kv X S) (hs : w.heap.size ≤ w'.heap.size) (h1 : w'.heap[pb]? = w.heap[pb]?) (h2 : w'.heap[mb]? = w.heap[mb]?) (h3 : ∀ b, kv.ownBlock = some b → w'.heap[b]? = w.heap[b]?)
    (h4 : ∀ b, b < w.heap.size → b ∉ X → w'.heap[b]? = w.heap[b]?) (hsub : ∀ b ∈ X, b ∈ X') (hlt : ∀ b ∈ X', b < w'.heap.size) (hnew : ∀ b ∈ X', b ∈ X ∨ w.heap.size ≤ b) : Stm w' pb mb kv X' S := by
  have h0 := h.step hs h1 h2 h3 h4
  obtain ⟨V, hV, hC⟩ := h.map
  have hout : ∀ b, b < w.heap.size → b ∉ X → b ∉ X' := fun b hb hn hm => by
    rcases hnew b hm with h | h
    · exact hn h
    · omega
  exact ⟨h0.blk, h0.keys, ⟨V, hV.same h2, (hC.more hout).step fun b hb hn => h4 b hb (fun hm => hn (hsub b hm))⟩, h.ok, h.few, h.last, hsub _ h.inP, hsub _ h.inM, fun b e => hsub _ (h.inK b e), hlt, h.nP, h.nM⟩
end
structure Duo (w0 w : World) (pb mb : Nat) (kv : Value) (rb : Nat) (v : Value) (X : List Nat) (S R : Sto) : Prop where
  my : My w0 w pb mb kv X S
  ref : Rst w rb v X R
  rp : rb ≠ pb
  rm : rb ≠ mb
  rk : kv.ownBlock ≠ some rb
  vp : v.ownBlock ≠ some pb
  vm : v.ownBlock ≠ some mb
  kk : ∀ b, kv.ownBlock = some b → v.ownBlock ≠ some b
section
variable {w0 w w' : World} {pb mb rb : Nat} {kv kv' v v' : Value} {X X' : List Nat} {S S' R R' : Sto}
theorem Duo.below (h : Duo w0 w pb mb kv rb v X S R) (hb : Below w.heap.size w w') : Duo w0 w' pb mb kv rb v X S R := ⟨h.my.below hb, h.ref.below hb, h.rp, h.rm, h.rk, h.vp, h.vm, h.kk⟩
/-- The store has turned. -/
theorem Duo.left (h : Duo w0 w pb mb kv rb v X S R) (hM : My w0 w' pb mb kv' X' S') (hc : Chg pb mb kv w w') (hk : Kin w kv kv') (hx : Xin w X X') : Duo w0 w' pb mb kv' rb v X' S' R := by
  have hrl := h.ref.lt _ h.ref.inP
  have hne : ∀ b, b ∈ X → b ≠ pb → b ≠ mb → kv.ownBlock ≠ some b → w'.heap[b]? = w.heap[b]? := fun b hb h1 h2 h3 => hc.block b (h.ref.lt b hb) h1 h2 h3
  refine ⟨hM, h.ref.move hc.size (hne rb h.ref.inP h.rp h.rm h.rk) (fun b e => hne b (h.ref.inK b e) (fun e' => h.vp (by rw [e, e'])) (fun e' => h.vm (by rw [e, e'])) (fun e' => h.kk b e' e))
    (fun b hb hn => hc.block b hb (fun e => hn (by rw [e]; exact h.my.st.inP)) (fun e => hn (by rw [e]; exact h.my.st.inM)) (fun e => hn (h.my.st.inK b e))) hx.2 (fun b hb => hM.st.lt b hb) hx.1, h.rp, h.rm, fun e => ?_, h.vp, h.vm, fun b e e' => ?_⟩
  · rcases hk with hk | hk
    · rw [hk] at e; exact h.rk e
    · have := hk rb e; omega
  · rcases hk with hk | hk
    · rw [hk] at e; exact h.kk b e e'
    · have := hk b e; have := h.ref.lt b (h.ref.inK b e'); omega
/-- The document's has turned. -/
theorem Duo.right (h : Duo w0 w pb mb kv rb v X S R) (hR : Rst w' rb v' X' R') (hc : Chg rb rb v w w') (hk : Kin w v v') (hx : Xin w X X') : Duo w0 w' pb mb kv rb v' X' S R' := by
  have hpl := h.my.st.lt _ h.my.st.inP
  have hml := h.my.st.lt _ h.my.st.inM
  have hne : ∀ b, b ∈ X → b ≠ rb → v.ownBlock ≠ some b → w'.heap[b]? = w.heap[b]? := fun b hb h1 h3 => hc.block b (h.my.st.lt b hb) h1 h1 h3
  have hb0 : w0.heap.size ≤ w.heap.size := h.my.be.size
  refine ⟨⟨h.my.st.shift hc.size (hne pb h.my.st.inP (fun e => h.rp e.symm) h.vp) (hne mb h.my.st.inM (fun e => h.rm e.symm) h.vm) (fun b e => hne b (h.my.st.inK b e) (fun e' => h.rk (by rw [e, e'])) (h.kk b e))
    (fun b hb hn => hc.block b hb (fun e => hn (by rw [e]; exact h.ref.inP)) (fun e => hn (by rw [e]; exact h.ref.inP)) (fun e => hn (h.ref.inK b e))) hx.2 (fun b hb => hR.lt b hb) hx.1, ?_, fun b hb => ?_⟩, hR, h.rp, h.rm, h.rk, fun e => ?_, fun e => ?_, fun b e e' => ?_⟩
  · exact h.my.be.trans (hc.toBelow hb0 (h.my.ge _ h.ref.inP) (h.my.ge _ h.ref.inP) fun b e => h.my.ge b (h.ref.inK b e))
  · rcases hx.1 b hb with h5 | h5
    · exact h.my.ge b h5
    · omega
  · rcases hk with hk | hk
    · rw [hk] at e; exact h.vp e
    · have := hk pb e; omega
  · rcases hk with hk | hk
    · rw [hk] at e; exact h.vm e
    · have := hk mb e; omega
  · rcases hk with hk | hk
    · rw [hk] at e'; exact h.kk b e e'
    · have := hk b e'; have := h.my.st.lt b (h.my.st.inK b e); omega
/-- What lies outside both stays. -/
structure Out (w w' : World) (X X' : List Nat) : Prop where
  size : w.heap.size ≤ w'.heap.size
  block : ∀ b, b < w.heap.size → b ∉ X → w'.heap[b]? = w.heap[b]?
  xin : Xin w X X'
theorem Out.refl (w : World) (X : List Nat) : Out w w X X := ⟨Nat.le_refl _, fun _ _ _ => rfl, Xin.refl _ _⟩
theorem Out.of_below (hb : Below w.heap.size w w') (X : List Nat) : Out w w' X X := ⟨hb.size, fun b h _ => hb.block b h, Xin.refl _ _⟩
theorem Out.trans {w'' : World} {X'' : List Nat} (h : Out w w' X X') (k : Out w' w'' X' X'') : Out w w'' X X'' :=
  ⟨Nat.le_trans h.size k.size, fun b hb hn => (k.block b (Nat.lt_of_lt_of_le hb h.size) (h.xin.out hn hb)).trans (h.block b hb hn), h.xin.trans k.xin h.size⟩
theorem Out.blk {g : Nat} {cs : Array Value} {e : TypeId} (h : Out w w' X X') (hb : Blk w g cs e) (hg : g ∉ X) : Blk w' g cs e := (h.block g hb.lt hg).trans hb
theorem Duo.arg {α : Type} {t : Ty α} {ok : Nat → Prop} {u : Value} {l : List α} (h : Duo w0 w pb mb kv rb v X S R) (hs : Sl t w0 ok u l) : Sl t w (· ∉ X) u l := h.my.arg hs

theorem Duo.install {m : Int} {l : List Pair} {A : Option Addr} {n c : Nat} (h : Duo w0 w pb mb kv rb v X S R) (hl : Sl tPair w (· ∉ X) (.slice A n c) l) (hs : Short l) (hm1 : -9223372036854775808 ≤ m) (hm2 : m ≤ 9223372036854775807) (hle : S.ents.length + l.length ≤ 100000) (hla : S.last < 1000000) :
    Calls Try.prog 13 #[.pointer (some ⟨pb, 0, none⟩), .int .i64 m, .slice A n c] w fun e w' => e = .returned (.int .i64 (inst S m l).1) ∧ ∃ kv' X', Duo w0 w' pb mb kv' rb v X' (inst S m l).2 R ∧ Out w w' X X' :=
  (install_calls pb mb kv X S m l A n c w h.my.st (hl.mono fun b hb => ⟨fun e => hb (by rw [e]; exact h.my.st.inP), fun e => hb (by rw [e]; exact h.my.st.inM), fun e => hb (h.my.st.inK b e)⟩) hs hm1 hm2 hle hla).mono fun _ _ ⟨e1, kv', X', h1, h2, h3, h4⟩ =>
    ⟨e1, kv', X', h.left ⟨h1, h.my.be.trans (h2.toBelow h.my.be.size (h.my.ge _ h.my.st.inP) (h.my.ge _ h.my.st.inM) fun b e => h.my.ge b (h.my.st.inK b e)), fun b hb => by
      rcases h4.1 b hb with h5 | h5
      · exact h.my.ge b h5
      · have := h.my.be.size; omega⟩ h2 h3 h4, h2.size, fun b hb hn => h2.block b hb (fun e => hn (by rw [e]; exact h.my.st.inP)) (fun e => hn (by rw [e]; exact h.my.st.inM)) (fun e => hn (h.my.st.inK b e)), h4⟩
theorem Duo.rinstall {m : Int} {l : List Pair} {A : Option Addr} {n c : Nat} (h : Duo w0 w pb mb kv rb v X S R) (hl : Sl tPair w (· ∉ X) (.slice A n c) l) (hs : Short l) (hle : R.ents.length + l.length ≤ 100000) (hla : R.last < 1000000) :
    Calls Try.prog 42 #[.pointer (some ⟨rb, 0, none⟩), .int .i64 m, .slice A n c] w fun e w' => e = .returned (.int .i64 (inst R m l).1) ∧ ∃ v' X', Duo w0 w' pb mb kv rb v' X' S (inst R m l).2 ∧ Out w w' X X' :=
  (rinst_calls rb v X R m l A n c w h.ref (hl.mono fun b hb => ⟨fun e => hb (by rw [e]; exact h.ref.inP), fun e => hb (h.ref.inK b e)⟩) hs hle hla).mono fun _ _ ⟨e1, v', X', h1, h2, h3, h4⟩ =>
    ⟨e1, v', X', h.right h1 h2 h3 h4, h2.size, fun b hb hn => h2.block b hb (fun e => hn (by rw [e]; exact h.ref.inP)) (fun e => hn (by rw [e]; exact h.ref.inP)) (fun e => hn (h.ref.inK b e)), h4⟩
theorem Duo.coll (h : Duo w0 w pb mb kv rb v X S R) (n : Int) :
    Calls Try.prog 22 #[.pointer (some ⟨pb, 0, none⟩), .int .i64 n] w fun e w' => e = .returned (.int .i64 (Go.Proofs.Ytnleldogmogkgaa.coll S n).1) ∧ ∃ kv' X', Duo w0 w' pb mb kv' rb v X' (Go.Proofs.Ytnleldogmogkgaa.coll S n).2 R ∧ Out w w' X X' :=
  (coll_calls pb mb kv X S n w h.my.st).mono fun _ _ ⟨e1, kv', h1, h2, h3⟩ =>
    ⟨e1, kv', X, h.left ⟨h1, h.my.be.trans (h2.toBelow h.my.be.size (h.my.ge _ h.my.st.inP) (h.my.ge _ h.my.st.inM) fun b e => h.my.ge b (h.my.st.inK b e)), h.my.ge⟩ h2 (.inl h3) (Xin.refl _ _), h2.size, fun b hb hn => h2.block b hb (fun e => hn (by rw [e]; exact h.my.st.inP)) (fun e => hn (by rw [e]; exact h.my.st.inM)) (fun e => hn (h.my.st.inK b e)), Xin.refl _ _⟩
theorem Duo.rcoll (h : Duo w0 w pb mb kv rb v X S R) (n : Int) :
    Calls Try.prog 43 #[.pointer (some ⟨rb, 0, none⟩), .int .i64 n] w fun e w' => e = .returned (.int .i64 (Go.Proofs.Ytnleldogmogkgaa.coll R n).1) ∧ ∃ v' X', Duo w0 w' pb mb kv rb v' X' S (Go.Proofs.Ytnleldogmogkgaa.coll R n).2 ∧ Out w w' X X' :=
  (rcoll_calls rb v X R n w h.ref).mono fun _ _ ⟨e1, v', X', h1, h2, h3, h4⟩ =>
    ⟨e1, v', X', h.right h1 h2 h3 h4, h2.size, fun b hb hn => h2.block b hb (fun e => hn (by rw [e]; exact h.ref.inP)) (fun e => hn (by rw [e]; exact h.ref.inP)) (fun e => hn (h.ref.inK b e)), h4⟩
/-- The contracts as a region's walk asks for them. -/
theorem Duo.inst2 {m : Int} {l : List Pair} {A : Option Addr} {n c : Nat} {ok : Nat → Prop} (h : Duo w0 w pb mb kv rb v X S R) (hl : Sl tPair w0 ok (.slice A n c) l) (hs : Short l) (hm1 : -9223372036854775808 ≤ m) (hm2 : m ≤ 9223372036854775807) (hle : S.ents.length + l.length ≤ 100000) (hla : S.last < 1000000) (W : World) (hb : Below w.heap.size w W) :
    Calls Try.prog 13 #[.pointer (some ⟨pb, 0, none⟩), .int .i64 m, .slice A n c] W fun e w' => e = .returned (.int .i64 (inst S m l).1) ∧ Hid (∃ kv' X', Duo w0 w' pb mb kv' rb v X' (inst S m l).2 R ∧ Out w w' X X') :=
  ((h.below hb).install ((h.below hb).arg hl) hs hm1 hm2 hle hla).mono fun _ _ ⟨e1, kv', X', h1, h2⟩ => ⟨e1, kv', X', h1, (Out.of_below hb _).trans h2⟩
theorem Duo.rinst2 {m : Int} {l : List Pair} {A : Option Addr} {n c : Nat} {ok : Nat → Prop} (h : Duo w0 w pb mb kv rb v X S R) (hl : Sl tPair w0 ok (.slice A n c) l) (hs : Short l) (hle : R.ents.length + l.length ≤ 100000) (hla : R.last < 1000000) (W : World) (hb : Below w.heap.size w W) :
    Calls Try.prog 42 #[.pointer (some ⟨rb, 0, none⟩), .int .i64 m, .slice A n c] W fun e w' => e = .returned (.int .i64 (inst R m l).1) ∧ Hid (∃ v' X', Duo w0 w' pb mb kv rb v' X' S (inst R m l).2 ∧ Out w w' X X') :=
  ((h.below hb).rinstall ((h.below hb).arg hl) hs hle hla).mono fun _ _ ⟨e1, v', X', h1, h2⟩ => ⟨e1, v', X', h1, (Out.of_below hb _).trans h2⟩
theorem Duo.coll2 (h : Duo w0 w pb mb kv rb v X S R) (n : Int) (W : World) (hb : Below w.heap.size w W) :
    Calls Try.prog 22 #[.pointer (some ⟨pb, 0, none⟩), .int .i64 n] W fun e w' => e = .returned (.int .i64 (Go.Proofs.Ytnleldogmogkgaa.coll S n).1) ∧ Hid (∃ kv' X', Duo w0 w' pb mb kv' rb v X' (Go.Proofs.Ytnleldogmogkgaa.coll S n).2 R ∧ Out w w' X X') :=
  ((h.below hb).coll n).mono fun _ _ ⟨e1, kv', X', h1, h2⟩ => ⟨e1, kv', X', h1, (Out.of_below hb _).trans h2⟩
theorem Duo.rcoll2 (h : Duo w0 w pb mb kv rb v X S R) (n : Int) (W : World) (hb : Below w.heap.size w W) :
    Calls Try.prog 43 #[.pointer (some ⟨rb, 0, none⟩), .int .i64 n] W fun e w' => e = .returned (.int .i64 (Go.Proofs.Ytnleldogmogkgaa.coll R n).1) ∧ Hid (∃ v' X', Duo w0 w' pb mb kv rb v' X' S (Go.Proofs.Ytnleldogmogkgaa.coll R n).2 ∧ Out w w' X X') :=
  ((h.below hb).rcoll n).mono fun _ _ ⟨e1, v', X', h1, h2⟩ => ⟨e1, v', X', h1, (Out.of_below hb _).trans h2⟩
/-- A store and the document's, begun. -/
theorem Duo.start {pz mz : Nat} (h : My w0 w pz mz kv X Sto.new) : Duo w0 (w.alloc (.cells #[.slice none 0 0, .int .i64 0, .int .i64 0] 53)) pz mz kv w.heap.size (.slice none 0 0) (w.heap.size :: X) Sto.new Sto.new := by
  have hb : Below w.heap.size w (w.alloc (.cells #[.slice none 0 0, .int .i64 0, .int .i64 0] 53)) := (Below.refl _ _).alloc (Nat.le_refl _) _
  have hlt := h.st.lt
  refine ⟨⟨h.st.shift hb.size (hb.block _ (hlt _ h.st.inP)) (hb.block _ (hlt _ h.st.inM)) (fun b e => hb.block _ (hlt _ (h.st.inK b e))) (fun b hl _ => hb.block b hl) (fun b hm => List.mem_cons_of_mem _ hm) ?_ ?_, h.be.trans (hb.mono h.be.size), ?_⟩,
    ⟨Blk.new _ _ _, Own.nil _ _ _ _ _, Sto.Ok.new, by simp [Sto.new], by simp [Sto.new], by simp, (by intro b e; cases e), ?_, (by intro e; cases e)⟩, ?_, ?_, ?_, (by intro e; cases e), (by intro e; cases e), (by intro b _ e; cases e)⟩
  · intro b hm
    rcases List.mem_cons.1 hm with rfl | hm
    · simp
    · have := hlt b hm; simp; omega
  · intro b hm
    rcases List.mem_cons.1 hm with rfl | hm
    · exact .inr (Nat.le_refl _)
    · exact .inl hm
  · intro b hm
    rcases List.mem_cons.1 hm with rfl | hm
    · exact h.be.size
    · exact h.ge b hm
  · intro b hm
    rcases List.mem_cons.1 hm with rfl | hm
    · simp
    · have := hlt b hm; simp; omega
  · intro e; have := hlt _ h.st.inP; omega
  · intro e; have := hlt _ h.st.inM; omega
  · intro e; have := hlt _ (h.st.inK _ e); omega
end
def actS (S : Sto) (a : SAct) : Sto := if a.kind = 0 then (inst S (S.last + 1) a.l).2 else if a.kind = 1 then (inst S a.n a.l).2 else if a.kind = 2 then (coll S a.n).2 else S
end Go.Proofs.Ytnleldogmogkgaa
