import Derived.Test.YtidfogcilegloaaW17
import Derived.WalkKit
import Derived.KernelRfl
import Derived.WalkSmall
namespace Go.Proofs.Ytidfogcilegloaa.B
open Go.Op (bytesLess)
open Go.RowKit Go.Op

/-- Keys rise. -/
def Rising (l : List Pair) : Prop := l.Pairwise fun a b => klt a.key b.key = true
def hasK (l : List Pair) (k : ByteArray) : Bool := l.any fun p => p.key.toList == k.toList
def findK (l : List Pair) (k : ByteArray) : Option Pair := l.find? fun p => p.key.toList == k.toList
/-- Where a key stands, or would. -/
def low (l : List Pair) (k : ByteArray) : Nat := (l.takeWhile fun p => klt p.key k).length
/-- A pair over, or in among, the others. -/
def put (l : List Pair) (p : Pair) : List Pair := l.take (low l p.key) ++ p :: l.drop (low l p.key + if hasK l p.key then 1 else 0)

theorem Rising.nil : Rising [] := List.Pairwise.nil
theorem Rising.keys {l : List Pair} (h : Rising l) : (l.map (·.key)).Nodup := by
  rw [List.nodup_iff_pairwise_ne, List.pairwise_map]
  exact h.imp fun hab => klt_ne hab
theorem take_low (l : List Pair) (k : ByteArray) : l.take (low l k) = l.takeWhile fun p => klt p.key k := by
  unfold low; exact (List.prefix_iff_eq_take.1 (List.takeWhile_prefix _)).symm
theorem drop_low (l : List Pair) (k : ByteArray) : l.drop (low l k) = l.dropWhile fun p => klt p.key k := by
  have h := List.takeWhile_append_dropWhile (p := fun p : Pair => klt p.key k) (l := l)
  have h2 := List.take_append_drop (low l k) l
  rw [take_low] at h2
  exact List.append_cancel_left (h2.trans h.symm)
/-- A rising list parts at a key. -/
theorem parts {l : List Pair} (h : Rising l) (k : ByteArray) : ∃ A B, l = A ++ B ∧ A.length = low l k ∧ (∀ p ∈ A, klt p.key k = true) ∧
    ((hasK l k = false ∧ ∀ p ∈ B, klt k p.key = true) ∨ (hasK l k = true ∧ ∃ q C, B = q :: C ∧ q.key = k ∧ ∀ p ∈ C, klt k p.key = true)) := by
  refine ⟨l.take (low l k), l.drop (low l k), (List.take_append_drop _ _).symm, ?_, ?_, ?_⟩
  · rw [List.length_take, Nat.min_eq_left]; exact (List.takeWhile_prefix _).length_le
  · rw [take_low]; intro p hp; exact takeWhile_all (fun p : Pair => klt p.key k) l p hp
  · have hA : ∀ p ∈ l.take (low l k), klt p.key k = true := by rw [take_low]; intro p hp; exact takeWhile_all (fun p : Pair => klt p.key k) l p hp
    have hnA : (l.take (low l k)).any (fun p => p.key.toList == k.toList) = false := by
      rw [List.any_eq_false]
      intro p hp
      rw [beq_key]
      simpa using klt_ne (hA p hp)
    have hh : hasK l k = (l.drop (low l k)).any fun p => p.key.toList == k.toList := by
      unfold hasK
      conv => lhs; rw [← List.take_append_drop (low l k) l]
      rw [List.any_append, hnA, Bool.false_or]
    have hB : Rising (l.drop (low l k)) := h.sublist (List.drop_sublist _ _)
    cases hd : l.drop (low l k) with
    | nil => exact .inl ⟨by rw [hh, hd]; rfl, by simp⟩
    | cons q C =>
      rw [hd] at hB hh
      have hq : klt q.key k = false := by
        rw [drop_low] at hd
        have := List.head?_dropWhile_not (fun p : Pair => klt p.key k) l
        rw [hd] at this
        simpa using this
      have hC : ∀ p ∈ C, klt q.key p.key = true := fun p hp => (List.pairwise_cons.1 hB).1 p hp
      rcases klt_cases q.key k with ⟨h1, _⟩ | ⟨rfl, _⟩ | ⟨_, h1, hne⟩
      · rw [h1] at hq; cases hq
      · exact .inr ⟨by rw [hh]; simp, q, C, rfl, rfl, hC⟩
      · have hall : ∀ p ∈ q :: C, klt k p.key = true := by
          intro p hp
          rcases List.mem_cons.1 hp with rfl | hp
          · exact h1
          · exact klt_trans h1 (hC p hp)
        refine .inl ⟨?_, hall⟩
        rw [hh, List.any_eq_false]
        intro p hp
        rw [beq_key]
        simpa using (klt_ne (hall p hp)).symm
theorem put_parts {l : List Pair} (h : Rising l) (p : Pair) : ∃ A C, put l p = A ++ p :: C ∧ (∀ q ∈ A, klt q.key p.key = true) ∧ (∀ q ∈ C, klt p.key q.key = true) ∧ Rising A ∧ Rising C ∧ (∀ q, q ∈ l ↔ (q ∈ A ∨ q ∈ C) ∨ (q.key = p.key ∧ q ∈ l)) ∧
    A.length + C.length + (if hasK l p.key then 1 else 0) = l.length := by
  obtain ⟨A, B, rfl, hA, h1, h2⟩ := parts h p.key
  have hr := List.pairwise_append.1 h
  have e1 : (A ++ B).take (low (A ++ B) p.key) = A := by rw [← hA]; simp
  have e2 : ∀ j, (A ++ B).drop (low (A ++ B) p.key + j) = B.drop j := by intro j; rw [← hA, List.drop_append]; simp
  rcases h2 with ⟨h2, h3⟩ | ⟨h2, q, C, rfl, h3, h4⟩
  · refine ⟨A, B, by rw [put, e1, h2, e2]; simp, h1, h3, hr.1, hr.2.1, fun q => ?_, by rw [h2]; simp⟩
    constructor
    · intro hq; exact .inl (List.mem_append.1 hq)
    · rintro (hq | hq)
      · exact List.mem_append.2 hq
      · exact hq.2
  · refine ⟨A, C, by rw [put, e1, h2, e2]; simp, h1, h4, hr.1, (List.pairwise_cons.1 hr.2.1).2, fun x => ?_, by rw [h2]; simp; omega⟩
    constructor
    · intro hx
      rcases List.mem_append.1 hx with hx | hx
      · exact .inl (.inl hx)
      · rcases List.mem_cons.1 hx with rfl | hx
        · exact .inr ⟨h3, by simp⟩
        · exact .inl (.inr hx)
    · rintro ((hx | hx) | hx)
      · exact List.mem_append_left _ hx
      · exact List.mem_append_right _ (List.mem_cons_of_mem _ hx)
      · exact hx.2
theorem put_rising {l : List Pair} (h : Rising l) (p : Pair) : Rising (put l p) := by
  obtain ⟨A, C, e, h1, h2, h3, h4, _⟩ := put_parts h p
  rw [e]
  refine List.pairwise_append.2 ⟨h3, List.pairwise_cons.2 ⟨h2, h4⟩, fun a ha b hb => ?_⟩
  rcases List.mem_cons.1 hb with rfl | hb
  · exact h1 a ha
  · exact klt_trans (h1 a ha) (h2 b hb)
theorem put_length {l : List Pair} (h : Rising l) (p : Pair) : (put l p).length = if hasK l p.key then l.length else l.length + 1 := by
  obtain ⟨A, C, e, _, _, _, _, _, hn⟩ := put_parts h p
  rw [e, List.length_append, List.length_cons]
  by_cases hh : hasK l p.key = true
  · rw [if_pos hh] at hn ⊢; omega
  · rw [if_neg hh] at hn ⊢; omega
theorem mem_put {l : List Pair} (h : Rising l) (p q : Pair) : q ∈ put l p ↔ q = p ∨ (q ∈ l ∧ q.key ≠ p.key) := by
  obtain ⟨A, C, e, h1, h2, _, _, h5, _⟩ := put_parts h p
  rw [e, List.mem_append, List.mem_cons, h5 q]
  constructor
  · rintro (hq | rfl | hq)
    · exact .inr ⟨.inl (.inl hq), klt_ne (h1 q hq)⟩
    · exact .inl rfl
    · exact .inr ⟨.inl (.inr hq), (klt_ne (h2 q hq)).symm⟩
  · rintro (rfl | ⟨(hq | hq) | hq, hne⟩)
    · exact .inr (.inl rfl)
    · exact .inl hq
    · exact .inr (.inr hq)
    · exact absurd hq.1 hne
theorem findK_some {l : List Pair} {k : ByteArray} {p : Pair} (h : findK l k = some p) : p ∈ l ∧ p.key = k := by
  refine ⟨List.mem_of_find?_eq_some h, ?_⟩
  have := List.find?_some h
  rw [beq_key] at this
  simpa using this
theorem findK_mem {l : List Pair} (hr : Rising l) {p : Pair} (h : p ∈ l) : findK l p.key = some p := by
  induction l with
  | nil => cases h
  | cons q l ih =>
    rw [findK, List.find?_cons, beq_key]
    have hr' := List.pairwise_cons.1 hr
    rcases List.mem_cons.1 h with rfl | h
    · simp
    · have := klt_ne (hr'.1 p h)
      rw [decide_eq_false this]
      exact ih hr'.2 h
theorem findK_none {l : List Pair} {k : ByteArray} : findK l k = none ↔ ∀ p ∈ l, p.key ≠ k := by
  rw [findK, List.find?_eq_none]
  exact ⟨fun h p hp => by have := h p hp; rw [beq_key] at this; simpa using this, fun h p hp => by rw [beq_key]; simpa using h p hp⟩
theorem hasK_find (l : List Pair) (k : ByteArray) : hasK l k = (findK l k).isSome := by
  unfold hasK findK
  rw [Bool.eq_iff_iff, List.find?_isSome, List.any_eq_true]
theorem find_put {l : List Pair} (h : Rising l) (p : Pair) (k : ByteArray) : findK (put l p) k = if k = p.key then some p else findK l k := by
  have hr := put_rising h p
  by_cases e : k = p.key
  · subst e; rw [if_pos rfl]; exact findK_mem hr ((mem_put h p p).2 (.inl rfl))
  · rw [if_neg e]
    cases hq : findK l k with
    | none =>
      rw [findK_none] at hq ⊢
      intro q hq'
      rcases (mem_put h p q).1 hq' with rfl | ⟨h1, _⟩
      · exact fun h => e h.symm
      · exact hq q h1
    | some q =>
      obtain ⟨h1, rfl⟩ := findK_some hq
      exact findK_mem hr ((mem_put h p q).2 (.inr ⟨h1, e⟩))
/-- Two rising lists of the same pairs are one. -/
theorem rising_ext {l m : List Pair} (hl : Rising l) (hm : Rising m) (h : ∀ p, p ∈ l ↔ p ∈ m) : l = m := by
  induction l generalizing m with
  | nil =>
    cases m with
    | nil => rfl
    | cons q m => exact absurd ((h q).2 (by simp)) (by simp)
  | cons p l ih =>
    cases m with
    | nil => exact absurd ((h p).1 (by simp)) (by simp)
    | cons q m =>
      have hl' := List.pairwise_cons.1 hl
      have hm' := List.pairwise_cons.1 hm
      have hpq : p = q := by
        rcases List.mem_cons.1 ((h p).1 (by simp)) with e | h1
        · exact e
        · rcases List.mem_cons.1 ((h q).2 (by simp)) with e | h2
          · exact e.symm
          · have := klt_asymm (hm'.1 p h1)
            rw [hl'.1 q h2] at this; cases this
      subst hpq
      rw [ih hl'.2 hm'.2 fun x => ?_]
      constructor
      · intro hx
        rcases List.mem_cons.1 ((h x).1 (List.mem_cons_of_mem _ hx)) with rfl | h1
        · have := hl'.1 x hx; rw [klt_irrefl] at this; cases this
        · exact h1
      · intro hx
        rcases List.mem_cons.1 ((h x).2 (List.mem_cons_of_mem _ hx)) with rfl | h1
        · have := hm'.1 x hx; rw [klt_irrefl] at this; cases this
        · exact h1

def merge : List Pair → List Pair → List Pair
  | [], w => w
  | p :: l, [] => p :: l
  | p :: l, q :: w => if klt p.key q.key then p :: merge l (q :: w) else if p.key.toList == q.key.toList then q :: merge l w else q :: merge (p :: l) w
termination_by l w => l.length + w.length
def overlay (l w : List Pair) : List Pair := (merge l w).filter fun p => !p.dead
theorem merge_nil (l : List Pair) : merge l [] = l := by cases l <;> simp [merge]
theorem nil_merge (l : List Pair) : merge [] l = l := by simp [merge]
theorem merge_lt {p q : Pair} {l w : List Pair} (h : klt p.key q.key = true) : merge (p :: l) (q :: w) = p :: merge l (q :: w) := by rw [merge, if_pos h]
theorem merge_eq {p q : Pair} {l w : List Pair} (h : klt p.key q.key = false) (k : (p.key.toList == q.key.toList) = true) : merge (p :: l) (q :: w) = q :: merge l w := by rw [merge, if_neg (by simp [h]), if_pos k]
theorem merge_gt {p q : Pair} {l w : List Pair} (h : klt p.key q.key = false) (k : (p.key.toList == q.key.toList) = false) : merge (p :: l) (q :: w) = q :: merge (p :: l) w := by rw [merge, if_neg (by simp [h]), if_neg (by simp [k])]
theorem merge_length (l w : List Pair) : (merge l w).length ≤ l.length + w.length := by
  fun_induction merge l w with
  | case1 w => simp
  | case2 p l => simp
  | case3 p l q w h ih => simp at ih ⊢; omega
  | case4 p l q w h k ih => simp at ih ⊢; omega
  | case5 p l q w h k ih => simp at ih ⊢; omega

def tyv (p : Pair) : Value := .agg #[.string p.key, .string p.val, .bool p.dead]
section
variable {w : World} {ok : Nat → Prop} {A : Option Addr} {n cap : Nat}
theorem sl_pair {l : List Pair} (h : Sl tPair w ok (.slice A n cap) l) {i : Nat} {x : Pair} (hi : l[i]? = some x) :
    ∃ b off, A = some ⟨b, off, none⟩ ∧ b < w.heap.size ∧ w.cell? ⟨b, off + i * 3, none⟩ = some (.string x.key) ∧ w.cell? ⟨b, off + i * 3 + 1, none⟩ = some (.string x.val) ∧ w.cell? ⟨b, off + i * 3 + 2, none⟩ = some (.bool x.dead) := by
  obtain ⟨b, off, c, e, hb, hk, hc⟩ := h.at (by decide) hi
  obtain rfl : c = x.enc := hk
  exact ⟨b, off, e, World.block_lt_of_cell? w _ (hc 0 _ rfl), hc 0 _ rfl, hc 1 _ rfl, hc 2 _ rfl⟩
end
theorem some_at {α : Type} {l : List α} {i : Nat} (h : i < l.length) : ∃ x, l[i]? = some x := ⟨l[i], List.getElem?_eq_getElem h⟩

def cmpK (a b : ByteArray) : Int := if klt a b then -1 else if klt b a then 1 else 0
set_option maxRecDepth 100000 in
theorem isnan_calls (a : ByteArray) (w : World) : Calls Try.prog 69 #[.string a] w fun e w' => e = .returned (.bool false) ∧ w = w' := by
  go_enter Try.func69, Try.ntmps69
  go_wp2
  go_ret
  exact ⟨ret_bool (by simp), rfl⟩
set_option maxRecDepth 100000 in
set_option maxHeartbeats 1000000 in
theorem cmp_calls (a b : ByteArray) (w : World) : Calls Try.prog 67 #[.string a, .string b] w fun e w' => e = .returned (.int .i64 (cmpK a b)) ∧ w = w' := by
  have HN := fun a w => isnan_calls a w
  rcases klt_cases a b with ⟨h1, h2, h3⟩ | ⟨h1, h2, h3⟩ | ⟨h1, h2, h3⟩
  · have hc : cmpK a b = -1 := by unfold cmpK; rw [h1]; rfl
    have HC := Lib.hid hc
    unfold klt at h1 h2
    clear hc h3
    go_enter Try.func67, Try.ntmps67
    go_wp2_with (go_at_call 69; refine (isnan_calls _ _).mono ?_; rintro e w' ⟨rfl, rfl⟩)
    go_ret
    exact ⟨ret_int HC.out.symm, rfl⟩
  · subst h1
    have hc : cmpK a a = 0 := by unfold cmpK; rw [h2]; rfl
    have HC := Lib.hid hc
    unfold klt at h2
    clear hc h3
    go_enter Try.func67, Try.ntmps67
    go_wp2_with (go_at_call 69; refine (isnan_calls _ _).mono ?_; rintro e w' ⟨rfl, rfl⟩)
    go_ret
    exact ⟨ret_int HC.out.symm, rfl⟩
  · have hc : cmpK a b = 1 := by unfold cmpK; rw [h1, h2]; rfl
    have HC := Lib.hid hc
    unfold klt at h1 h2
    have h4 : (a.toList == b.toList) = false := by rw [beq_key]; simpa using h3
    clear hc h3
    go_enter Try.func67, Try.ntmps67
    go_wp2_with (go_at_call 69; refine (isnan_calls _ _).mono ?_; rintro e w' ⟨rfl, rfl⟩)
    go_ret
    exact ⟨ret_int HC.out.symm, rfl⟩

def kv (p : Pair) : ByteArray × Value := (p.key, tyv p)
structure Buf (w : World) (pb mb : Nat) (l : List Pair) : Prop where
  blk : Blk w pb #[.map (some mb)] 104
  map : ∃ V, Mp KS w mb V ∧ V.Perm (l.map kv)
  rising : Rising l
  len : l.length ≤ 64
theorem Buf.ne {w : World} {pb mb : Nat} {l : List Pair} (h : Buf w pb mb l) : pb ≠ mb := by
  rintro rfl
  obtain ⟨V, ⟨D, ⟨es, cl, h1, _⟩, _⟩, _⟩ := h.map
  have h2 := h.blk
  unfold Blk at h2
  rw [h1] at h2
  cases h2
theorem Buf.kept {w w' : World} {pb mb : Nat} {l : List Pair} {row : Option Nat} (h : Buf w pb mb l) (hg : w.grownBy w' row) (h1 : row ≠ some pb) (h2 : row ≠ some mb) : Buf w' pb mb l := by
  obtain ⟨V, hV, hp⟩ := h.map
  exact ⟨(hg.block pb h.blk.lt (fun e => h1 e.symm)).trans h.blk, ⟨V, hV.kept hg (fun e => h2 e.symm), hp⟩, h.rising, h.len⟩
theorem Buf.below {w w' : World} {pb mb : Nat} {l : List Pair} (h : Buf w pb mb l) (hb : Below w.heap.size w w') : Buf w' pb mb l :=
  h.kept (row := none) ⟨hb.os, hb.tape, hb.output, hb.size, fun k hk _ => hb.block k hk⟩ (by simp) (by simp)
theorem look_kv {V : List (ByteArray × Value)} {l : List Pair} (hp : V.Perm (l.map kv)) (hr : Rising l) (k : ByteArray) : look V k = (findK l k).map tyv := by
  have hn : ((l.map kv).map (·.1)).Nodup := by
    have := hr.keys
    rw [List.map_map]; exact this
  rw [look_perm hp.symm.symm ((hp.map _).nodup_iff.2 hn)]
  cases h : findK l k with
  | none =>
    rw [findK_none] at h
    rw [Option.map_none, look_none]
    intro p hp'
    obtain ⟨q, hq, rfl⟩ := List.mem_map.1 hp'
    exact h q hq
  | some p =>
    obtain ⟨h1, rfl⟩ := findK_some h
    exact look_of_mem hn (List.mem_map.2 ⟨p, h1, rfl⟩)

set_option maxRecDepth 100000 in
theorem new_calls (w : World) : Calls Try.prog 28 #[] w fun e w' => e = .returned (.pointer (some ⟨w.heap.size + 1, 0, none⟩)) ∧ Buf w' (w.heap.size + 1) w.heap.size [] ∧ Below w.heap.size w w' := by
  have hmm := @run_makeMap Try.prog
  have hM : Buf ((w.alloc (.map #[] 0)).alloc (.cells #[.map (some w.heap.size)] 104)) (w.heap.size + 1) w.heap.size [] :=
    ⟨by have := Blk.new (w.alloc (.map #[] 0)) #[.map (some w.heap.size)] 104; simpa using this, ⟨[], (Mp.made KS w).below ((Below.refl _ _).alloc (by simp) _), .refl _⟩, Rising.nil, by simp⟩
  have HM := Lib.hid hM
  have HB := Lib.hid (((Below.refl w.heap.size w).alloc (Nat.le_refl _) (.map #[] 0)).alloc (by simp) (.cells #[.map (some w.heap.size)] 104))
  clear hM
  go_enter Try.func28, Try.ntmps28
  go_wp2
  go_ret
  exact ⟨rfl, HM.out, HB.out⟩

set_option maxRecDepth 100000 in
theorem made_calls (pb mb : Nat) (w : World) (hb : Blk w pb #[.map (some mb)] 104) : Calls Try.prog 51 #[.pointer (some ⟨pb, 0, none⟩)] w fun e w' => e = .returned (.bool true) ∧ w = w' := by
  have hc := hb.cell 0
  clear hb
  have hx : ∀ W, (binOp .neq 102 (.map (some mb)) (.map none)).run Try.prog W = .ok (.bool true) W := fun _ => by kernel_rfl
  go_enter Try.func51, Try.ntmps51
  go_wp2
  go_ret
  exact ⟨rfl, rfl⟩

theorem zero52 (w : World) : (zeroValue 68).run Try.prog w = .ok (tyv Pair.zero) w := by kernel_rfl
theorem info52 : (Try.prog.info? 68).map (fun i => (i.zero, i.size, i.bytes)) = some (some (.agg #[.string ⟨#[]⟩, .string ⟨#[]⟩, .bool false]), 3, 40) := by kernel_rfl
theorem look2_run {W : World} {mb : Nat} {V : List (ByteArray × Value)} (h : Mp KS W mb V) {z : Value} (hz : (zeroValue 68).run Try.prog W = .ok z W) {k : ByteArray} (hk : k.size ≤ maxLen) {u : Value} {c : Bool} (hu : (look V k).getD z = u) (hc : (look V k).isSome = c) :
    (Instr.lookup 102 (.map (some mb)) (.string k) true).run Try.prog W = .ok (.tuple #[u, .bool c]) W := by
  have := h.look2 Try.underlying102 hz hk
  rw [hu, hc] at this
  exact this

set_option maxRecDepth 100000 in
set_option maxHeartbeats 1000000 in
theorem get_calls_m (pb mb : Nat) (l : List Pair) (k : ByteArray) (w : World) (h : Buf w pb mb l) (hk : k.size ≤ maxLen) :
    Calls Try.prog 33 #[.pointer (some ⟨pb, 0, none⟩), .string k] w fun e w' => e = .returned (.tuple #[tyv ((findK l k).getD Pair.zero), .bool (findK l k).isSome]) ∧ Below w.heap.size w w' := by
  obtain ⟨V, hV, hp⟩ := h.map
  obtain ⟨x, hx⟩ : ∃ x, (findK l k).getD Pair.zero = x := ⟨_, rfl⟩
  obtain ⟨c, hc⟩ : ∃ c, (findK l k).isSome = c := ⟨_, rfl⟩
  have HU : Hid ((look V k).getD (tyv Pair.zero) = .agg #[.string x.key, .string x.val, .bool x.dead]) := by
    show _ = tyv x
    rw [look_kv hp h.rising, ← hx]; cases findK l k <;> rfl
  have HC : Hid ((look V k).isSome = c) := by
    show _ = c
    rw [look_kv hp h.rising, ← hc]; cases findK l k <;> rfl
  rw [hx, hc]
  have hb1 : Blk (w.alloc (.cells #[.string ⟨#[]⟩, .string ⟨#[]⟩, .bool false] 68)) pb #[.map (some mb)] 104 := h.blk.alloc _
  have c0 := hb1.cell 0
  have HB := Lib.hid hb1
  have HV : Hid (Mp KS (w.alloc (.cells #[.string ⟨#[]⟩, .string ⟨#[]⟩, .bool false] 68)) mb V) := hV.below ((Below.refl _ _).alloc (Nat.le_refl _) _)
  have HX := Lib.hid (((Below.refl w.heap.size w).alloc (Nat.le_refl _) (.cells #[.string ⟨#[]⟩, .string ⟨#[]⟩, .bool false] 68)).alloc (by simp) (.cells #[.string x.key, .string x.val, .bool x.dead] 68))
  have hrun := look2_run (HV.out) (zero52 _) hk HU.out HC.out
  clear h hV hp hx hc hb1
  go_enter Try.func33, Try.ntmps33
  go_wp2_with (go_at_call 51; refine (made_calls pb mb _ HB.out).mono ?_; rintro e w' ⟨rfl, rfl⟩)
  go_wp2
  exact bodyPost_ret (v := .tuple #[tyv x, .bool c]) (by simp [results, Try.results33, go_sem, tyv]) rfl ⟨rfl, ((Below.refl w.heap.size w).alloc (Nat.le_refl _) _).alloc (by simp) _⟩

theorem get_calls (pb mb : Nat) (l : List Pair) (k : ByteArray) (w : World) (h : Buf w pb mb l) (hk : k.size ≤ 140737488351232) :
    Calls Try.prog 33 #[.pointer (some ⟨pb, 0, none⟩), .string k] w fun e w' => e = .returned (.tuple #[tyv ((findK l k).getD Pair.zero), .bool (findK l k).isSome]) ∧ Below w.heap.size w w' := get_calls_m pb mb l k w h (max_of hk)
theorem Buf.key_ok {w : World} {pb mb : Nat} {l : List Pair} (h : Buf w pb mb l) : ∀ p ∈ l, p.key.size ≤ maxLen := by
  obtain ⟨V, hV, hp⟩ := h.map
  intro p hp'
  exact hV.oks (kv p) (hp.mem_iff.2 (List.mem_map.2 ⟨p, hp', rfl⟩))

def rput (l : List Pair) (p : Pair) : Int × List Pair :=
  if p.key.size < 1 ∨ 64 < p.key.size then (2, l) else if 256 < p.val.size then (12, l) else if hasK l p.key then (0, put l p) else if 64 ≤ l.length then (13, l) else (0, put l p)

theorem perm_put {V : List (ByteArray × Value)} {l : List Pair} (hn : (V.map (·.1)).Nodup) (hp : V.Perm (l.map kv)) (hr : Rising l) (p : Pair) : (setV V p.key (tyv p)).Perm ((put l p).map kv) := by
  have hn' : (((put l p).map kv).map (·.1)).Nodup := by rw [List.map_map]; exact (put_rising hr p).keys
  have h1 : (setV V p.key (tyv p)).Nodup := List.Pairwise.of_map (·.1) (fun _ _ h e => h (by rw [e])) (setV_nodup hn p.key (tyv p))
  have h2 : ((put l p).map kv).Nodup := List.Pairwise.of_map (·.1) (fun _ _ h e => h (by rw [e])) hn'
  rw [List.perm_ext_iff_of_nodup h1 h2]
  rintro ⟨k, v⟩
  have e1 : (k, v) ∈ setV V p.key (tyv p) ↔ look (setV V p.key (tyv p)) k = some v := ⟨look_of_mem (setV_nodup hn _ _), look_mem⟩
  have e2 : (k, v) ∈ (put l p).map kv ↔ look ((put l p).map kv) k = some v := ⟨look_of_mem hn', look_mem⟩
  rw [e1, e2, look_setV hn, look_kv (List.Perm.refl _) (put_rising hr p), find_put hr, look_kv hp hr]
  by_cases e : k = p.key <;> simp [e]
theorem empty_iff (k : ByteArray) : k.size < 1 ↔ k.toList = [] := by
  rw [ByteArray.toList_eq, Array.toList_eq_nil_iff, ← Array.size_eq_zero_iff]
  show k.data.size < 1 ↔ _
  omega

set_option maxRecDepth 100000 in
/-- What a refusal leaves. -/
theorem write_no (pb mb : Nat) (l : List Pair) (p : Pair) (w : World) (h : Buf w pb mb l) (hk : p.key.size ≤ 140737488351232) (n : Int)
    (hn : (p.key.toList = [] ∧ n = 2) ∨ (p.key.toList ≠ [] ∧ 64 < p.key.size ∧ n = 2) ∨ (p.key.toList ≠ [] ∧ p.key.size ≤ 64 ∧ 256 < p.val.size ∧ n = 12) ∨ (p.key.toList ≠ [] ∧ p.key.size ≤ 64 ∧ p.val.size ≤ 256 ∧ hasK l p.key = false ∧ 64 ≤ l.length ∧ n = 13)) :
    Calls Try.prog 46 #[.pointer (some ⟨pb, 0, none⟩), .agg #[.string p.key, .string p.val, .bool p.dead]] w fun e w' => e = .returned (.int .i64 n) ∧ Below w.heap.size w w' := by
  obtain ⟨V, hV, hp⟩ := h.map
  obtain ⟨x, hx⟩ : ∃ x, (findK l p.key).getD Pair.zero = x := ⟨_, rfl⟩
  have HU : Hid ((look V p.key).getD (tyv Pair.zero) = .agg #[.string x.key, .string x.val, .bool x.dead]) := by
    show _ = tyv x
    rw [look_kv hp h.rising, ← hx]; cases findK l p.key <;> rfl
  have HC : Hid ((look V p.key).isSome = hasK l p.key) := by
    show _ = _
    rw [look_kv hp h.rising, hasK_find]; cases findK l p.key <;> rfl
  obtain ⟨wa, hwa⟩ : ∃ wa, w.alloc (.cells #[.string p.key, .string p.val, .bool p.dead] 68) = wa := ⟨_, rfl⟩
  have hsa : wa.heap.size = w.heap.size + 1 := by rw [← hwa]; simp
  have hba : Below w.heap.size w wa := by rw [← hwa]; exact (Below.refl _ _).alloc (Nat.le_refl _) _
  have hPa : Blk wa w.heap.size #[.string p.key, .string p.val, .bool p.dead] 68 := by rw [← hwa]; exact Blk.new _ _ _
  have hBa : Blk wa pb #[.map (some mb)] 104 := h.blk.below hba h.blk.lt
  have hVa : Mp KS wa mb V := hV.below hba
  have hr1 := look2_run (W := wa.drew) hVa (zero52 _) (max_of hk) HU.out HC.out
  have hVb : Mp KS (wa.alloc (.cells #[.string ⟨#[]⟩, .string ⟨#[]⟩, .bool false] 68)) mb V := hVa.below ((Below.refl _ _).alloc (Nat.le_refl _) _)
  have hr2 := look2_run (W := (wa.alloc (.cells #[.string ⟨#[]⟩, .string ⟨#[]⟩, .bool false] 68)).drew) hVb (zero52 _) (max_of hk) HU.out HC.out
  have c0 := hBa.cell 0
  have p0 := hPa.cell 0
  have d0 := (hBa.alloc (.cells #[.string ⟨#[]⟩, .string ⟨#[]⟩, .bool false] 68)).cell 0
  have d1 := (hPa.alloc (.cells #[.string ⟨#[]⟩, .string ⟨#[]⟩, .bool false] 68)).cell 0
  have p1 := hPa.cell 1
  have p2 := hPa.cell 2
  obtain ⟨wb, hwb⟩ : ∃ wb, (wa.alloc (.cells #[.string x.key, .string x.val, .bool x.dead] 68)).drew = wb := ⟨_, rfl⟩
  have hsb : wb.heap.size = w.heap.size + 2 := by rw [← hwb]; show (wa.alloc _).heap.size = _; simp [hsa]
  have hbb : Below w.heap.size w wb := by rw [← hwb]; exact (hba.alloc (by omega) _).drew
  have hPb : Blk wb w.heap.size #[.string p.key, .string p.val, .bool p.dead] 68 := by rw [← hwb]; exact hPa.alloc _
  have hBb : Blk wb pb #[.map (some mb)] 104 := h.blk.below hbb h.blk.lt
  have hVb' : Mp KS wb mb V := hV.below hbb
  have hln := hVb'.len Try.underlying102
  rw [show V.length = l.length by rw [hp.length_eq, List.length_map]] at hln
  have HB := Lib.hid hbb
  have e0 := hBb.cell 0
  have e1 := hPb.cell 0
  have e2 := hPb.cell 1
  have e3 := hPb.cell 2
  go_enter Try.func46, Try.ntmps46
  clear hV hp h hx hPa hVa hVb hba hbb hPb hBb hVb'
  go_wp2_with fail
  clear hwa
  refine (made_calls pb mb _ hBa).mono ?_
  rintro e w' ⟨rfl, rfl⟩
  go_wp2
  go_region
  all_goals
    clear hr1 hr2 c0 p0 p1 p2 d0 d1
    rcases hn with ⟨hn1, rfl⟩ | ⟨hn1, hn2, rfl⟩ | ⟨hn1, hn2, hn3, rfl⟩ | ⟨hn1, hn2, hn3, hn4, hn5, rfl⟩
    · go_wp2
      go_ret
      exact ⟨rfl, HB.out⟩
    · go_wp2
      go_ret
      exact ⟨rfl, HB.out⟩
    · have hne : p.key.toList.isEmpty = false := by simpa using hn1
      go_wp2
      go_ret
      exact ⟨rfl, HB.out⟩
    · have hne : p.key.toList.isEmpty = false := by simpa using hn1
      go_wp2
      go_ret
      exact ⟨rfl, HB.out⟩
set_option maxRecDepth 100000 in
set_option maxHeartbeats 2000000 in
theorem write_ok (pb mb : Nat) (l : List Pair) (p : Pair) (w : World) (h : Buf w pb mb l) (hk : p.key.size ≤ 140737488351232) (hne : p.key.toList ≠ []) (h64 : p.key.size ≤ 64) (h256 : p.val.size ≤ 256) (hfew : hasK l p.key = false → l.length < 64) :
    Calls Try.prog 46 #[.pointer (some ⟨pb, 0, none⟩), .agg #[.string p.key, .string p.val, .bool p.dead]] w fun e w' => e = .returned (.int .i64 0) ∧ Buf w' pb mb (put l p) ∧ w.grownBy w' (some mb) := by
  obtain ⟨V, hV, hp⟩ := h.map
  obtain ⟨x, hx⟩ : ∃ x, (findK l p.key).getD Pair.zero = x := ⟨_, rfl⟩
  have HU : Hid ((look V p.key).getD (tyv Pair.zero) = .agg #[.string x.key, .string x.val, .bool x.dead]) := by
    show _ = tyv x
    rw [look_kv hp h.rising, ← hx]; cases findK l p.key <;> rfl
  have HC : Hid ((look V p.key).isSome = hasK l p.key) := by
    show _ = _
    rw [look_kv hp h.rising, hasK_find]; cases findK l p.key <;> rfl
  obtain ⟨wa, hwa⟩ : ∃ wa, w.alloc (.cells #[.string p.key, .string p.val, .bool p.dead] 68) = wa := ⟨_, rfl⟩
  have hsa : wa.heap.size = w.heap.size + 1 := by rw [← hwa]; simp
  have hba : Below w.heap.size w wa := by rw [← hwa]; exact (Below.refl _ _).alloc (Nat.le_refl _) _
  have hPa : Blk wa w.heap.size #[.string p.key, .string p.val, .bool p.dead] 68 := by rw [← hwa]; exact Blk.new _ _ _
  have hBa : Blk wa pb #[.map (some mb)] 104 := h.blk.below hba h.blk.lt
  have hVa : Mp KS wa mb V := hV.below hba
  have hr1 := look2_run (W := wa.drew) hVa (zero52 _) (max_of hk) HU.out HC.out
  have hVb : Mp KS (wa.alloc (.cells #[.string ⟨#[]⟩, .string ⟨#[]⟩, .bool false] 68)) mb V := hVa.below ((Below.refl _ _).alloc (Nat.le_refl _) _)
  have hr2 := look2_run (W := (wa.alloc (.cells #[.string ⟨#[]⟩, .string ⟨#[]⟩, .bool false] 68)).drew) hVb (zero52 _) (max_of hk) HU.out HC.out
  have c0 := hBa.cell 0
  have p0 := hPa.cell 0
  have d0 := (hBa.alloc (.cells #[.string ⟨#[]⟩, .string ⟨#[]⟩, .bool false] 68)).cell 0
  have d1 := (hPa.alloc (.cells #[.string ⟨#[]⟩, .string ⟨#[]⟩, .bool false] 68)).cell 0
  have p1 := hPa.cell 1
  have p2 := hPa.cell 2
  obtain ⟨wb, hwb⟩ : ∃ wb, (wa.alloc (.cells #[.string x.key, .string x.val, .bool x.dead] 68)).drew = wb := ⟨_, rfl⟩
  have hsb : wb.heap.size = w.heap.size + 2 := by rw [← hwb]; show (wa.alloc _).heap.size = _; simp [hsa]
  have hbb : Below w.heap.size w wb := by rw [← hwb]; exact (hba.alloc (by omega) _).drew
  have hPb : Blk wb w.heap.size #[.string p.key, .string p.val, .bool p.dead] 68 := by rw [← hwb]; exact hPa.alloc _
  have hBb : Blk wb pb #[.map (some mb)] 104 := h.blk.below hbb h.blk.lt
  have hVb' : Mp KS wb mb V := hV.below hbb
  have hln := hVb'.len Try.underlying102
  rw [show V.length = l.length by rw [hp.length_eq, List.length_map]] at hln
  have e0 := hBb.cell 0
  have e1 := hPb.cell 0
  have e2 := hPb.cell 1
  have e3 := hPb.cell 2
  have hVd : Mp KS wb.drew mb V := hVb'
  obtain ⟨wc, hput, hMc, hgc, hsc⟩ := hVd.put Try.underlying102 (by rw [hp.length_eq, List.length_map]; have := h.len; unfold maxLen; omega) (k := p.key) (max_of hk) (tyv p)
  have hput' : (Instr.mapUpdate 102 (.map (some mb)) (.string p.key) (.agg #[.string p.key, .string p.val, .bool p.dead])).run Try.prog wb.drew = .ok () wc := hput
  have hgw : w.grownBy wc (some mb) := (World.grownBy.but ⟨hbb.os, hbb.tape, hbb.output, hbb.size, fun k hk _ => hbb.block k hk⟩ _).trans ⟨hgc.os, hgc.tape, hgc.output, hgc.size, hgc.block⟩
  have HR : Hid (Buf wc pb mb (put l p)) := ⟨(hgc.block pb hBb.lt (fun e => h.ne (by injection e))).trans hBb, ⟨_, hMc, perm_put hV.nodup hp h.rising p⟩, put_rising h.rising p, by
    rw [put_length h.rising]; have := h.len; split <;> rename_i q <;> first | omega | (have := hfew (by simpa using q); omega)⟩
  have HG := Lib.hid hgw
  have hne' : p.key.toList.isEmpty = false := by simpa using hne
  have hfe : hasK l p.key = true ∨ (hasK l p.key = false ∧ (l.length : Int) < 64) := by
    cases hq : hasK l p.key with
    | true => exact .inl rfl
    | false => exact .inr ⟨rfl, by have := hfew hq; omega⟩
  have HFE := Lib.hid hfe
  go_enter Try.func46, Try.ntmps46
  clear hV hp h hx hput hMc hgc hVd hgw hfew hfe hPa hVa hVb hba hbb hPb hBb hVb'
  go_wp2_with fail
  clear hwa
  refine (made_calls pb mb _ hBa).mono ?_
  rintro e w' ⟨rfl, rfl⟩
  go_wp2
  go_region
  all_goals
    clear hr1 hr2 c0 p0 p1 p2 d0 d1
    rcases HFE.out with hfe | ⟨hfe, hfl⟩
    · go_wp2
      go_region
      all_goals
        go_wp2
        go_ret
        exact ⟨rfl, HR.out, HG.out⟩
    · go_wp2
      go_region
      all_goals
        go_wp2
        go_ret
        exact ⟨rfl, HR.out, HG.out⟩

theorem grown_of {w w' : World} (hb : Below w.heap.size w w') (row : Option Nat) : w.grownBy w' row := World.grownBy.but ⟨hb.os, hb.tape, hb.output, hb.size, fun k hk _ => hb.block k hk⟩ _
theorem write_calls (pb mb : Nat) (l : List Pair) (p : Pair) (w : World) (h : Buf w pb mb l) (hk : p.key.size ≤ 140737488351232) :
    Calls Try.prog 46 #[.pointer (some ⟨pb, 0, none⟩), .agg #[.string p.key, .string p.val, .bool p.dead]] w fun e w' => e = .returned (.int .i64 (rput l p).1) ∧ Buf w' pb mb (rput l p).2 ∧ w.grownBy w' (some mb) := by
  have hno : ∀ n : Int, rput l p = (n, l) → ((p.key.toList = [] ∧ n = 2) ∨ (p.key.toList ≠ [] ∧ 64 < p.key.size ∧ n = 2) ∨ (p.key.toList ≠ [] ∧ p.key.size ≤ 64 ∧ 256 < p.val.size ∧ n = 12) ∨ (p.key.toList ≠ [] ∧ p.key.size ≤ 64 ∧ p.val.size ≤ 256 ∧ hasK l p.key = false ∧ 64 ≤ l.length ∧ n = 13)) →
      Calls Try.prog 46 #[.pointer (some ⟨pb, 0, none⟩), .agg #[.string p.key, .string p.val, .bool p.dead]] w fun e w' => e = .returned (.int .i64 (rput l p).1) ∧ Buf w' pb mb (rput l p).2 ∧ w.grownBy w' (some mb) := by
    intro n hr hc
    rw [hr]
    exact (write_no pb mb l p w h hk n hc).mono fun e w' ⟨he, hb⟩ => ⟨he, h.below hb, grown_of hb _⟩
  have hyes : rput l p = (0, put l p) → p.key.toList ≠ [] → p.key.size ≤ 64 → p.val.size ≤ 256 → (hasK l p.key = false → l.length < 64) →
      Calls Try.prog 46 #[.pointer (some ⟨pb, 0, none⟩), .agg #[.string p.key, .string p.val, .bool p.dead]] w fun e w' => e = .returned (.int .i64 (rput l p).1) ∧ Buf w' pb mb (rput l p).2 ∧ w.grownBy w' (some mb) := by
    intro hr h1 h2 h3 h4
    rw [hr]
    exact write_ok pb mb l p w h hk h1 h2 h3 h4
  by_cases h0 : p.key.toList = []
  · exact hno 2 (by rw [rput, if_pos (.inl ((empty_iff _).2 h0))]) (.inl ⟨h0, rfl⟩)
  · have h0' : ¬ p.key.size < 1 := fun q => h0 ((empty_iff _).1 q)
    by_cases h1 : 64 < p.key.size
    · exact hno 2 (by rw [rput, if_pos (.inr h1)]) (.inr (.inl ⟨h0, h1, rfl⟩))
    · by_cases h2 : 256 < p.val.size
      · exact hno 12 (by rw [rput, if_neg (by omega), if_pos h2]) (.inr (.inr (.inl ⟨h0, by omega, h2, rfl⟩)))
      · cases h3 : hasK l p.key with
        | true => exact hyes (by rw [rput, if_neg (by omega), if_neg h2, if_pos h3]) h0 (by omega) (by omega) (fun q => by rw [h3] at q; cases q)
        | false =>
          by_cases h4 : 64 ≤ l.length
          · exact hno 13 (by rw [rput, if_neg (by omega), if_neg h2, if_neg (by simp [h3]), if_pos h4]) (.inr (.inr (.inr ⟨h0, by omega, by omega, h3, h4, rfl⟩)))
          · exact hyes (by rw [rput, if_neg (by omega), if_neg h2, if_neg (by simp [h3]), if_neg h4]) h0 (by omega) (by omega) (fun _ => by omega)

set_option maxRecDepth 100000 in
theorem put_calls (pb mb : Nat) (l : List Pair) (k v : ByteArray) (w : World) (h : Buf w pb mb l) (hk : k.size ≤ 140737488351232) :
    Calls Try.prog 26 #[.pointer (some ⟨pb, 0, none⟩), .string k, .string v] w fun e w' => e = .returned (.int .i64 (rput l ⟨k, v, false⟩).1) ∧ Buf w' pb mb (rput l ⟨k, v, false⟩).2 ∧ w.grownBy w' (some mb) := by
  have HW := Lib.hid (write_calls pb mb l ⟨k, v, false⟩ w h hk)
  obtain ⟨r, hr⟩ : ∃ r, rput l ⟨k, v, false⟩ = r := ⟨_, rfl⟩
  rw [hr] at HW ⊢
  clear h hr
  go_enter Try.func26, Try.ntmps26
  go_wp2_with (go_at_call 46; refine HW.out.mono ?_; rintro e w' ⟨rfl, h1, h2⟩)
  go_ret
  exact ⟨rfl, h1, h2⟩
set_option maxRecDepth 100000 in
theorem drop_calls (pb mb : Nat) (l : List Pair) (k : ByteArray) (w : World) (h : Buf w pb mb l) (hk : k.size ≤ 140737488351232) :
    Calls Try.prog 36 #[.pointer (some ⟨pb, 0, none⟩), .string k] w fun e w' => e = .returned (.int .i64 (rput l ⟨k, ⟨#[]⟩, true⟩).1) ∧ Buf w' pb mb (rput l ⟨k, ⟨#[]⟩, true⟩).2 ∧ w.grownBy w' (some mb) := by
  have HW := Lib.hid (write_calls pb mb l ⟨k, ⟨#[]⟩, true⟩ w h hk)
  obtain ⟨r, hr⟩ : ∃ r, rput l ⟨k, ⟨#[]⟩, true⟩ = r := ⟨_, rfl⟩
  rw [hr] at HW ⊢
  clear h hr
  go_enter Try.func36, Try.ntmps36
  go_wp2_with (go_at_call 46; refine HW.out.mono ?_; rintro e w' ⟨rfl, h1, h2⟩)
  go_ret
  exact ⟨rfl, h1, h2⟩
end Go.Proofs.Ytidfogcilegloaa.B
