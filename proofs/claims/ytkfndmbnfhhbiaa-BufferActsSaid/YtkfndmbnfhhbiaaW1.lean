import Derived.Test.YtkfndmbnfhhbiaaProg
import Derived.Test.YtkfndmbnfhhbiaaPure
import Derived.Test.YtkfndmbnfhhbiaaRep
import Derived.Test.YtkfndmbnfhhbiaaMap
import Derived.KernelRfl
import Derived.WalkSmall
/-! Pairs in memory; a buffer. -/
namespace Go.Proofs.Ytkfndmbnfhhbiaa
open Go.RowKit Go.Op

def Pair.enc (v : Pair) : List Value := [.string v.key, .string v.val, .bool v.dead]
def tPair : Ty Pair := Ty.flat 3 Pair.enc (fun _ => rfl) (fun x u hu => by simp [Pair.enc] at hu; rcases hu with rfl | rfl | rfl <;> rfl)
def tyv (p : Pair) : Value := .agg #[.string p.key, .string p.val, .bool p.dead]
section
variable {w : World} {ok : Nat → Prop} {A : Option Addr} {n cap : Nat}
theorem sl_pair {l : List Pair} (h : Sl tPair w ok (.slice A n cap) l) {i : Nat} {x : Pair} (hi : l[i]? = some x) :
    ∃ b off, A = some ⟨b, off, none⟩ ∧ b < w.heap.size ∧ w.cell? ⟨b, off + i * 3, none⟩ = some (.string x.key) ∧ w.cell? ⟨b, off + i * 3 + 1, none⟩ = some (.string x.val) ∧ w.cell? ⟨b, off + i * 3 + 2, none⟩ = some (.bool x.dead) := by
  obtain ⟨b, off, c, e, hb, hk, hc⟩ := h.at (by decide) hi
  obtain rfl : c = x.enc := hk
  exact ⟨b, off, e, World.block_lt_of_cell? w _ (hc 0 _ rfl), hc 0 _ rfl, hc 1 _ rfl, hc 2 _ rfl⟩
end
theorem some_at {α : Type} {l : List α} {i : Nat} (h : i < l.length) : ∃ x, l[i]? = some x := ⟨l[i], List.getElem?_eq_getElem h⟩

/-! ### comparing -/
def cmpK (a b : ByteArray) : Int := if klt a b then -1 else if klt b a then 1 else 0
theorem isnan_calls (a : ByteArray) (w : World) : Calls Try.prog 37 #[.string a] w fun e w' => e = .returned (.bool false) ∧ w = w' := by
  go_enter Try.func37, Try.ntmps37
  go_wp2
  go_ret
  exact ⟨ret_bool (by simp), rfl⟩
set_option maxHeartbeats 1000000 in
theorem cmp_calls (a b : ByteArray) (w : World) : Calls Try.prog 31 #[.string a, .string b] w fun e w' => e = .returned (.int .i64 (cmpK a b)) ∧ w = w' := by
  have HN := fun a w => isnan_calls a w
  rcases klt_cases a b with ⟨h1, h2, h3⟩ | ⟨h1, h2, h3⟩ | ⟨h1, h2, h3⟩
  · have hc : cmpK a b = -1 := by unfold cmpK; rw [h1]; rfl
    have HC := Lib.hid hc
    unfold klt at h1 h2
    clear hc h3
    go_enter Try.func31, Try.ntmps31
    go_wp2_with (go_at_call 37; refine (isnan_calls _ _).mono ?_; rintro e w' ⟨rfl, rfl⟩)
    go_ret
    exact ⟨ret_int HC.out.symm, rfl⟩
  · subst h1
    have hc : cmpK a a = 0 := by unfold cmpK; rw [h2]; rfl
    have HC := Lib.hid hc
    unfold klt at h2
    clear hc h3
    go_enter Try.func31, Try.ntmps31
    go_wp2_with (go_at_call 37; refine (isnan_calls _ _).mono ?_; rintro e w' ⟨rfl, rfl⟩)
    go_ret
    exact ⟨ret_int HC.out.symm, rfl⟩
  · have hc : cmpK a b = 1 := by unfold cmpK; rw [h1, h2]; rfl
    have HC := Lib.hid hc
    unfold klt at h1 h2
    have h4 : (a.toList == b.toList) = false := by rw [beq_key]; simpa using h3
    clear hc h3
    go_enter Try.func31, Try.ntmps31
    go_wp2_with (go_at_call 37; refine (isnan_calls _ _).mono ?_; rintro e w' ⟨rfl, rfl⟩)
    go_ret
    exact ⟨ret_int HC.out.symm, rfl⟩

/-! ### the buffer -/
noncomputable abbrev KS : MKey Try.prog 9 ByteArray := strKey Try.underlying9
def kv (p : Pair) : ByteArray × Value := (p.key, tyv p)
structure Buf (w : World) (pb mb : Nat) (l : List Pair) : Prop where
  blk : Blk w pb #[.map (some mb)] 60
  map : ∃ V, Mp KS w mb V ∧ V.Perm (l.map kv)
  rising : Rising l
  len : l.length ≤ 64
theorem Buf.ne {w : World} {pb mb : Nat} {l : List Pair} (h : Buf w pb mb l) : pb ≠ mb := by
  rintro rfl
  obtain ⟨V, ⟨D, ⟨es, cl, h1, _⟩, _⟩, _⟩ := h.map
  have h2 := h.blk
  unfold Blk at h2
  rw [h1] at h2
  cases h2
theorem Buf.kept {w w' : World} {pb mb : Nat} {l : List Pair} {row : Option Nat} (h : Buf w pb mb l) (hg : w.grownBy w' row) (h1 : row ≠ some pb) (h2 : row ≠ some mb) : Buf w' pb mb l := by
  obtain ⟨V, hV, hp⟩ := h.map
  exact ⟨(hg.block pb h.blk.lt (fun e => h1 e.symm)).trans h.blk, ⟨V, hV.kept hg (fun e => h2 e.symm), hp⟩, h.rising, h.len⟩
theorem Buf.below {w w' : World} {pb mb : Nat} {l : List Pair} (h : Buf w pb mb l) (hb : Below w.heap.size w w') : Buf w' pb mb l :=
  h.kept (row := none) ⟨hb.os, hb.tape, hb.output, hb.size, fun k hk _ => hb.block k hk⟩ (by simp) (by simp)
theorem look_kv {V : List (ByteArray × Value)} {l : List Pair} (hp : V.Perm (l.map kv)) (hr : Rising l) (k : ByteArray) : look V k = (findK l k).map tyv := by
  have hn : ((l.map kv).map (·.1)).Nodup := by
    have := hr.keys
    rw [List.map_map]; exact this
  rw [look_perm hp.symm.symm ((hp.map _).nodup_iff.2 hn)]
  cases h : findK l k with
  | none =>
    rw [findK_none] at h
    rw [Option.map_none, look_none]
    intro p hp'
    obtain ⟨q, hq, rfl⟩ := List.mem_map.1 hp'
    exact h q hq
  | some p =>
    obtain ⟨h1, rfl⟩ := findK_some h
    exact look_of_mem hn (List.mem_map.2 ⟨p, h1, rfl⟩)

theorem new_calls (w : World) : Calls Try.prog 12 #[] w fun e w' => e = .returned (.pointer (some ⟨w.heap.size + 1, 0, none⟩)) ∧ Buf w' (w.heap.size + 1) w.heap.size [] ∧ Below w.heap.size w w' := by
  have hmm := @run_makeMap Try.prog
  have hM : Buf ((w.alloc (.map #[] 0)).alloc (.cells #[.map (some w.heap.size)] 60)) (w.heap.size + 1) w.heap.size [] :=
    ⟨by have := Blk.new (w.alloc (.map #[] 0)) #[.map (some w.heap.size)] 60; simpa using this, ⟨[], (Mp.made KS w).below ((Below.refl _ _).alloc (by simp) _), .refl _⟩, Rising.nil, by simp⟩
  have HM := Lib.hid hM
  have HB := Lib.hid (((Below.refl w.heap.size w).alloc (Nat.le_refl _) (.map #[] 0)).alloc (by simp) (.cells #[.map (some w.heap.size)] 60))
  clear hM
  go_enter Try.func12, Try.ntmps12
  go_wp2
  go_ret
  exact ⟨rfl, HM.out, HB.out⟩

theorem made_calls (pb mb : Nat) (w : World) (hb : Blk w pb #[.map (some mb)] 60) : Calls Try.prog 33 #[.pointer (some ⟨pb, 0, none⟩)] w fun e w' => e = .returned (.bool true) ∧ w = w' := by
  have hc := hb.cell 0
  clear hb
  have hx : ∀ W, (binOp .neq 58 (.map (some mb)) (.map none)).run Try.prog W = .ok (.bool true) W := fun _ => by kernel_rfl
  go_enter Try.func33, Try.ntmps33
  go_wp2
  go_ret
  exact ⟨rfl, rfl⟩

theorem zero52 (w : World) : (zeroValue 52).run Try.prog w = .ok (tyv Pair.zero) w := by kernel_rfl
theorem info52 : (Try.prog.info? 52).map (fun i => (i.zero, i.size, i.bytes)) = some (some (.agg #[.string ⟨#[]⟩, .string ⟨#[]⟩, .bool false]), 3, 40) := by kernel_rfl
theorem max_of {k : ByteArray} (h : k.size ≤ 140737488351232) : k.size ≤ maxLen := by unfold maxLen; omega

theorem look2_run {W : World} {mb : Nat} {V : List (ByteArray × Value)} (h : Mp KS W mb V) {z : Value} (hz : (zeroValue 52).run Try.prog W = .ok z W) {k : ByteArray} (hk : k.size ≤ maxLen) {u : Value} {c : Bool} (hu : (look V k).getD z = u) (hc : (look V k).isSome = c) :
    (Instr.lookup 58 (.map (some mb)) (.string k) true).run Try.prog W = .ok (.tuple #[u, .bool c]) W := by
  have := h.look2 Try.underlying58 hz hk
  rw [hu, hc] at this
  exact this

set_option maxHeartbeats 1000000 in
theorem get_calls_m (pb mb : Nat) (l : List Pair) (k : ByteArray) (w : World) (h : Buf w pb mb l) (hk : k.size ≤ maxLen) :
    Calls Try.prog 25 #[.pointer (some ⟨pb, 0, none⟩), .string k] w fun e w' => e = .returned (.tuple #[tyv ((findK l k).getD Pair.zero), .bool (findK l k).isSome]) ∧ Below w.heap.size w w' := by
  obtain ⟨V, hV, hp⟩ := h.map
  obtain ⟨x, hx⟩ : ∃ x, (findK l k).getD Pair.zero = x := ⟨_, rfl⟩
  obtain ⟨c, hc⟩ : ∃ c, (findK l k).isSome = c := ⟨_, rfl⟩
  have HU : Hid ((look V k).getD (tyv Pair.zero) = .agg #[.string x.key, .string x.val, .bool x.dead]) := by
    show _ = tyv x
    rw [look_kv hp h.rising, ← hx]; cases findK l k <;> rfl
  have HC : Hid ((look V k).isSome = c) := by
    show _ = c
    rw [look_kv hp h.rising, ← hc]; cases findK l k <;> rfl
  rw [hx, hc]
  have hb1 : Blk (w.alloc (.cells #[.string ⟨#[]⟩, .string ⟨#[]⟩, .bool false] 52)) pb #[.map (some mb)] 60 := h.blk.alloc _
  have c0 := hb1.cell 0
  have HB := Lib.hid hb1
  have HV : Hid (Mp KS (w.alloc (.cells #[.string ⟨#[]⟩, .string ⟨#[]⟩, .bool false] 52)) mb V) := hV.below ((Below.refl _ _).alloc (Nat.le_refl _) _)
  have HX := Lib.hid (((Below.refl w.heap.size w).alloc (Nat.le_refl _) (.cells #[.string ⟨#[]⟩, .string ⟨#[]⟩, .bool false] 52)).alloc (by simp) (.cells #[.string x.key, .string x.val, .bool x.dead] 52))
  have hrun := look2_run (HV.out) (zero52 _) hk HU.out HC.out
  clear h hV hp hx hc hb1
  go_enter Try.func25, Try.ntmps25
  go_wp2_with (go_at_call 33; refine (made_calls pb mb _ HB.out).mono ?_; rintro e w' ⟨rfl, rfl⟩)
  go_wp2
  exact bodyPost_ret (v := .tuple #[tyv x, .bool c]) (by simp [results, Try.results25, go_sem, tyv]) rfl ⟨rfl, ((Below.refl w.heap.size w).alloc (Nat.le_refl _) _).alloc (by simp) _⟩

theorem get_calls (pb mb : Nat) (l : List Pair) (k : ByteArray) (w : World) (h : Buf w pb mb l) (hk : k.size ≤ 140737488351232) :
    Calls Try.prog 25 #[.pointer (some ⟨pb, 0, none⟩), .string k] w fun e w' => e = .returned (.tuple #[tyv ((findK l k).getD Pair.zero), .bool (findK l k).isSome]) ∧ Below w.heap.size w w' := get_calls_m pb mb l k w h (max_of hk)
theorem Buf.key_ok {w : World} {pb mb : Nat} {l : List Pair} (h : Buf w pb mb l) : ∀ p ∈ l, p.key.size ≤ maxLen := by
  obtain ⟨V, hV, hp⟩ := h.map
  intro p hp'
  exact hV.oks (kv p) (hp.mem_iff.2 (List.mem_map.2 ⟨p, hp', rfl⟩))

theorem len_calls (pb mb : Nat) (l : List Pair) (w : World) (h : Buf w pb mb l) : Calls Try.prog 22 #[.pointer (some ⟨pb, 0, none⟩)] w fun e w' => e = .returned (.int .i64 (l.length : Nat)) ∧ w = w' := by
  obtain ⟨V, hV, hp⟩ := h.map
  have hl := hV.len Try.underlying58
  have hn : V.length = l.length := by rw [hp.length_eq, List.length_map]
  rw [hn] at hl
  have c0 := h.blk.cell 0
  have HB := Lib.hid h.blk
  clear h hV hp hn
  go_enter Try.func22, Try.ntmps22
  go_wp2_with (go_at_call 33; refine (made_calls pb mb _ HB.out).mono ?_; rintro e w' ⟨rfl, rfl⟩)
  go_ret
  exact ⟨rfl, rfl⟩

def rput (l : List Pair) (p : Pair) : Int × List Pair :=
  if p.key.size < 1 ∨ 64 < p.key.size then (2, l) else if 256 < p.val.size then (12, l) else if hasK l p.key then (0, put l p) else if 64 ≤ l.length then (13, l) else (0, put l p)

theorem perm_put {V : List (ByteArray × Value)} {l : List Pair} (hn : (V.map (·.1)).Nodup) (hp : V.Perm (l.map kv)) (hr : Rising l) (p : Pair) : (setV V p.key (tyv p)).Perm ((put l p).map kv) := by
  have hn' : (((put l p).map kv).map (·.1)).Nodup := by rw [List.map_map]; exact (put_rising hr p).keys
  have h1 : (setV V p.key (tyv p)).Nodup := List.Pairwise.of_map (·.1) (fun _ _ h e => h (by rw [e])) (setV_nodup hn p.key (tyv p))
  have h2 : ((put l p).map kv).Nodup := List.Pairwise.of_map (·.1) (fun _ _ h e => h (by rw [e])) hn'
  rw [List.perm_ext_iff_of_nodup h1 h2]
  rintro ⟨k, v⟩
  have e1 : (k, v) ∈ setV V p.key (tyv p) ↔ look (setV V p.key (tyv p)) k = some v := ⟨look_of_mem (setV_nodup hn _ _), look_mem⟩
  have e2 : (k, v) ∈ (put l p).map kv ↔ look ((put l p).map kv) k = some v := ⟨look_of_mem hn', look_mem⟩
  rw [e1, e2, look_setV hn, look_kv (List.Perm.refl _) (put_rising hr p), find_put hr, look_kv hp hr]
  by_cases e : k = p.key <;> simp [e]
theorem empty_iff (k : ByteArray) : k.size < 1 ↔ k.toList = [] := by
  rw [ByteArray.toList_eq, Array.toList_eq_nil_iff, ← Array.size_eq_zero_iff]
  show k.data.size < 1 ↔ _
  omega

/-- What a refusal leaves. -/
theorem write_no (pb mb : Nat) (l : List Pair) (p : Pair) (w : World) (h : Buf w pb mb l) (hk : p.key.size ≤ 140737488351232) (n : Int)
    (hn : (p.key.toList = [] ∧ n = 2) ∨ (p.key.toList ≠ [] ∧ 64 < p.key.size ∧ n = 2) ∨ (p.key.toList ≠ [] ∧ p.key.size ≤ 64 ∧ 256 < p.val.size ∧ n = 12) ∨ (p.key.toList ≠ [] ∧ p.key.size ≤ 64 ∧ p.val.size ≤ 256 ∧ hasK l p.key = false ∧ 64 ≤ l.length ∧ n = 13)) :
    Calls Try.prog 32 #[.pointer (some ⟨pb, 0, none⟩), .agg #[.string p.key, .string p.val, .bool p.dead]] w fun e w' => e = .returned (.int .i64 n) ∧ Below w.heap.size w w' := by
  obtain ⟨V, hV, hp⟩ := h.map
  obtain ⟨x, hx⟩ : ∃ x, (findK l p.key).getD Pair.zero = x := ⟨_, rfl⟩
  have HU : Hid ((look V p.key).getD (tyv Pair.zero) = .agg #[.string x.key, .string x.val, .bool x.dead]) := by
    show _ = tyv x
    rw [look_kv hp h.rising, ← hx]; cases findK l p.key <;> rfl
  have HC : Hid ((look V p.key).isSome = hasK l p.key) := by
    show _ = _
    rw [look_kv hp h.rising, hasK_find]; cases findK l p.key <;> rfl
  obtain ⟨wa, hwa⟩ : ∃ wa, w.alloc (.cells #[.string p.key, .string p.val, .bool p.dead] 52) = wa := ⟨_, rfl⟩
  have hsa : wa.heap.size = w.heap.size + 1 := by rw [← hwa]; simp
  have hba : Below w.heap.size w wa := by rw [← hwa]; exact (Below.refl _ _).alloc (Nat.le_refl _) _
  have hPa : Blk wa w.heap.size #[.string p.key, .string p.val, .bool p.dead] 52 := by rw [← hwa]; exact Blk.new _ _ _
  have hBa : Blk wa pb #[.map (some mb)] 60 := h.blk.below hba h.blk.lt
  have hVa : Mp KS wa mb V := hV.below hba
  have hr1 := look2_run (W := wa.drew) hVa (zero52 _) (max_of hk) HU.out HC.out
  have hVb : Mp KS (wa.alloc (.cells #[.string ⟨#[]⟩, .string ⟨#[]⟩, .bool false] 52)) mb V := hVa.below ((Below.refl _ _).alloc (Nat.le_refl _) _)
  have hr2 := look2_run (W := (wa.alloc (.cells #[.string ⟨#[]⟩, .string ⟨#[]⟩, .bool false] 52)).drew) hVb (zero52 _) (max_of hk) HU.out HC.out
  have c0 := hBa.cell 0
  have p0 := hPa.cell 0
  have d0 := (hBa.alloc (.cells #[.string ⟨#[]⟩, .string ⟨#[]⟩, .bool false] 52)).cell 0
  have d1 := (hPa.alloc (.cells #[.string ⟨#[]⟩, .string ⟨#[]⟩, .bool false] 52)).cell 0
  have p1 := hPa.cell 1
  have p2 := hPa.cell 2
  obtain ⟨wb, hwb⟩ : ∃ wb, (wa.alloc (.cells #[.string x.key, .string x.val, .bool x.dead] 52)).drew = wb := ⟨_, rfl⟩
  have hsb : wb.heap.size = w.heap.size + 2 := by rw [← hwb]; show (wa.alloc _).heap.size = _; simp [hsa]
  have hbb : Below w.heap.size w wb := by rw [← hwb]; exact (hba.alloc (by omega) _).drew
  have hPb : Blk wb w.heap.size #[.string p.key, .string p.val, .bool p.dead] 52 := by rw [← hwb]; exact hPa.alloc _
  have hBb : Blk wb pb #[.map (some mb)] 60 := h.blk.below hbb h.blk.lt
  have hVb' : Mp KS wb mb V := hV.below hbb
  have hln := hVb'.len Try.underlying58
  rw [show V.length = l.length by rw [hp.length_eq, List.length_map]] at hln
  have HB := Lib.hid hbb
  have e0 := hBb.cell 0
  have e1 := hPb.cell 0
  have e2 := hPb.cell 1
  have e3 := hPb.cell 2
  go_enter Try.func32, Try.ntmps32
  clear hV hp h hx hPa hVa hVb hba hbb hPb hBb hVb'
  go_wp2_with fail
  clear hwa
  refine (made_calls pb mb _ hBa).mono ?_
  rintro e w' ⟨rfl, rfl⟩
  go_wp2
  go_region
  all_goals
    clear hr1 hr2 c0 p0 p1 p2 d0 d1
    rcases hn with ⟨hn1, rfl⟩ | ⟨hn1, hn2, rfl⟩ | ⟨hn1, hn2, hn3, rfl⟩ | ⟨hn1, hn2, hn3, hn4, hn5, rfl⟩
    · go_wp2
      go_ret
      exact ⟨rfl, HB.out⟩
    · go_wp2
      go_ret
      exact ⟨rfl, HB.out⟩
    · have hne : p.key.toList.isEmpty = false := by simpa using hn1
      go_wp2
      go_ret
      exact ⟨rfl, HB.out⟩
    · have hne : p.key.toList.isEmpty = false := by simpa using hn1
      go_wp2
      go_ret
      exact ⟨rfl, HB.out⟩
set_option maxHeartbeats 2000000 in
theorem write_ok (pb mb : Nat) (l : List Pair) (p : Pair) (w : World) (h : Buf w pb mb l) (hk : p.key.size ≤ 140737488351232) (hne : p.key.toList ≠ []) (h64 : p.key.size ≤ 64) (h256 : p.val.size ≤ 256) (hfew : hasK l p.key = false → l.length < 64) :
    Calls Try.prog 32 #[.pointer (some ⟨pb, 0, none⟩), .agg #[.string p.key, .string p.val, .bool p.dead]] w fun e w' => e = .returned (.int .i64 0) ∧ Buf w' pb mb (put l p) ∧ w.grownBy w' (some mb) := by
  obtain ⟨V, hV, hp⟩ := h.map
  obtain ⟨x, hx⟩ : ∃ x, (findK l p.key).getD Pair.zero = x := ⟨_, rfl⟩
  have HU : Hid ((look V p.key).getD (tyv Pair.zero) = .agg #[.string x.key, .string x.val, .bool x.dead]) := by
    show _ = tyv x
    rw [look_kv hp h.rising, ← hx]; cases findK l p.key <;> rfl
  have HC : Hid ((look V p.key).isSome = hasK l p.key) := by
    show _ = _
    rw [look_kv hp h.rising, hasK_find]; cases findK l p.key <;> rfl
  obtain ⟨wa, hwa⟩ : ∃ wa, w.alloc (.cells #[.string p.key, .string p.val, .bool p.dead] 52) = wa := ⟨_, rfl⟩
  have hsa : wa.heap.size = w.heap.size + 1 := by rw [← hwa]; simp
  have hba : Below w.heap.size w wa := by rw [← hwa]; exact (Below.refl _ _).alloc (Nat.le_refl _) _
  have hPa : Blk wa w.heap.size #[.string p.key, .string p.val, .bool p.dead] 52 := by rw [← hwa]; exact Blk.new _ _ _
  have hBa : Blk wa pb #[.map (some mb)] 60 := h.blk.below hba h.blk.lt
  have hVa : Mp KS wa mb V := hV.below hba
  have hr1 := look2_run (W := wa.drew) hVa (zero52 _) (max_of hk) HU.out HC.out
  have hVb : Mp KS (wa.alloc (.cells #[.string ⟨#[]⟩, .string ⟨#[]⟩, .bool false] 52)) mb V := hVa.below ((Below.refl _ _).alloc (Nat.le_refl _) _)
  have hr2 := look2_run (W := (wa.alloc (.cells #[.string ⟨#[]⟩, .string ⟨#[]⟩, .bool false] 52)).drew) hVb (zero52 _) (max_of hk) HU.out HC.out
  have c0 := hBa.cell 0
  have p0 := hPa.cell 0
  have d0 := (hBa.alloc (.cells #[.string ⟨#[]⟩, .string ⟨#[]⟩, .bool false] 52)).cell 0
  have d1 := (hPa.alloc (.cells #[.string ⟨#[]⟩, .string ⟨#[]⟩, .bool false] 52)).cell 0
  have p1 := hPa.cell 1
  have p2 := hPa.cell 2
  obtain ⟨wb, hwb⟩ : ∃ wb, (wa.alloc (.cells #[.string x.key, .string x.val, .bool x.dead] 52)).drew = wb := ⟨_, rfl⟩
  have hsb : wb.heap.size = w.heap.size + 2 := by rw [← hwb]; show (wa.alloc _).heap.size = _; simp [hsa]
  have hbb : Below w.heap.size w wb := by rw [← hwb]; exact (hba.alloc (by omega) _).drew
  have hPb : Blk wb w.heap.size #[.string p.key, .string p.val, .bool p.dead] 52 := by rw [← hwb]; exact hPa.alloc _
  have hBb : Blk wb pb #[.map (some mb)] 60 := h.blk.below hbb h.blk.lt
  have hVb' : Mp KS wb mb V := hV.below hbb
  have hln := hVb'.len Try.underlying58
  rw [show V.length = l.length by rw [hp.length_eq, List.length_map]] at hln
  have e0 := hBb.cell 0
  have e1 := hPb.cell 0
  have e2 := hPb.cell 1
  have e3 := hPb.cell 2
  have hVd : Mp KS wb.drew mb V := hVb'
  obtain ⟨wc, hput, hMc, hgc, hsc⟩ := hVd.put Try.underlying58 (by rw [hp.length_eq, List.length_map]; have := h.len; unfold maxLen; omega) (k := p.key) (max_of hk) (tyv p)
  have hput' : (Instr.mapUpdate 58 (.map (some mb)) (.string p.key) (.agg #[.string p.key, .string p.val, .bool p.dead])).run Try.prog wb.drew = .ok () wc := hput
  have hgw : w.grownBy wc (some mb) := (World.grownBy.but ⟨hbb.os, hbb.tape, hbb.output, hbb.size, fun k hk _ => hbb.block k hk⟩ _).trans ⟨hgc.os, hgc.tape, hgc.output, hgc.size, hgc.block⟩
  have HR : Hid (Buf wc pb mb (put l p)) := ⟨(hgc.block pb hBb.lt (fun e => h.ne (by injection e))).trans hBb, ⟨_, hMc, perm_put hV.nodup hp h.rising p⟩, put_rising h.rising p, by
    rw [put_length h.rising]; have := h.len; split <;> rename_i q <;> first | omega | (have := hfew (by simpa using q); omega)⟩
  have HG := Lib.hid hgw
  have hne' : p.key.toList.isEmpty = false := by simpa using hne
  have hfe : hasK l p.key = true ∨ (hasK l p.key = false ∧ (l.length : Int) < 64) := by
    cases hq : hasK l p.key with
    | true => exact .inl rfl
    | false => exact .inr ⟨rfl, by have := hfew hq; omega⟩
  have HFE := Lib.hid hfe
  go_enter Try.func32, Try.ntmps32
  clear hV hp h hx hput hMc hgc hVd hgw hfew hfe hPa hVa hVb hba hbb hPb hBb hVb'
  go_wp2_with fail
  clear hwa
  refine (made_calls pb mb _ hBa).mono ?_
  rintro e w' ⟨rfl, rfl⟩
  go_wp2
  go_region
  all_goals
    clear hr1 hr2 c0 p0 p1 p2 d0 d1
    rcases HFE.out with hfe | ⟨hfe, hfl⟩
    · go_wp2
      go_region
      all_goals
        go_wp2
        go_ret
        exact ⟨rfl, HR.out, HG.out⟩
    · go_wp2
      go_region
      all_goals
        go_wp2
        go_ret
        exact ⟨rfl, HR.out, HG.out⟩

theorem grown_of {w w' : World} (hb : Below w.heap.size w w') (row : Option Nat) : w.grownBy w' row := World.grownBy.but ⟨hb.os, hb.tape, hb.output, hb.size, fun k hk _ => hb.block k hk⟩ _
theorem write_calls (pb mb : Nat) (l : List Pair) (p : Pair) (w : World) (h : Buf w pb mb l) (hk : p.key.size ≤ 140737488351232) :
    Calls Try.prog 32 #[.pointer (some ⟨pb, 0, none⟩), .agg #[.string p.key, .string p.val, .bool p.dead]] w fun e w' => e = .returned (.int .i64 (rput l p).1) ∧ Buf w' pb mb (rput l p).2 ∧ w.grownBy w' (some mb) := by
  have hno : ∀ n : Int, rput l p = (n, l) → ((p.key.toList = [] ∧ n = 2) ∨ (p.key.toList ≠ [] ∧ 64 < p.key.size ∧ n = 2) ∨ (p.key.toList ≠ [] ∧ p.key.size ≤ 64 ∧ 256 < p.val.size ∧ n = 12) ∨ (p.key.toList ≠ [] ∧ p.key.size ≤ 64 ∧ p.val.size ≤ 256 ∧ hasK l p.key = false ∧ 64 ≤ l.length ∧ n = 13)) →
      Calls Try.prog 32 #[.pointer (some ⟨pb, 0, none⟩), .agg #[.string p.key, .string p.val, .bool p.dead]] w fun e w' => e = .returned (.int .i64 (rput l p).1) ∧ Buf w' pb mb (rput l p).2 ∧ w.grownBy w' (some mb) := by
    intro n hr hc
    rw [hr]
    exact (write_no pb mb l p w h hk n hc).mono fun e w' ⟨he, hb⟩ => ⟨he, h.below hb, grown_of hb _⟩
  have hyes : rput l p = (0, put l p) → p.key.toList ≠ [] → p.key.size ≤ 64 → p.val.size ≤ 256 → (hasK l p.key = false → l.length < 64) →
      Calls Try.prog 32 #[.pointer (some ⟨pb, 0, none⟩), .agg #[.string p.key, .string p.val, .bool p.dead]] w fun e w' => e = .returned (.int .i64 (rput l p).1) ∧ Buf w' pb mb (rput l p).2 ∧ w.grownBy w' (some mb) := by
    intro hr h1 h2 h3 h4
    rw [hr]
    exact write_ok pb mb l p w h hk h1 h2 h3 h4
  by_cases h0 : p.key.toList = []
  · exact hno 2 (by rw [rput, if_pos (.inl ((empty_iff _).2 h0))]) (.inl ⟨h0, rfl⟩)
  · have h0' : ¬ p.key.size < 1 := fun q => h0 ((empty_iff _).1 q)
    by_cases h1 : 64 < p.key.size
    · exact hno 2 (by rw [rput, if_pos (.inr h1)]) (.inr (.inl ⟨h0, h1, rfl⟩))
    · by_cases h2 : 256 < p.val.size
      · exact hno 12 (by rw [rput, if_neg (by omega), if_pos h2]) (.inr (.inr (.inl ⟨h0, by omega, h2, rfl⟩)))
      · cases h3 : hasK l p.key with
        | true => exact hyes (by rw [rput, if_neg (by omega), if_neg h2, if_pos h3]) h0 (by omega) (by omega) (fun q => by rw [h3] at q; cases q)
        | false =>
          by_cases h4 : 64 ≤ l.length
          · exact hno 13 (by rw [rput, if_neg (by omega), if_neg h2, if_neg (by simp [h3]), if_pos h4]) (.inr (.inr (.inr ⟨h0, by omega, by omega, h3, h4, rfl⟩)))
          · exact hyes (by rw [rput, if_neg (by omega), if_neg h2, if_neg (by simp [h3]), if_neg h4]) h0 (by omega) (by omega) (fun _ => by omega)

theorem put_calls (pb mb : Nat) (l : List Pair) (k v : ByteArray) (w : World) (h : Buf w pb mb l) (hk : k.size ≤ 140737488351232) :
    Calls Try.prog 21 #[.pointer (some ⟨pb, 0, none⟩), .string k, .string v] w fun e w' => e = .returned (.int .i64 (rput l ⟨k, v, false⟩).1) ∧ Buf w' pb mb (rput l ⟨k, v, false⟩).2 ∧ w.grownBy w' (some mb) := by
  have HW := Lib.hid (write_calls pb mb l ⟨k, v, false⟩ w h hk)
  obtain ⟨r, hr⟩ : ∃ r, rput l ⟨k, v, false⟩ = r := ⟨_, rfl⟩
  rw [hr] at HW ⊢
  clear h hr
  go_enter Try.func21, Try.ntmps21
  go_wp2_with (go_at_call 32; refine HW.out.mono ?_; rintro e w' ⟨rfl, h1, h2⟩)
  go_ret
  exact ⟨rfl, h1, h2⟩
theorem drop_calls (pb mb : Nat) (l : List Pair) (k : ByteArray) (w : World) (h : Buf w pb mb l) (hk : k.size ≤ 140737488351232) :
    Calls Try.prog 24 #[.pointer (some ⟨pb, 0, none⟩), .string k] w fun e w' => e = .returned (.int .i64 (rput l ⟨k, ⟨#[]⟩, true⟩).1) ∧ Buf w' pb mb (rput l ⟨k, ⟨#[]⟩, true⟩).2 ∧ w.grownBy w' (some mb) := by
  have HW := Lib.hid (write_calls pb mb l ⟨k, ⟨#[]⟩, true⟩ w h hk)
  obtain ⟨r, hr⟩ : ∃ r, rput l ⟨k, ⟨#[]⟩, true⟩ = r := ⟨_, rfl⟩
  rw [hr] at HW ⊢
  clear h hr
  go_enter Try.func24, Try.ntmps24
  go_wp2_with (go_at_call 32; refine HW.out.mono ?_; rintro e w' ⟨rfl, h1, h2⟩)
  go_ret
  exact ⟨rfl, h1, h2⟩
end Go.Proofs.Ytkfndmbnfhhbiaa
