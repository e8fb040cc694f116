import Derived.Test.YtidfogcilegloaaShelf
import Derived.Test.YtidfogcilegloaaJ2
/-! Keys in order: where one stands, and one more. -/
namespace Go.Proofs.Ytidfogcilegloaa
open Go.RowKit Go.Op

/-- Cells written one by one. -/
def wr (cs : Array Value) : Nat → List Value → Array Value
  | _, [] => cs
  | o, v :: r => wr (cs.setIfInBounds o v) (o + 1) r
theorem Blk.wr {e : TypeId} {g : Nat} : ∀ (vs : List Value) (o : Nat) {w : World} {cs : Array Value} (_ : Blk w g cs e), Blk (w.setCells g o vs) g (wr cs o vs) e
  | [], _, _, _, h => h
  | v :: r, o, _, _, h => Blk.wr r (o + 1) (h.set o v)
theorem wr_list : ∀ (vs : List Value) (o : Nat) (cs : Array Value), o + vs.length ≤ cs.size → (wr cs o vs).toList = cs.toList.take o ++ vs ++ cs.toList.drop (o + vs.length)
  | [], o, cs, _ => by simp [wr]
  | v :: r, o, cs, h => by
    simp only [List.length_cons] at h
    rw [wr, wr_list r (o + 1) _ (by simp; omega), Array.toList_setIfInBounds]
    have hl : o < cs.toList.length := by simp; omega
    rw [List.take_set, List.drop_set_of_lt (by omega), List.take_add_one, List.getElem?_eq_getElem hl]
    rw [List.set_append]
    have hlt : ¬ o < (cs.toList.take o).length := by simp; omega
    rw [if_neg hlt]
    have e0 : o - (cs.toList.take o).length = 0 := by simp; omega
    rw [e0]
    simp only [Option.toList, List.set_cons_zero, List.append_assoc, List.length_cons, List.cons_append, List.nil_append]
    rw [show o + 1 + r.length = o + (r.length + 1) by omega]
theorem wr_size : ∀ (vs : List Value) (o : Nat) (cs : Array Value), (wr cs o vs).size = cs.size
  | [], _, _ => rfl
  | v :: r, o, cs => by rw [wr, wr_size]; simp
theorem grown_cells (g : Nat) : ∀ (vs : List Value) (o : Nat) (w : World), w.grownBy (w.setCells g o vs) (some g)
  | [], _, w => ⟨rfl, rfl, rfl, Nat.le_refl _, fun _ _ _ => rfl⟩
  | v :: r, o, w => by
    have h := grown_cells g r (o + 1) (w.setCell ⟨g, o, none⟩ v)
    refine ⟨h.os, h.tape, h.output, by have := h.size; rw [World.size_setCell] at this; exact this, fun k hk hne => ?_⟩
    exact (h.block k (by rw [World.size_setCell]; exact hk) hne).trans (Below.heap_setCell w ⟨g, o, none⟩ v k (by intro e; exact hne (by rw [e])))
theorem cells_str {w : World} {ok : Nat → Prop} : ∀ {l : List ByteArray} {cs : List Value}, Cells Ty.str w ok l cs ↔ cs = l.map Value.string
  | [], cs => by
    constructor
    · intro h; exact List.eq_nil_of_length_eq_zero (by have := h.len; simpa using this)
    · rintro rfl; exact rfl
  | x :: l, cs => by
    constructor
    · rintro ⟨c, d, rfl, h1, h2⟩
      have h1' : c = [.string x] := h1
      rw [h1', cells_str.1 h2]; rfl
    · rintro rfl
      exact ⟨[.string x], l.map Value.string, rfl, rfl, cells_str.2 rfl⟩

/-- Where a key stands among keys, or would. -/
def lowS (ks : List ByteArray) (x : ByteArray) : Nat := (ks.takeWhile fun a => klt a x).length
theorem lowS_keys (E : List Ent) (x : ByteArray) : lowS (E.map (·.key)) x = low E x := by
  unfold lowS low
  induction E with
  | nil => rfl
  | cons e E ih =>
    rw [List.map_cons, List.takeWhile_cons, List.takeWhile_cons]
    cases klt e.key x
    · rfl
    · simp only [if_true, List.length_cons]; rw [ih]
def hasS (ks : List ByteArray) (x : ByteArray) : Bool := ks.any fun a => a.toList == x.toList
theorem hasS_iff {ks : List ByteArray} {x : ByteArray} : hasS ks x = true ↔ x ∈ ks := by
  rw [hasS, List.any_eq_true]
  constructor
  · rintro ⟨a, ha, h⟩; rw [beq_key, decide_eq_true_eq] at h; rw [← h]; exact ha
  · intro h; exact ⟨x, h, by rw [beq_key]; simp⟩
theorem hasS_keys (E : List Ent) (x : ByteArray) : hasS (E.map (·.key)) x = hasK E x := by
  unfold hasS hasK
  rw [List.any_map]; rfl
theorem lowS_le (ks : List ByteArray) (x : ByteArray) : lowS ks x ≤ ks.length := (List.takeWhile_prefix _).length_le
theorem lowS_lt {ks : List ByteArray} {x : ByteArray} (hr : ks.Pairwise fun a b => klt a b = true) {t : Nat} {k : ByteArray} (hk : ks[t]? = some k) : klt k x = decide (t < lowS ks x) := by
  induction ks generalizing t with
  | nil => simp at hk
  | cons a ks ih =>
    unfold lowS
    rw [List.takeWhile_cons]
    cases ha : klt a x with
    | true =>
      simp only [if_true, List.length_cons]
      cases t with
      | zero => simp at hk; subst hk; rw [ha]; simp
      | succ t =>
        have := ih (List.pairwise_cons.1 hr).2 (t := t) (by simpa using hk)
        rw [this]; unfold lowS; congr 1; simp
    | false =>
      have hall : ∀ b ∈ a :: ks, klt b x = false := by
        intro b hb
        rcases List.mem_cons.1 hb with rfl | hb
        · exact ha
        · cases hbx : klt b x with
          | false => rfl
          | true => have := klt_trans ((List.pairwise_cons.1 hr).1 b hb) hbx; rw [ha] at this; cases this
      rw [hall k (List.mem_of_getElem? hk)]; simp

theorem sl_str {w : World} {ok : Nat → Prop} {A : Option Addr} {n cap : Nat} {l : List ByteArray} (h : Sl Ty.str w ok (.slice A n cap) l) {i : Nat} {x : ByteArray} (hi : l[i]? = some x) :
    ∃ b off, A = some ⟨b, off, none⟩ ∧ b < w.heap.size ∧ w.cell? ⟨b, off + i, none⟩ = some (.string x) := by
  obtain ⟨b, off, c, rfl, -, hk, hc⟩ := h.at (by decide) hi
  have e : c = [.string x] := hk
  subst e
  have h0 := hc 0 _ rfl
  have h0' : w.cell? ⟨b, off + i, none⟩ = some (.string x) := by
    have e1 : off + i * Ty.str.sz + 0 = off + i := by show off + i * 1 + 0 = off + i; omega
    rw [e1] at h0; exact h0
  refine ⟨b, off, rfl, ?_, h0'⟩
  rcases Nat.lt_or_ge b w.heap.size with h | h
  · exact h
  · simp [World.cell?, Array.getElem?_eq_none h] at h0'

theorem bsearch_calls (ks : List ByteArray) (A : Option Addr) (n c : Nat) (x : ByteArray) (w : World) (hs : Sl Ty.str w (fun _ => True) (.slice A n c) ks) (hr : ks.Pairwise fun a b => klt a b = true) (hn : n ≤ 1000000) :
    Calls Try.prog 39 #[.slice A n c, .string x] w fun e w' => e = .returned (.tuple #[.int .i64 (lowS ks x : Nat), .bool (hasS ks x)]) ∧ Below w.heap.size w w' := by
  have hln := hs.length.1
  by_cases h0 : n = 0
  · subst h0
    obtain rfl := List.eq_nil_of_length_eq_zero hln
    refine (Any2.slices_BinarySearch_string_empty bsS A c x w).mono ?_
    rintro e w' ⟨rfl, rfl⟩
    exact ⟨by simp [lowS, hasS], Below.refl _ _⟩
  · obtain ⟨y, hy⟩ : ∃ y, ks[0]? = some y := ⟨_, List.getElem?_eq_getElem (by omega)⟩
    obtain ⟨b, off, rfl, -, -⟩ := sl_str hs hy
    have hcell : ∀ j, j < n → w.cell? ⟨b, off + j, none⟩ = some (.string ((ks[j]?).getD x)) := fun j hj => by
      obtain ⟨z, hz⟩ : ∃ z, ks[j]? = some z := ⟨_, List.getElem?_eq_getElem (by omega)⟩
      obtain ⟨b', off', e, -, h⟩ := sl_str hs hz
      injection e with e
      injection e with e1 e2
      subst e1 e2
      rw [h, hz]; rfl
    have hk := lowS_le ks x
    have hbs : Lib.bsGo (fun t => Op.bytesLess ((ks[t]?).getD x).toList x.toList) n 0 n = lowS ks x := by
      refine Lib.bsGo_spec _ _ (fun t ht => ?_) (fun t ht => ?_) n 0 n (by omega) (Nat.zero_le _) (by omega)
      · obtain ⟨z, hz⟩ : ∃ z, ks[t]? = some z := ⟨_, List.getElem?_eq_getElem (by omega)⟩
        have := lowS_lt (x := x) hr hz
        rw [hz]
        show klt z x = true
        rw [this]; simpa using ht
      · cases hz : ks[t]? with
        | none => exact bl_irrefl _
        | some z =>
          have := lowS_lt (x := x) hr hz
          show klt z x = false
          rw [this]; simpa using ht
    refine (Any2.slices_BinarySearch_string bsS b off n c (fun t => (ks[t]?).getD x) x w (by omega) hcell).mono ?_
    rintro e w' ⟨rfl, q, rfl⟩
    refine ⟨?_, below_drewN (Below.refl _ _) q⟩
    rw [hbs]
    have hb : decide (lowS ks x < n ∧ (ks[lowS ks x]?).getD x = x) = hasS ks x := by
      rw [Bool.eq_iff_iff, decide_eq_true_eq, hasS_iff]
      constructor
      · rintro ⟨h1, h2⟩
        have hl : lowS ks x < ks.length := by omega
        rw [List.getElem?_eq_getElem hl] at h2
        have h2' : ks[lowS ks x] = x := h2
        rw [← h2']; exact List.getElem_mem _
      · intro hm
        obtain ⟨t, ht, hx⟩ := List.mem_iff_getElem.1 hm
        have hxt : ks[t]? = some x := by rw [List.getElem?_eq_getElem ht, hx]
        have h1 := lowS_lt (x := x) hr hxt
        rw [klt_irrefl] at h1
        have hge : lowS ks x ≤ t := by simpa using h1.symm
        have hz : ks[lowS ks x]? = some ks[lowS ks x] := List.getElem?_eq_getElem (by omega)
        have h2 := lowS_lt (x := x) hr hz
        have h2' : klt ks[lowS ks x] x = false := by rw [h2]; simp
        refine ⟨by omega, ?_⟩
        rw [hz]
        show ks[lowS ks x] = x
        rcases Nat.lt_or_eq_of_le hge with h | h
        · have := List.pairwise_iff_getElem.1 hr _ _ (by omega) ht h
          rw [hx, h2'] at this; cases this
        · have : ks[lowS ks x]? = some x := by rw [h]; exact hxt
          rw [hz] at this; injection this
    rw [hb]

theorem addr_add (g j : Nat) : (⟨g, 0, none⟩ : Addr).add j = ⟨g, 0 + j, none⟩ := by unfold Addr.add; split <;> simp_all
theorem own_mk {w : World} {kv : Value} {g n cap : Nat} {cur : Array Value} {l : List ByteArray} (hv : kv = .slice (some ⟨g, 0, none⟩) n cap) (hl : l.length = n) (hb : Blk w g cur 9) (h1 : n ≤ cap) (h2 : cap ≤ maxLen) (h3 : cur.size = cap)
    (h4 : cur.toList.take n = l.map Value.string) : Own Ty.str w 0 9 none_ kv l :=
  ⟨l.map Value.string, ⟨by simp [Ty.str, Ty.flat], .inr ⟨g, cap, cur, by rw [hv, hl], Nat.zero_le _, hb, by omega, h2, by simp [Ty.str, Ty.flat, h3], by rw [hl]; simpa [Ty.str, Ty.flat] using h4⟩⟩, cells_str.2 rfl⟩

set_option maxHeartbeats 1000000 in
theorem insert_calls (ks : List ByteArray) (kv : Value) (x : ByteArray) (i vb : Nat) (w : World) (h : Own Ty.str w 0 9 none_ kv ks) (hi : i ≤ ks.length) (hv : Blk w vb #[.string x] 9) (hne : kv.ownBlock ≠ some vb) (hn : ks.length ≤ 100000) :
    Calls Try.prog 40 #[kv, .int .i64 (i : Nat), .slice (some ⟨vb, 0, none⟩) 1 1] w fun e w' => ∃ kv', e = .returned kv' ∧ Own Ty.str w' 0 9 none_ kv' (ks.take i ++ x :: ks.drop i) ∧ w.grownBy w' kv.ownBlock ∧
      (kv'.ownBlock = kv.ownBlock ∨ kv'.ownBlock = some w.heap.size) := by
  have hlen : (ks.take i ++ x :: ks.drop i).length = ks.length + 1 := by simp; omega
  have hmap : (ks.take i ++ x :: ks.drop i).map Value.string = (ks.map Value.string).take i ++ Value.string x :: (ks.map Value.string).drop i := by simp [List.map_take, List.map_drop]
  obtain ⟨n, hnn⟩ : ∃ n, ks.length = n := ⟨_, rfl⟩
  obtain ⟨cs, ⟨hcl, hr⟩, hc⟩ := h
  rw [cells_str] at hc
  obtain ⟨S, hS⟩ : ∃ S, ks.map Value.string = S := ⟨_, rfl⟩
  rw [hS] at hc hmap
  have hSl : S.length = n := by rw [← hS]; simpa using hnn
  have hS1 : ∀ v ∈ S, v.oneCell' = true := by
    intro v hv
    rw [← hS] at hv
    obtain ⟨y, _, rfl⟩ := List.mem_map.1 hv
    rfl
  have hvs : ∀ j v, ([Value.string x] : List Value)[j]? = some v → w.cell? ⟨vb, 0 + j, none⟩ = some v := by
    intro j v hj
    rw [hv.cell]
    cases j with
    | zero => simpa using hj
    | succ j => simp at hj
  have hv1 : ∀ v ∈ ([Value.string x] : List Value), v.oneCell' = true := by intro v hv; rw [List.mem_singleton.1 hv]; rfl
  have hc' := hc.symm
  subst hc'
  rw [hnn] at hr hi hlen hn
  rcases hr with ⟨rfl, h0⟩ | ⟨g, cap, cur, rfl, -, hB, hncap, hcm, hcs, htk⟩
  · subst h0
    obtain rfl : i = 0 := by omega
    obtain rfl : S = [] := List.eq_nil_of_length_eq_zero hSl
    have hge := grownCap_ge w (0 + 1) 0 9
    have hle := grownCap_le_maxLen w (0 + 1) 0 9 (by simp [maxLen])
    refine (Any2.slices_Insert_string_end_grow insS none 0 0 vb 0 1 1 [] [.string x] w (by omega) (by omega) (by omega) (by omega) rfl rfl (fun _ => rfl) (fun a h => by cases h) hvs hv1).mono ?_
    rintro e w' ⟨rfl, rfl⟩
    obtain ⟨G, hG⟩ : ∃ G, grownCap w (0 + 1) 0 (insS_ren.t 9) = G := ⟨_, rfl⟩
    rw [show grownCap w (0 + 1) 0 9 = G from hG] at hge hle
    rw [hG]
    have hb : Blk (w.drew.alloc (.cells (([] ++ [Value.string x]).toArray ++ Builtin.zeroCells (Value.string ⟨#[]⟩).cells (G - (0 + 1))) 9)) w.heap.size (([] ++ [Value.string x]).toArray ++ Builtin.zeroCells (Value.string ⟨#[]⟩).cells (G - (0 + 1))) 9 := Blk.new w.drew _ _
    refine ⟨_, rfl, own_mk rfl hlen hb hge hle (by rw [Array.size_append, size_zeroCells]; simp [Value.cells]; omega) (by rw [hmap]; simp), grown_of (((Below.refl _ w).drew).alloc (Nat.le_refl _) _) _, .inr rfl⟩
  · have htk' : cur.toList.take n = S := by simpa [Ty.str, Ty.flat] using htk
    have hcs' : cur.size = cap := by simpa [Ty.str, Ty.flat] using hcs
    have hBk : Blk w g cur 9 := hB
    have hgne : vb ≠ g := fun e => hne (by rw [e]; rfl)
    have hcm' : cap ≤ 9223372036854775807 := by have : maxLen = 9223372036854775807 := rfl; omega
    have hcell : ∀ j v, S[j]? = some v → w.cell? ⟨g, 0 + j, none⟩ = some v := by
      intro j v hj
      rw [hBk.cell, Nat.zero_add]
      rw [← htk'] at hj
      rw [List.getElem?_take] at hj
      split at hj
      · simpa using hj
      · cases hj
    have hsp : ∀ j, j < cap → (w.cell? ⟨g, 0 + j, none⟩).isSome = true := by
      intro j hj
      rw [hBk.cell, Nat.zero_add, Array.getElem?_eq_getElem (by omega)]; rfl
    have hfz : ∀ j, w.frozen? ⟨g, 0 + j, none⟩ = false := fun j => hBk.frozen _
    by_cases hroom : n + 1 ≤ cap
    · by_cases hin : i = n
      · subst hin
        refine (Any2.slices_Insert_string_end_room insS g 0 i cap vb 0 1 1 [.string x] w (by omega) hroom hcm' rfl (fun j hj => by rw [show 0 + i + j = 0 + (i + j) by omega]; exact hsp _ (by omega)) (fun j hj => by rw [show 0 + i + j = 0 + (i + j) by omega]; exact hfz _) hvs hv1).mono ?_
        rintro e w' ⟨rfl, rfl⟩
        have hb := Blk.wr [Value.string x] (0 + i) hBk
        refine ⟨_, rfl, own_mk rfl hlen hb hroom hcm (by rw [wr_size]; exact hcs') ?_, grown_cells g _ _ _, .inl rfl⟩
        rw [wr_list _ _ _ (by simp; omega), hmap, Nat.zero_add, htk', List.drop_of_length_le (by omega : S.length ≤ i), List.take_of_length_le (by omega : S.length ≤ i)]
        rw [show i + 1 = (S ++ [Value.string x]).length by simp [hSl]]
        exact List.take_left
      · have hin' : i < n := by omega
        refine (Any2.slices_Insert_string_shift insS g 0 n cap i vb 0 1 1 S [.string x] w hin' (by omega) hroom hcm' hgne hSl rfl hcell (fun j hj => hsp j (by omega)) (fun j _ => hfz j) hvs hS1 hv1 9 9 1 cap (by unfold World.shape?; rw [show w.heap[vb]? = some (.cells #[.string x] 9 (0, 0)) from hv]; rfl) (by unfold World.shape?; rw [hB, ← hcs']) (by omega) (hv.frozen _) (hv.frozen _)).mono ?_
        rintro e w' ⟨rfl, rfl⟩
        have hb1 := Blk.wr (S.drop i) (0 + (i + 1)) (hBk.drewN 1)
        have hb := Blk.wr [Value.string x] (0 + i) hb1
        have hdl : (S.drop i).length = n - i := by rw [List.length_drop, hSl]
        refine ⟨_, rfl, own_mk rfl hlen hb hroom hcm (by rw [wr_size, wr_size]; exact hcs') ?_, ?_, .inl rfl⟩
        · rw [wr_list _ _ _ (by rw [wr_size]; simp; omega), wr_list _ _ _ (by rw [hdl]; omega), hmap]
          simp only [Nat.zero_add, List.length_singleton]
          rw [hdl]
          have hti : (cur.toList.take (i + 1) ++ S.drop i ++ cur.toList.drop (i + 1 + (n - i))).take i = S.take i := by
            rw [List.append_assoc, List.take_append_of_le_length (by simp; omega), List.take_take, ← htk', List.take_take]
            congr 1; omega
          have hdi : (cur.toList.take (i + 1) ++ S.drop i ++ cur.toList.drop (i + 1 + (n - i))).drop (i + 1) = S.drop i ++ cur.toList.drop (i + 1 + (n - i)) := by
            rw [List.append_assoc, List.drop_left' (by simp; omega)]
          rw [hti, hdi]
          have hl2 : (S.take i ++ [Value.string x] ++ S.drop i).length = n + 1 := by simp [hSl]; omega
          rw [← List.append_assoc, ← hl2, List.take_left]
          simp
        · have g1 := grown_cells g (S.drop i) (0 + (i + 1)) w.drew
          have g2 := grown_cells g [Value.string x] (0 + i) (w.drew.setCells g (0 + (i + 1)) (S.drop i))
          refine ⟨g2.os.trans g1.os, g2.tape.trans g1.tape, g2.output.trans g1.output, Nat.le_trans g1.size g2.size, fun k hk hk2 => ?_⟩
          exact (g2.block k (Nat.lt_of_lt_of_le hk g1.size) hk2).trans (g1.block k hk hk2)
    · have hge := grownCap_ge w (n + 1) cap 9
      have hle := grownCap_le_maxLen w (n + 1) cap 9 (by simp only [maxLen]; omega)
      by_cases hin : i = n
      · subst hin
        refine (Any2.slices_Insert_string_end_grow insS (some ⟨g, 0, none⟩) i cap vb 0 1 1 S [.string x] w (by omega) (by omega) (by omega) (by omega) hSl rfl (fun h => by cases h) (fun a ha j v hj => by
          injection ha with ha
          subst ha
          rw [addr_add]
          exact hcell j v hj) hvs hv1).mono ?_
        rintro e w' ⟨rfl, rfl⟩
        obtain ⟨G, hG⟩ : ∃ G, grownCap w (i + 1) cap (insS_ren.t 9) = G := ⟨_, rfl⟩
        rw [show grownCap w (i + 1) cap 9 = G from hG] at hge hle
        rw [hG]
        have hb : Blk (w.drew.alloc (.cells ((S ++ [Value.string x]).toArray ++ Builtin.zeroCells (Value.string ⟨#[]⟩).cells (G - (i + 1))) 9)) w.heap.size ((S ++ [Value.string x]).toArray ++ Builtin.zeroCells (Value.string ⟨#[]⟩).cells (G - (i + 1))) 9 := Blk.new w.drew _ _
        refine ⟨_, rfl, own_mk rfl hlen hb hge hle (by rw [Array.size_append, size_zeroCells]; simp [Value.cells, hSl]; omega) ?_, grown_of (((Below.refl _ w).drew).alloc (Nat.le_refl _) _) _, .inr rfl⟩
        rw [hmap, List.drop_of_length_le (by omega : S.length ≤ i), List.take_of_length_le (by omega : S.length ≤ i), Array.toList_append]
        rw [show i + 1 = (S ++ [Value.string x]).length by simp [hSl]]
        exact List.take_left
      · have hin' : i < n := by omega
        refine (Any2.slices_Insert_string_grow insS g 0 n cap i vb 0 1 1 S [.string x] w hin' (by omega) (by omega) (by omega) (by omega) hSl rfl hcell hvs hS1 hv1).mono ?_
        rintro e w' ⟨rfl, rfl⟩
        obtain ⟨G, hG⟩ : ∃ G, grownCap w (n + 1) cap 9 = G := ⟨_, rfl⟩
        have hG' : grownCap w (n + 1) cap (insS_ren.t 9) = G := hG
        rw [hG] at hge hle
        rw [hG']
        obtain ⟨C0, hC0⟩ : ∃ C0, ((S.take i).toArray ++ Builtin.zeroCells (Value.string ⟨#[]⟩).cells (n + 1 - i) ++ Builtin.zeroCells (Value.string ⟨#[]⟩).cells (G - (n + 1))) = C0 := ⟨_, rfl⟩
        have hC0s : C0.size = G := by rw [← hC0]; simp only [Array.size_append, size_zeroCells]; simp [Value.cells, hSl]; omega
        have hC0t : C0.toList.take i = S.take i := by
          rw [← hC0]
          simp only [Array.toList_append, List.append_assoc]
          rw [List.take_append_of_le_length (by simp [hSl]; omega), List.take_of_length_le (by rw [List.length_take]; omega)]
        rw [hC0]
        have hb0 : Blk (w.alloc (.cells C0 9)).drew w.heap.size C0 9 := (Blk.new w C0 9).drewN 1
        have hb1 := (Blk.wr [Value.string x] i hb0).drewN 1
        have hb := Blk.wr (S.drop i) (i + 1) hb1
        have hdl : (S.drop i).length = n - i := by rw [List.length_drop, hSl]
        refine ⟨_, rfl, own_mk rfl hlen hb hge hle (by rw [wr_size, wr_size]; exact hC0s) ?_, ?_, .inr rfl⟩
        · rw [wr_list _ _ _ (by rw [wr_size, hdl]; omega), wr_list _ _ _ (by simp; omega), hmap, hdl, List.length_singleton, hC0t]
          have h1 : (S.take i ++ [Value.string x] ++ C0.toList.drop (i + 1)).take (i + 1) = S.take i ++ [Value.string x] := by
            rw [show i + 1 = (S.take i ++ [Value.string x]).length by simp [hSl]; omega]
            exact List.take_left
          rw [h1]
          have hl2 : (S.take i ++ [Value.string x] ++ S.drop i).length = n + 1 := by simp [hSl]; omega
          rw [← hl2, List.take_left]
          simp
        · have B0 : Below w.heap.size w (w.alloc (.cells C0 9)) := (Below.refl _ _).alloc (Nat.le_refl _) _
          have g1 := grown_cells w.heap.size [Value.string x] i (w.alloc (.cells C0 9)).drew
          have g2 := grown_cells w.heap.size (S.drop i) (i + 1) ((w.alloc (.cells C0 9)).drew.setCells w.heap.size i [Value.string x]).drew
          have B1 := (B0.drew).grown g1 (by rw [show (w.alloc (.cells C0 9)).drew.heap.size = (w.alloc (.cells C0 9)).heap.size from rfl]; simp) (fun k e => by cases e; exact Nat.le_refl _)
          have B2 := (B1.drew).grown g2 B1.size (fun k e => by cases e; exact Nat.le_refl _)
          exact grown_of B2 _
end Go.Proofs.Ytidfogcilegloaa
