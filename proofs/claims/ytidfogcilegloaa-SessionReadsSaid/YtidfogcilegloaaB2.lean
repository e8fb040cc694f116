import Derived.Test.YtidfogcilegloaaB1
import Derived.Test.YtidfogcilegloaaSort
import Derived.Shelf.SlSortCmp.NoneTotal
namespace Go.Proofs.Ytidfogcilegloaa.B
open Go.RowKit Go.Op Go.Shelf Go.Sort

instance : Inhabited Pair := ⟨Pair.zero⟩
def cmpP (x y : Pair) : Int := cmpK x.key y.key
theorem lt_cmp (x y : Pair) : ltOf cmpP x y = klt x.key y.key := by
  unfold ltOf cmpP cmpK
  cases h : klt x.key y.key
  · cases k : klt y.key x.key <;> simp
  · simp
theorem swo_cmp : SWO (ltOf cmpP) where
  irrefl x := by rw [lt_cmp]; exact klt_irrefl _
  trans x y z h k := by rw [lt_cmp] at *; exact klt_trans h k
  ntrans x y z h k := by
    rw [lt_cmp] at *
    cases hz : klt x.key z.key with
    | false => rfl
    | true =>
      rcases klt_cases x.key y.key with ⟨h1, _⟩ | ⟨e, _⟩ | ⟨_, h1, _⟩
      · rw [h1] at h; cases h
      · rw [e, k] at hz; cases hz
      · have := klt_trans h1 hz; rw [k] at this; cases this

set_option maxRecDepth 100000 in
set_option maxHeartbeats 1000000 in
theorem cmp36 (x y : Pair) (W : World) : Calls Try.prog 66 (#[.agg (Pair.enc x).toArray, .agg (Pair.enc y).toArray] ++ #[]) W fun e w' => e = .returned (.int .i64 (cmpP x y)) ∧ ∃ q os', w' = grow (W.drewN q) os' := by
  show Calls Try.prog 66 #[.agg #[.string x.key, .string x.val, .bool x.dead], .agg #[.string y.key, .string y.val, .bool y.dead]] W _
  have hc : ∀ W, Calls Try.prog 67 #[.string x.key, .string y.key] W fun e w' => e = .returned (.int .i64 (cmpP x y)) ∧ W = w' := fun W => cmp_calls x.key y.key W
  generalize cmpP x y = r at hc ⊢
  go_enter Try.func66, Try.ntmps66
  go_wp2_with (go_at_call 67; refine (hc _).mono ?_; rintro e w' ⟨rfl, rfl⟩)
  go_ret
  exact ⟨rfl, 0, _, by rw [alloc_eq_grow, alloc_eq_grow, grow_grow]; rfl⟩

theorem cells_pair {w : World} {ok : Nat → Prop} : ∀ {l : List Pair} {cs : List Value}, Cells tPair w ok l cs → cs = l.flatMap Pair.enc
  | [], _, h => h
  | p :: l, _, ⟨c, d, e, h1, h2⟩ => by rw [e, cells_pair h2]; rw [show c = p.enc from h1]; rfl
theorem pair_cells (w : World) (ok : Nat → Prop) : ∀ l : List Pair, Cells tPair w ok l (l.flatMap Pair.enc)
  | [] => rfl
  | p :: l => ⟨p.enc, l.flatMap Pair.enc, rfl, rfl, pair_cells w ok l⟩
theorem pflat_at (l : List Pair) (t : Nat) (h : t < l.length * 3) : (l.flatMap Pair.enc)[t]? = some ((Pair.enc l.toArray[t / 3]!)[t % 3]!) := by
  induction l generalizing t with
  | nil => simp at h
  | cons p l ih =>
    rw [List.flatMap_cons]
    by_cases ht : t < 3
    · rw [List.getElem?_append_left (by simpa [Pair.enc] using ht)]
      have h0 : t / 3 = 0 := by omega
      have h1 : t % 3 = t := by omega
      rw [h0, h1]
      have : t = 0 ∨ t = 1 ∨ t = 2 := by omega
      rcases this with rfl | rfl | rfl <;> simp [Pair.enc]
    · rw [List.getElem?_append_right (by simp [Pair.enc]; omega)]
      have e1 : t - (Pair.enc p).length = t - 3 := by simp [Pair.enc]
      rw [e1, ih (t - 3) (by simp at h; omega)]
      have e2 : t / 3 = (t - 3) / 3 + 1 := by omega
      have e3 : (t - 3) % 3 = t % 3 := by omega
      rw [e3, e2]
      congr 3
      simp [getElem!_def]
theorem flat_size (l : List Pair) : (l.flatMap Pair.enc).length = l.length * 3 := by
  induction l with
  | nil => rfl
  | cons p l ih => rw [List.flatMap_cons, List.length_append, ih]; simp [Pair.enc]; omega

/-- No later key is less than one ahead of it. -/
def SortedK (l : List Pair) : Prop := l.Pairwise fun a b => klt b.key a.key = false

theorem sort_calls (l : List Pair) (v : Value) (base : Nat) (w : World) (HO : Own tPair w base 68 none_ v l) (hl : l.length ≤ 4000000) :
    Calls Try.prog 65 #[v, .func (.func 66) #[] #[]] w fun e w' => e = .returned (.tuple #[]) ∧ ∃ l', l'.Perm l ∧ SortedK l' ∧ Own tPair w' base 68 none_ v l' ∧ w.grownBy w' v.ownBlock := by
  obtain ⟨cs, hr, hcs⟩ := HO
  have hcs' := cells_pair hcs
  subst hcs'
  by_cases hl0 : l = []
  · subst hl0
    obtain ⟨A, cap, rfl⟩ : ∃ A cap, v = .slice A 0 cap := by
      rcases hr.2 with ⟨rfl, _⟩ | ⟨g, cap, cur, rfl, _⟩
      · exact ⟨_, _, rfl⟩
      · exact ⟨_, _, rfl⟩
    have h := AnyF.slices_SortFunc_none (P := Try.prog) { sortPair with } A cap (.func (.func 66) #[] #[]) w
    refine Calls.mono (R := fun e w' => e = .returned (.tuple #[]) ∧ w' = w) h ?_
    rintro e w' ⟨he, rfl⟩
    exact ⟨he, [], .refl _, List.Pairwise.nil, ⟨_, hr, hcs⟩, ⟨rfl, rfl, rfl, Nat.le_refl _, fun _ _ _ => rfl⟩⟩
  · rcases hr.2 with ⟨rfl, h0⟩ | ⟨g, cap, cur, rfl, hbg, hgg, hnc, hcm, hcs1, htake⟩
    · exact absurd (List.eq_nil_of_length_eq_zero h0) hl0
    have hgl := (Array.getElem?_eq_some_iff.1 hgg).1
    have hget : ∀ j, j < l.length * 3 → cur[j]? = some ((Pair.enc l.toArray[j / 3]!)[j % 3]!) := by
      intro j hj
      have h1 : (cur.toList.take (l.length * 3))[j]? = (l.flatMap Pair.enc)[j]? := by rw [show l.length * 3 = l.length * tPair.sz from rfl, htake]
      rw [List.getElem?_take_of_lt hj, pflat_at l j hj, Array.getElem?_toList] at h1
      exact h1
    have hH : HoldsK Pair.enc 3 w g 0 l.toArray := by
      intro j hj
      rw [size_flatK] at hj
      have hj' : j < l.length * 3 := by simpa using hj
      refine ⟨?_, ?_⟩
      · rw [get_flatK _ _ _ _ hj]
        simp only [World.cell?, hgg, Nat.zero_add]
        exact hget j hj'
      · simp [World.frozen?, hgg]
    have h := AnyQ.slices_SortFunc (P := Try.prog) sortPair 3 Try.isAgg68 Try.sizeOf68 Pair.enc (fun _ => rfl) (fun x u hu => by simp [Pair.enc] at hu; rcases hu with rfl | rfl | rfl <;> rfl) cmpP swo_cmp 66 #[] g 0 cap l.toArray w
      (enters_of Try.func66 (by kernel_rfl) rfl) (fun m os dk _ x y => cmp36 x y _) hH hgl (by simp; omega)
    refine Calls.mono (R := fun e w' => e = .returned (.tuple #[]) ∧ ∃ d' n os, PermIn 0 l.toArray.size l.toArray d' ∧ SortedIn (ltOf cmpP) 0 l.toArray.size d' ∧ w' = sortWorldK Pair.enc 3 w g 0 n d' os) h ?_
    rintro e w' ⟨he, d', n, os, hp, hs, rfl⟩
    obtain ⟨hp1, -, hp3⟩ := hp
    have hsz : d'.size = l.length := by rw [hp1]; simp
    have hperm : d'.toList.Perm l := by
      have e1 : d'.extract 0 l.toArray.size = d' := by rw [← hp1]; simp
      have e2 : l.toArray.extract 0 l.toArray.size = l.toArray := by simp
      rw [e1, e2] at hp3
      simpa using hp3
    have hput : (putCells id 0 (flatK Pair.enc 3 d') cur).size = cur.size := by simp [putCells]
    have hblk : (sortWorldK Pair.enc 3 w g 0 n d' os).heap[g]? = some (.cells (putCells id 0 (flatK Pair.enc 3 d') cur) 68 (0, 0)) := by
      unfold sortWorldK
      rw [heap_grow_old _ _ (by simp [putRowK, putRow, mapBlock]; exact hgl)]
      simp [putRowK, putRow, mapBlock, Array.getElem?_modify, hgg, onCells]
    refine ⟨he, d'.toList, hperm, ?_, ⟨d'.toList.flatMap Pair.enc, ?_, pair_cells _ _ _⟩, ?_⟩
    · rw [SortedK, List.pairwise_iff_getElem]
      intro i j hi hj hij
      have := hs i j (Nat.zero_le _) hij (by simpa [hsz] using hj)
      rw [lt_cmp] at this
      simp only [Array.length_toList] at hi hj
      simpa [getElem!_pos, hi, hj] using this
    · refine ⟨by rw [flat_size]; rfl, .inr ⟨g, cap, _, by simp [hsz], hbg, hblk, by rw [Array.length_toList, hsz]; exact hnc, hcm, by rw [hput]; exact hcs1, ?_⟩⟩
      apply List.ext_getElem?
      intro j
      by_cases hj : j < l.length * 3
      · rw [List.getElem?_take_of_lt (by rw [Array.length_toList, hsz]; exact hj), pflat_at _ j (by rw [Array.length_toList, hsz]; exact hj), Array.getElem?_toList]
        have hc := hget j hj
        have hfl : j < (flatK Pair.enc 3 d').size := by rw [size_flatK, hsz]; exact hj
        simp only [putCells, Array.getElem?_mapIdx, hc, Option.map_some]
        rw [if_pos ⟨Nat.zero_le _, by omega⟩, Nat.sub_zero, get_flatK _ _ _ _ (by rw [hsz]; exact hj)]
        simp
      · rw [List.getElem?_eq_none (by rw [List.length_take, Array.length_toList, hsz]; show min (l.length * 3) _ ≤ j; omega), List.getElem?_eq_none (by rw [flat_size, Array.length_toList, hsz]; omega)]
    · refine ⟨rfl, rfl, rfl, by simp [sortWorldK, grow, putRowK, putRow, mapBlock], fun b hb hne => ?_⟩
      unfold sortWorldK
      rw [heap_grow_old _ _ (by simp [putRowK, putRow, mapBlock]; exact hb)]
      have : g ≠ b := fun e => hne (by rw [← e]; rfl)
      simp [putRowK, putRow, mapBlock, Array.getElem?_modify, this]
end Go.Proofs.Ytidfogcilegloaa.B
