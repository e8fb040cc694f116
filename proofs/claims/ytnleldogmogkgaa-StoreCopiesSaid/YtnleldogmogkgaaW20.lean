import Derived.Test.YtnleldogmogkgaaW17
import Derived.Lib.OwnBridge
/-! Keys that go. -/
namespace Go.Proofs.Ytnleldogmogkgaa
open Go.RowKit Go.Op Go.Shelf Go.Sort

abbrev SK := {x : ByteArray // x.size ≤ maxLen}
instance : Inhabited SK := ⟨⟨⟨#[]⟩, Nat.zero_le _⟩⟩
def encK (x : SK) : Value := .string x.1
theorem to_sk : ∀ (ks : List ByteArray), (∀ k ∈ ks, k.size ≤ maxLen) → ∃ zs : List SK, zs.map (·.1) = ks
  | [], _ => ⟨[], rfl⟩
  | k :: ks, h => by
    obtain ⟨zs, hz⟩ := to_sk ks fun k hk => h k (List.mem_cons_of_mem _ hk)
    exact ⟨⟨k, h k (by simp)⟩ :: zs, by rw [List.map_cons, hz]⟩
theorem sk_map (zs : List SK) : zs.map encK = (zs.map (·.1)).map Value.string := by rw [List.map_map]; rfl
theorem putRow_other (w : World) (g q : Nat) (d : Array SK) {b : Nat} (h : b ≠ g) : (putRow encK (Sort.ahead w q) g 0 d).heap[b]? = w.heap[b]? := by
  simp [putRow, mapBlock, Sort.ahead, Array.getElem?_modify, show g ≠ b from fun e => h e.symm]
theorem putRow_grown (w : World) (g q : Nat) (d : Array SK) : w.grownBy (putRow encK (Sort.ahead w q) g 0 d) (some g) :=
  ⟨rfl, rfl, rfl, by simp [putRow, mapBlock, Sort.ahead], fun k _ hne => putRow_other w g q d (fun e => hne (by rw [e]))⟩

/-- What the closure reads. -/
structure Rd (w : World) (gb pb mb : Nat) (V : List (ByteArray × Value)) : Prop where
  box : w.cell? ⟨gb, 0, none⟩ = some (.pointer (some ⟨pb, 0, none⟩))
  map0 : w.cell? ⟨pb, 0, none⟩ = some (.map (some mb))
  mp : Mp KS w mb V
def PK (V : List (ByteArray × Value)) (p : ByteArray → Bool) : Prop := ∀ x : ByteArray, x.size ≤ maxLen → ∃ A n c, (look V x).getD (.slice none 0 0) = .slice A n c ∧ decide (n = 0) = p x

theorem closure_calls (gb pb mb : Nat) (V : List (ByteArray × Value)) (p : ByteArray → Bool) (x : ByteArray) (hx : x.size ≤ maxLen) (hp : PK V p) (w : World) (h : Rd w gb pb mb V) :
    Calls Try.prog 41 #[.string x, .pointer (some ⟨gb, 0, none⟩)] w fun e w' => e = .returned (.bool (p x)) ∧ ∃ q, w' = w.drewN q := by
  obtain ⟨A, n, c, h1, h2⟩ := hp x hx
  have hl := h.mp.look1 Try.underlying55 (zero61 _) hx
  rw [h1] at hl
  have hl' : (Instr.lookup 55 (.map (some mb)) (.string x) false).run Try.prog w = .ok (.slice A n c) w := hl
  have c0 := h.box
  have c1 := h.map0
  have H2 := Lib.hid h2
  clear h hl hp h1 h2
  go_enter Try.func41, Try.ntmps41
  go_wp2
  go_ret
  refine ⟨ret_bool ?_, 0, rfl⟩
  rw [← H2.out]
  by_cases h : n = 0 <;> simp [h]

theorem delete_calls (ks : List ByteArray) (kv : Value) (gb pb mb : Nat) (V : List (ByteArray × Value)) (p : ByteArray → Bool) (w : World) (h : Own Ty.str w 0 9 none_ kv ks) (hk : ∀ k ∈ ks, k.size ≤ maxLen) (hp : PK V p) (hr : Rd w gb pb mb V)
    (n1 : kv.ownBlock ≠ some gb) (n2 : kv.ownBlock ≠ some pb) (n3 : kv.ownBlock ≠ some mb) (l1 : gb < w.heap.size) (l2 : pb < w.heap.size) (hn : ks.length ≤ 1000000) :
    Calls Try.prog 40 #[kv, .func (.func 41) #[] #[.pointer (some ⟨gb, 0, none⟩)]] w fun e w' => ∃ kv', e = .returned kv' ∧ Own Ty.str w' 0 9 none_ kv' (ks.filter fun k => !p k) ∧ w.grownBy w' kv.ownBlock ∧ kv'.ownBlock = kv.ownBlock := by
  have eg : ∀ args w, (callFunc 41 args).run Try.prog w = .ok (.enter 41 args) w := enters_of Try.func41 (by kernel_rfl) rfl
  obtain ⟨cs, hr0, hc⟩ := h
  rw [cells_str] at hc
  obtain ⟨zs, hz⟩ := to_sk ks hk
  subst hz
  have hcs : cs = zs.map encK := by rw [hc, sk_map]
  subst hcs
  by_cases h0 : kv = .slice none 0 0
  · subst h0
    have hl := hr0.2
    have hz0 : zs = [] := by
      rcases hl with ⟨-, h⟩ | ⟨g, cap, cur, e, _⟩
      · exact List.eq_nil_of_length_eq_zero (by simpa using h)
      · cases e
    subst hz0
    have h59 : Calls Try.prog 59 #[.slice none 0 0, .func (.func 41) #[] #[.pointer (some ⟨gb, 0, none⟩)]] w fun e w' => e = .returned (.int .i64 (-1)) ∧ w = w' := by
      go_enter Try.func59, Try.ntmps59
      go_wp2
      go_loop [8] (fun i => i = .int .i64 0) (fun _ => 0)
      case atStart => rfl
      case round =>
        obtain rfl := hrel
        go_wp2
        go_ret
        exact ⟨rfl, rfl⟩
    have H59 := Lib.hid h59
    clear h59 hr hp hr0 hc eg hl
    go_enter Try.func40, Try.ntmps40
    go_wp2_with fail
    refine H59.out.mono ?_
    rintro e w' ⟨rfl, rfl⟩
    go_wp2
    go_ret
    exact ⟨_, rfl, Own.nil _ _ _ _ _, ⟨rfl, rfl, rfl, Nat.le_refl _, fun _ _ _ => rfl⟩, rfl⟩
  · have hr1 : w.ownsRow 0 9 1 kv zs.length (zs.map encK) := by have h9 := hr0; rw [List.length_map] at h9; exact h9
    obtain ⟨g, cap, rfl, -, hg, hncap, hcm, hzl, hH⟩ := Lib.holds_of_ownsRow (enc := encK) (zs := zs) hr1 h0
    have m1 : gb ≠ g := fun e => n1 (by rw [e]; rfl)
    have m2 : pb ≠ g := fun e => n2 (by rw [e]; rfl)
    have m3 : mb ≠ g := fun e => n3 (by rw [e]; rfl)
    have hat : PredAt Try.prog 41 #[.pointer (some ⟨gb, 0, none⟩)] encK (fun x => p x.1) w := fun W x hb =>
      closure_calls gb pb mb V p x.1 x.2 hp W ⟨(hb.cell (p := ⟨gb, 0, none⟩) l1).trans hr.box, (hb.cell (p := ⟨pb, 0, none⟩) l2).trans hr.map0, hr.mp.below hb⟩
    have hov : PredOver Try.prog 41 #[.pointer (some ⟨gb, 0, none⟩)] encK (fun x => p x.1) g 0 zs.toArray.size w := fun n os dk x _ => by
      have hh : ∀ b, b < w.heap.size → b ≠ g → (sortWorld encK w g 0 n dk os).heap[b]? = w.heap[b]? := fun b hb hne => by
        unfold sortWorld
        rw [heap_grow_old _ _ (by rw [Sort.size_putRow]; exact hb)]
        exact putRow_other w g n dk hne
      exact closure_calls gb pb mb V p x.1 x.2 hp _ ⟨(World.cell?_of_block (hh gb l1 m1)).trans hr.box, (World.cell?_of_block (hh pb l2 m2)).trans hr.map0, hr.mp.same (hh mb hr.mp.lt m3)⟩
    have hcon := AnyE.slices_DeleteFunc delF encK (fun _ => rfl) (fun x : SK => p x.1) 41 #[.pointer (some ⟨gb, 0, none⟩)] eg ⟨⟨#[]⟩, Nat.zero_le _⟩ (fun w => by kernel_rfl) g 0 cap zs.toArray w hat hov hH (by simp at hn ⊢; omega) (by simpa using hncap)
    have hzn : zs.toArray.size = zs.length := by simp
    rw [hzn] at hcon
    simp only [] at hcon
    refine Calls.mono (P := Try.prog) hcon ?_
    rintro e w' ⟨rfl, q, rfl⟩
    obtain ⟨F, hF⟩ : ∃ F, (zs.filter fun x => !p x.1) = F := ⟨_, rfl⟩
    have hFl : F.length ≤ zs.length := by rw [← hF]; exact List.length_filter_le _ _
    have hff : (zs.map (·.1)).filter (fun k => !p k) = F.map (·.1) := by rw [← hF, List.filter_map]; rfl
    rw [hff, hF]
    refine ⟨_, rfl, ⟨F.map encK, ?_, by rw [cells_str, sk_map]⟩, putRow_grown w g q _, rfl⟩
    have := Lib.ownsRow_putRow (q := q) (k := F.length) (ys := F ++ List.replicate (zs.length - F.length) ⟨⟨#[]⟩, Nat.zero_le _⟩) hr1 (by simp; omega) hFl
    rw [List.take_left] at this
    rw [List.length_map]
    exact this
end Go.Proofs.Ytnleldogmogkgaa
