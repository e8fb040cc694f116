import Derived.Test.YtidfogcilegloaaProg
import Derived.Test.YtidfogcilegloaaRep
import Derived.Test.YtidfogcilegloaaPure
import Derived.WalkLawsBesides
import Derived.WalkSpells
namespace Go.Proofs.Ytidfogcilegloaa
open Go.RowKit

def Ver.enc (v : Ver) : List Value := [.int .i64 v.at_, .string v.val, .bool v.dead]
def tVer : Ty Ver := Ty.flat 3 Ver.enc (fun _ => rfl) (fun x u hu => by simp [Ver.enc] at hu; rcases hu with rfl | rfl | rfl <;> rfl)

theorem sl_ver {w : World} {ok : Nat → Prop} {A : Option Addr} {n cap : Nat} {l : List Ver} (h : Sl tVer w ok (.slice A n cap) l) {i : Nat} {x : Ver} (hi : l[i]? = some x) :
    ∃ b off, A = some ⟨b, off, none⟩ ∧ b < w.heap.size ∧ w.cell? ⟨b, off + i * 3, none⟩ = some (.int .i64 x.at_) ∧ w.cell? ⟨b, off + i * 3 + 1, none⟩ = some (.string x.val) ∧ w.cell? ⟨b, off + i * 3 + 2, none⟩ = some (.bool x.dead) := by
  obtain ⟨b, off, c, e, hb, hk, hc⟩ := h.at (by decide) hi
  obtain rfl : c = x.enc := hk
  exact ⟨b, off, e, World.block_lt_of_cell? w _ (hc 0 _ rfl), hc 0 _ rfl, hc 1 _ rfl, hc 2 _ rfl⟩
/-- Versions lean on nothing. -/
theorem ver_flat {w w' : World} {ok ok' : Nat → Prop} : ∀ {l : List Ver} {cs : List Value}, Cells tVer w ok l cs → Cells tVer w' ok' l cs
  | [], _, h => h
  | _ :: _, _, ⟨c, d, e, hk, hd⟩ => ⟨c, d, e, hk, ver_flat hd⟩
theorem Sl.xflat {w : World} {ok ok' : Nat → Prop} {v : Value} {l : List Ver} (h : Sl tVer w ok v l) : SlX tVer w ok' v l := by
  obtain ⟨A, cap, cs, e, h1, h2, h3, h4⟩ := h
  exact ⟨A, cap, cs, e, h1, h2, ver_flat h3, h4.mono fun _ _ => trivial⟩
theorem drop_at {α : Type} {l : List α} {k : Nat} {x : α} (h : l[k]? = some x) : l.drop k = x :: l.drop (k + 1) := by
  obtain ⟨h1, rfl⟩ := List.getElem?_eq_some_iff.1 h
  exact List.drop_eq_getElem_cons h1
theorem some_at {α : Type} {l : List α} {k : Nat} (h : k < l.length) : ∃ x, l[k]? = some x := ⟨l[k], List.getElem?_eq_getElem h⟩

theorem right_calls (v : Ver) (w : World) :
    Calls Try.prog 61 #[.agg #[.int .i64 v.at_, .string v.val, .bool v.dead]] w fun e w' => e = .returned (.bool v.right) ∧ Below w.heap.size w w' := by
  obtain ⟨a, s, d⟩ := v
  cases d <;>
  · go_enter Try.func61, Try.ntmps61
    go_wp2
    go_ret
    exact ⟨by simp [Ver.right], (Below.refl _ _).alloc (Nat.le_refl _) _⟩

/-- One round of Good. -/
theorem good_step {l : List Ver} {k : Nat} {x : Ver} {last : Int} (hg : good l = goodFrom last (l.drop k)) (hx : l[k]? = some x) :
    good l = (decide (last < x.at_) && x.right && goodFrom x.at_ (l.drop (k + 1))) := by rw [hg, drop_at hx]; rfl
theorem good_end {l : List Ver} {k : Nat} {last : Int} (hg : good l = goodFrom last (l.drop k)) (hk : l.length ≤ k) : true = good l := by rw [hg, List.drop_of_length_le hk]; rfl
theorem and3_no {a b c d : Bool} (hg : a = (b && c && d)) (h : b = false ∨ c = false) : false = a := by
  rw [hg]; rcases h with h | h <;> simp [h]
theorem and3_go {a b c d : Bool} (hg : a = (b && c && d)) (h : b = true) (h' : c = true) : a = d := by
  rw [hg]; simp [h, h']

theorem good_calls (l : List Ver) (A : Option Addr) (n cap : Nat) (w : World) (h : Sl tVer w (fun _ => True) (.slice A n cap) l) :
    Calls Try.prog 59 #[.slice A n cap] w fun e w' => e = .returned (.bool (good l)) ∧ Below w.heap.size w w' := by
  obtain ⟨hl, hcap, hm⟩ := h.length
  have H := Lib.hid h
  clear h
  go_enter Try.func59, Try.ntmps59
  go_wp2
  go_loopw [3, 8] (fun la i w' => ∃ (k : Nat) (last : Int), k ≤ n ∧ i = .int .i64 k ∧ la = .int .i64 last ∧ Hid (good l = goodFrom last (l.drop k)) ∧ Below w.heap.size w w')
    (fun _ i _ => n - (intOf i).toNat)
  case atStart => exact ⟨0, 0, by omega, rfl, rfl, rfl, Below.refl _ _⟩
  case round =>
    obtain ⟨k, last, hk, rfl, rfl, hg, hb⟩ := hrel
    have hz : w.heap.size ≤ wr.heap.size := hb.size
    by_cases hlt : k < n
    · obtain ⟨x, hx⟩ := some_at (show k < l.length by omega)
      obtain ⟨b, off, rfl, -, h0, h1, h2⟩ := sl_ver (H.out.below hb) hx
      have hs := Lib.hid (good_step hg.out hx)
      clear hx hg
      by_cases hla : last < x.at_
      · cases hr : x.right
        · go_wp2_with (go_at_call 61; refine (right_calls x _).mono ?_; rintro e w' ⟨rfl, hb'⟩)
          go_ret
          exact ⟨ret_bool (and3_no hs.out (.inr hr)), ((hb.alloc hz _).trans (hb'.mono (by simp; omega)))⟩
        · go_wp2_with (go_at_call 61; refine (right_calls x _).mono ?_; rintro e w' ⟨rfl, hb'⟩; obtain ⟨hc, -⟩ := bcell hb'; have hz' : wr.heap.size + 1 ≤ w'.heap.size := by { have := hb'.size; simp at this; exact this })
          go_roundw
          case rel => exact ⟨k + 1, x.at_, by omega, by go_num, rfl, and3_go hs.out (decide_eq_true (by assumption)) hr, ((hb.alloc hz _).trans (hb'.mono (by simp; omega)))⟩
          case measure => simp [intOf]; omega
      · go_wp2
        go_ret
        exact ⟨ret_bool (and3_no hs.out (.inl (decide_eq_false (by omega)))), hb.alloc hz _⟩
    · go_wp2
      go_ret
      exact ⟨ret_bool (good_end hg.out (by omega)), hb⟩

end Go.Proofs.Ytidfogcilegloaa
