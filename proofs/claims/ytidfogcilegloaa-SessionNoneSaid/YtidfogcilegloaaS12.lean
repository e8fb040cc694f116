import Derived.Test.YtidfogcilegloaaS11
/-! Acts; light. -/
namespace Go.Proofs.Ytidfogcilegloaa
open Go.RowKit Go.Op

structure LAct where
  kind : Int
  n : Int
  key : ByteArray
  val : ByteArray
  strict : Bool
  l : List Pair
def tLAct : Ty LAct := ((Ty.int .i64).pair ((Ty.int .i64).pair (Ty.str.pair (Ty.str.pair (Ty.bool.pair tPair.slice))))).iso fun a => (a.kind, a.n, a.key, a.val, a.strict, a.l)
section
variable {w : World} {ok : Nat → Prop} {A : Option Addr} {n cap : Nat}
theorem lact_form {a : LAct} {cs : List Value} (h : tLAct.K w ok a cs) : ∃ P np cp, cs = [.int .i64 a.kind, .int .i64 a.n, .string a.key, .string a.val, .bool a.strict, .slice P np cp] ∧ Sl tPair w ok (.slice P np cp) a.l := by
  obtain ⟨_, _, rfl, h1, _, _, rfl, h2, _, _, rfl, h3, _, _, rfl, h4, _, _, rfl, h5, ⟨v, rfl, h6⟩⟩ := h
  obtain ⟨P, cp, rfl, -⟩ := h6.form
  exact ⟨P, _, cp, by rw [show _ = _ from h1, show _ = _ from h2, show _ = _ from h3, show _ = _ from h4, show _ = _ from h5]; rfl, h6⟩
theorem sl_lact {l : List LAct} (h : Sl tLAct w ok (.slice A n cap) l) {i : Nat} {a : LAct} (hi : l[i]? = some a) :
    ∃ b off P np cp, A = some ⟨b, off, none⟩ ∧ b < w.heap.size ∧ w.cell? ⟨b, off + i * 6, none⟩ = some (.int .i64 a.kind) ∧ w.cell? ⟨b, off + i * 6 + 1, none⟩ = some (.int .i64 a.n) ∧ w.cell? ⟨b, off + i * 6 + 2, none⟩ = some (.string a.key) ∧
      w.cell? ⟨b, off + i * 6 + 3, none⟩ = some (.string a.val) ∧ w.cell? ⟨b, off + i * 6 + 4, none⟩ = some (.bool a.strict) ∧ w.cell? ⟨b, off + i * 6 + 5, none⟩ = some (.slice P np cp) ∧ Sl tPair w ok (.slice P np cp) a.l := by
  obtain ⟨b, off, c, e, hb, hk, hc⟩ := h.at (by decide) hi
  obtain ⟨P, np, cp, rfl, hs⟩ := lact_form hk
  exact ⟨b, off, P, np, cp, e, World.block_lt_of_cell? w _ (hc 0 _ rfl), hc 0 _ rfl, hc 1 _ rfl, hc 2 _ rfl, hc 3 _ rfl, hc 4 _ rfl, hc 5 _ rfl, hs⟩
end
def LActOk (a : LAct) : Prop := a.key.size ≤ 140737488351232 ∧ a.val.size ≤ 140737488351232 ∧ Short a.l ∧ -9223372036854775808 ≤ a.n ∧ a.n ≤ 9223372036854775807
/-- How many pairs in all. -/
def pairsOf (l : List LAct) : Nat := (l.map fun a => a.l.length).sum
def Lite (l : List LAct) : Prop := l.length ≤ 60 ∧ pairsOf l ≤ 300 ∧ ∀ a ∈ l, a.key.size ≤ 800 ∧ a.val.size ≤ 800
theorem pairsOf_take {l : List LAct} {j : Nat} {a : LAct} (h : l[j]? = some a) : pairsOf (l.take (j + 1)) = pairsOf (l.take j) + a.l.length := by
  obtain ⟨hj, e⟩ := List.getElem?_eq_some_iff.1 h
  rw [List.take_succ_eq_append_getElem hj, e]
  simp [pairsOf]
def LP (l : List LAct) (w : World) (e : Ending) (w' : World) : Prop := ∃ b : Bool, e = .returned (.bool b) ∧ (b = true → Lite l) ∧ Below w.heap.size w w'

set_option maxRecDepth 100000 in
set_option maxHeartbeats 4000000 in
theorem light_calls (l : List LAct) (A : Option Addr) (n c : Nat) (w : World) (hl : Sl tLAct w (fun _ => True) (.slice A n c) l) (ho : ∀ a ∈ l, LActOk a) : Calls Try.prog 15 #[.slice A n c] w (LP l w) := by
  obtain ⟨hln, hcap, hcm⟩ := hl.length
  have HL := Lib.hid hl
  have HLN := Lib.hid hln
  have HO := Lib.hid ho
  have hX := Lib.hid (Below.refl w.heap.size w)
  clear hl hln ho
  by_cases h60 : 60 < n
  · go_enter Try.func15, Try.ntmps15
    go_wp2
    go_ret
    exact ⟨false, rfl, (fun h => by cases h), hX.out⟩
  · have h60i : (n : Int) ≤ 60 := by omega
    go_enter Try.func15, Try.ntmps15
    go_wp2
    go_loopw [3, 14] (fun cv i wr => ∃ j k : Nat, i = .int .i64 j ∧ cv = .int .i64 k ∧ j ≤ n ∧ Hid (Below w.heap.size w wr) ∧ k ≤ 300 ∧ Hid (pairsOf (l.take j) ≤ k) ∧ Hid (∀ a ∈ l.take j, a.key.size ≤ 800 ∧ a.val.size ≤ 800)) (fun _ i _ => n - (intOf i).toNat)
    case atStart => exact ⟨0, n, rfl, rfl, by omega, hX, by omega, (by show pairsOf (l.take 0) ≤ n; simp [pairsOf]), by simp [Hid]⟩
    case round =>
      obtain ⟨j, k, rfl, rfl, hj, hB, hk, hpk, hall⟩ := hrel
      by_cases hlt : j < n
      · obtain ⟨a, ha⟩ := some_at (show j < l.length by rw [HLN.out]; exact hlt)
        have hao := HO.out a (List.mem_of_getElem? ha)
        have hpt := Lib.hid (pairsOf_take ha)
        have hat := List.take_succ_eq_append_getElem (l := l) (i := j) (by rw [HLN.out]; exact hlt)
        have hga : l[j]'(by rw [HLN.out]; exact hlt) = a := (List.getElem?_eq_some_iff.1 ha).2
        have hcond : ∀ (q : LAct → Prop), (∀ x ∈ l.take j, q x) → q a → ∀ x ∈ l.take (j + 1), q x := fun q h1 h2 x hx => by
          rw [hat, hga] at hx
          rcases List.mem_append.1 hx with hx | hx
          · exact h1 x hx
          · rw [List.mem_singleton.1 hx]; exact h2
        have HCOND := Lib.hid hcond
        obtain ⟨g, off, P, np, cp, rfl, hg, x0, x1, x2, x3, x4, x5, hP⟩ := sl_lact (HL.out.below hB.out) ha
        obtain ⟨ks, vs, hao1, hao2, hao3⟩ : a.key.size ≤ 140737488351232 ∧ a.val.size ≤ 140737488351232 ∧ Short a.l ∧ True ∧ True := ⟨hao.1, hao.2.1, hao.2.2.1, trivial, trivial⟩
        have hln2 := hP.length.1
        have hncap := hP.length.2.1
        have hncm := hP.length.2.2
        have HP := Lib.hid hP
        have HS := Lib.hid hao1
        obtain ⟨ak, an, akey, aval, ast, al⟩ := a
        simp only at x0 x1 x2 x3 x4 x5 ks vs hln2 HP HS hpt
        clear ha hat hga hcond hP hao hao1 hao2 hao3
        by_cases h40 : 40 < np
        · go_wp2
          go_ret
          exact ⟨false, rfl, (fun h => by cases h), hB.out.alloc hB.out.size _⟩
        · by_cases h800 : 800 < akey.size + aval.size
          · have h800i : (800 : Int) < (akey.size : Int) + (aval.size : Int) := by omega
            go_wp2
            go_ret
            exact ⟨false, rfl, (fun h => by cases h), hB.out.alloc hB.out.size _⟩
          · have h800i : (akey.size : Int) + (aval.size : Int) ≤ 800 := by omega
            have h800k : (akey.size : Int) ≤ 800 := by omega
            have hBa : Hid (Below w.heap.size w (wr.alloc (.cells #[.int .i64 ak, .int .i64 an, .string akey, .string aval, .bool ast, .slice P np cp] 40))) := hB.out.alloc hB.out.size _
            have HPa : Hid (Sl tPair (wr.alloc (.cells #[.int .i64 ak, .int .i64 an, .string akey, .string aval, .bool ast, .slice P np cp] 40)) (fun _ => True) (.slice P np cp) al) := HP.out.below ((Below.refl _ _).alloc (Nat.le_refl _) _)
            go_wp2
            clear x0 x1 x2 x3 x4 x5
            generalize wr.alloc (.cells #[.int .i64 ak, .int .i64 an, .string akey, .string aval, .bool ast, .slice P np cp] 40) = wa at *
            have hXa := Lib.hid (Below.refl wa.heap.size wa)
            go_loopw [3, 41] (fun cv i w2 => ∃ i2 k2 : Nat, i = .int .i64 i2 ∧ cv = .int .i64 k2 ∧ i2 ≤ np ∧ Hid (Below wa.heap.size wa w2) ∧ k2 ≤ 300 ∧ k + i2 ≤ k2) (fun _ i _ => np - (intOf i).toNat)
            case atStart => exact ⟨0, k, rfl, rfl, by omega, hXa, hk, by omega⟩
            case round =>
              obtain ⟨i2, k2, rfl, rfl, hi2, hB2, hk2, hkk⟩ := hrel
              by_cases hlt2 : i2 < np
              · obtain ⟨p, hp⟩ := some_at (show i2 < al.length by omega)
                obtain ⟨hp1, hp2⟩ := HS.out p (List.mem_of_getElem? hp)
                obtain ⟨g2, off2, rfl, hg2, y0, y1, y2⟩ := sl_pair (HPa.out.below hB2.out) hp
                clear hp
                by_cases h300 : (300 : Int) < (k2 : Int) + (1 + ((p.key.size : Int) + (p.val.size : Int)) / 32)
                · go_wp2
                  go_ret
                  exact ⟨false, rfl, (fun h => by cases h), hBa.out.trans ((hB2.out.alloc hB2.out.size _).mono hBa.out.size)⟩
                · have h300i : (k2 : Int) + (1 + ((p.key.size : Int) + (p.val.size : Int)) / 32) ≤ 300 := by omega
                  obtain ⟨k3, hk3⟩ : ∃ k3 : Nat, (k2 : Int) + (1 + ((p.key.size : Int) + (p.val.size : Int)) / 32) = k3 := ⟨((k2 : Int) + (1 + ((p.key.size : Int) + (p.val.size : Int)) / 32)).toNat, by omega⟩
                  have hk3a : k2 + 1 ≤ k3 := by omega
                  have hk3b : k3 ≤ 300 := by omega
                  clear h300
                  go_wp2
                  go_roundw
                  case rel => exact ⟨i2 + 1, k3, by go_num, rfl, by omega, hB2.out.alloc hB2.out.size _, hk3b, by omega⟩
                  case measure => simp [intOf]; omega
              · obtain rfl : i2 = np := by omega
                have hf : Hid (pairsOf (l.take (j + 1)) ≤ k2) := by
                  show pairsOf (l.take (j + 1)) ≤ k2
                  rw [hpt.out]; have := hpk.out; omega
                have hB3 : Hid (Below w.heap.size w wr) := hBa.out.trans (hB2.out.mono hBa.out.size)
                have hall3 : Hid (∀ a ∈ l.take (j + 1), a.key.size ≤ 800 ∧ a.val.size ≤ 800) := HCOND.out (fun a => a.key.size ≤ 800 ∧ a.val.size ≤ 800) hall.out ⟨by show akey.size ≤ 800; omega, by show aval.size ≤ 800; omega⟩
                go_wp2
                go_roundw
                case rel => exact ⟨j + 1, k2, by go_num, rfl, by omega, hB3, hk2, hf, hall3⟩
                case measure => simp [intOf]; omega
      · obtain rfl : j = n := by omega
        have ht : l.take j = l := List.take_of_length_le (by rw [HLN.out]; omega)
        rw [ht] at hpk hall
        clear ht
        go_wp2
        go_ret
        exact ⟨true, rfl, (fun _ => ⟨by rw [HLN.out]; omega, by have := hpk.out; omega, hall.out⟩), hB.out⟩
end Go.Proofs.Ytidfogcilegloaa
