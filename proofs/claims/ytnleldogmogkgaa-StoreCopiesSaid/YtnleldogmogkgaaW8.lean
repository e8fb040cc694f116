import Derived.Test.YtnleldogmogkgaaW7
namespace Go.Proofs.Ytnleldogmogkgaa
open Go.RowKit

theorem trimAt_le {l : List Ver} {n : Int} : trimAt l n ≤ upTo l n ∧ upTo l n ≤ trimAt l n + 1 := by
  unfold trimAt; split <;> omega
theorem trim_skip {l : List Ver} {n : Int} {k : Nat} (h : k < trimAt l n) : (l.take (k + 1)).drop (trimAt l n) = (l.take k).drop (trimAt l n) := by
  rw [List.drop_of_length_le (by simp; omega), List.drop_of_length_le (by simp; omega)]
theorem trim_add {l : List Ver} {n : Int} {k : Nat} {x : Ver} (hx : l[k]? = some x) (h : trimAt l n ≤ k) : (l.take (k + 1)).drop (trimAt l n) = (l.take k).drop (trimAt l n) ++ [x] := by
  have := (List.getElem?_eq_some_iff.1 hx).1
  rw [List.take_add_one, hx, List.drop_append_of_le_length (by simp; omega)]; rfl
theorem trim_len (l : List Ver) (n : Int) (k : Nat) : ((l.take k).drop (trimAt l n)).length ≤ k := by simp; omega
theorem trim_empty {l : List Ver} {n : Int} {k : Nat} (hk : k ≤ l.length) : ((l.take k).drop (trimAt l n)).length = k - trimAt l n := by simp; omega
/-- The last that is seen: dead or alive. -/
theorem trimAt_last {l : List Ver} {n : Int} {k : Nat} {x : Ver} (hx : l[k]? = some x) (hk : k + 1 = upTo l n) : trimAt l n = if x.dead then k + 1 else k := by
  unfold trimAt
  rw [seen_eq, if_neg (show ¬ upTo l n = 0 by omega), ← hk]
  simp only [Nat.add_sub_cancel, hx, live]
  cases hd : x.dead <;> simp

set_option maxHeartbeats 2000000 in
theorem rtrim_calls (l : List Ver) (A : Option Addr) (n cap : Nat) (at_ : Int) (w : World) (hl : Sl tVer w (fun _ => True) (.slice A n cap) l) (hn : n ≤ 1000000) :
    Calls Try.prog 61 #[.slice A n cap, .int .i64 at_] w fun e w' => ∃ v, e = .returned v ∧ Sl tVer w' (fun b => w.heap.size ≤ b) v (trim l at_) ∧ Below w.heap.size w w' := by
  obtain ⟨hln, hcap, hm⟩ := hl.length
  have H := Lib.hid hl
  clear hl
  cases hg : good l
  · have HG := Lib.hid hg
    go_enter Try.func61, Try.ntmps61
    go_wp2_with fail
    refine (rgood_calls l _ n cap _ H.out).mono ?_
    rw [hg]
    rintro e w' ⟨rfl, hb⟩
    clear hg
    go_wp2
    go_ret
    exact ⟨_, rfl, by rw [trim, HG.out]; exact Sl.nil _ _ _, hb⟩
  · have HG := Lib.hid hg
    obtain ⟨ht1, ht2⟩ := @trimAt_le l at_
    have hu := upTo_le l at_
    rw [hln] at hu
    go_enter Try.func61, Try.ntmps61
    go_wp2_with fail
    refine (rgood_calls l _ n cap _ H.out).mono ?_
    rw [hg]
    rintro e w1 ⟨rfl, hb0⟩
    clear hg
    go_wp2
    go_loopw [5, 6, 7, 8, 16] (fun v _ _ _ i w' => ∃ (k : Nat), k ≤ n ∧ i = .int .i64 k ∧ Own tVer w' w.heap.size 99 (fun _ => False) v ((l.take k).drop (trimAt l at_)) ∧ Below w.heap.size w w')
      (fun _ _ _ _ i _ => n - (intOf i).toNat)
    case atStart => exact ⟨0, by omega, rfl, by simpa using Own.nil _ _ _ _ _, hb0⟩
    case round =>
      obtain ⟨k, hk, rfl, hO, hb⟩ := hrel
      have HO := Lib.hid hO
      clear hO
      have hz : w.heap.size ≤ wr.heap.size := hb.size
      by_cases hlt : k < n
      · obtain ⟨x, hx⟩ := some_at (show k < l.length by omega)
        obtain ⟨b, off, rfl, hbl, h0, h1, h2⟩ := sl_ver (H.out.below hb) hx
        obtain ⟨off2, c2, hrun, hS2⟩ := run_slice_from (t := tVer) Try.underlying86 (by kernel_rfl : (Try.prog.info? 99).map (·.size) = some 3) H.out (k := k + 1) (by omega)
        have ek : ((k + 1 : Nat) : Int) = (k : Int) + 1 := by omega
        rw [ek] at hrun
        have HS2 := Lib.hid hS2
        have hux : Hid (x.at_ ≤ at_ ↔ k < upTo l at_) := upTo_spec HG.out hx
        clear hS2 ek
        go_wp2
        have hbx : Hid (Box (wr.alloc (.cells #[.int .i64 x.at_, .string x.val, .bool x.dead] 99)) wr.heap.size x) := Blk.new wr x.enc.toArray 99
        have hb1 := hb.alloc hz (.cells #[.int .i64 x.at_, .string x.val, .bool x.dead] 99)
        have HO1 := Lib.hid (HO.out.alloc (.cells #[.int .i64 x.at_, .string x.val, .bool x.dead] 99))
        have hg1 : wr.heap.size < (wr.alloc (.cells #[.int .i64 x.at_, .string x.val, .bool x.dead] 99)).heap.size := by simp
        generalize wr.alloc (.cells #[.int .i64 x.at_, .string x.val, .bool x.dead] 99) = W0 at *
        generalize wr.heap.size = g at *
        have hx' := Lib.hid hx
        clear HO hb h0 h1 h2 hx
        have hx := hx'
        clear hx'
        go_loopw [8, 26] (fun la i w' => ∃ (j : Nat) (lb : Bool), j ≤ n - (k + 1) ∧ i = .int .i64 j ∧ la = .bool lb ∧ Hid (lb = decide (0 < j ∧ k + 1 < upTo l at_)) ∧ Below W0.heap.size W0 w')
          (fun _ i _ => n - (intOf i).toNat)
        case atStart => exact ⟨0, false, by omega, rfl, rfl, by simp [Hid], Below.refl _ _⟩
        case round =>
          obtain ⟨j, lb, hj, rfl, rfl, hlb, hbi⟩ := hrel
          have hbw := hb1.trans (hbi.mono hb1.size)
          by_cases hjlt : j < n - (k + 1)
          · obtain ⟨y, hy⟩ := some_at (show j < (l.drop (k + 1)).length by simp; omega)
            obtain ⟨b', off', e', hbl', h0', h1', h2'⟩ := sl_ver (HS2.out.below hbw) hy
            cases e'
            have huy : Hid (y.at_ ≤ at_ ↔ k + 1 + j < upTo l at_) := upTo_spec HG.out (by rw [← hy, List.getElem?_drop])
            clear hy
            cases lb
            · by_cases hle : y.at_ ≤ at_
              · have hnew : Hid (true = decide (0 < j + 1 ∧ k + 1 < upTo l at_)) := by have := huy.out.1 hle; show _ = _; simp; omega
                go_wp2
                go_roundw
                case rel => exact ⟨j + 1, true, by omega, by go_num, rfl, hnew, hbi.alloc hbi.size _⟩
                case measure => simp [intOf]; omega
              · have hnew : Hid (false = decide (0 < j + 1 ∧ k + 1 < upTo l at_)) := by
                  have h1 : ¬ k + 1 + j < upTo l at_ := fun h => hle (huy.out.2 h)
                  have h2 := of_decide_eq_false hlb.out.symm
                  show _ = _; symm; apply decide_eq_false; omega
                go_wp2
                go_roundw
                case rel => exact ⟨j + 1, false, by omega, by go_num, rfl, hnew, hbi.alloc hbi.size _⟩
                case measure => simp [intOf]; omega
            · have hnew : Hid (true = decide (0 < j + 1 ∧ k + 1 < upTo l at_)) := by
                have h2 := of_decide_eq_true hlb.out.symm
                show _ = _; symm; apply decide_eq_true; omega
              go_wp2
              go_roundw
              case rel => exact ⟨j + 1, true, by omega, by go_num, rfl, hnew, hbi.alloc hbi.size _⟩
              case measure => simp [intOf]; omega
          · -- the inner loop is done
            have hO2 := Lib.hid (HO1.out.below hbi)
            obtain ⟨⟨c0, c1, c2⟩, -⟩ := Box.cells (Blk.below hbx.out hbi hg1)
            have hzr : w.heap.size ≤ wr.heap.size := Nat.le_trans hb1.size hbi.size
            have HL := Lib.hid (trim_empty (l := l) (n := at_) (k := k) (by omega))
            have hlen1 := Lib.hid (trim_len l at_ k)
            obtain ⟨A', cap', hv, hlen', hcm', hcn'⟩ := hO2.out.form
            subst hv
            cases lb
            · -- nothing later is seen
              have hku : ¬ k + 1 < upTo l at_ := fun h => by
                have h2 := of_decide_eq_false hlb.out.symm
                omega
              obtain ⟨xa, xs, xd⟩ := x
              dsimp only at c0 c1 c2
              have hux' : Hid (xa ≤ at_ ↔ k < upTo l at_) := hux.out
              clear hux
              by_cases hk1 : k + 1 = upTo l at_
              · have hle : xa ≤ at_ := hux'.out.2 (by omega)
                have hta := Lib.hid (trimAt_last hx.out hk1)
                clear hk1
                cases xd
                · have hT : trimAt l at_ = k := hta.out
                  have hs := Lib.hid (trim_add hx.out (Nat.le_of_eq hT))
                  have hm0 : ((((l.take k).drop (trimAt l at_)).length : Int) == 0) = true := by rw [HL.out]; simp; omega
                  have HO3 := hO2
                  generalize hml : ((l.take k).drop (trimAt l at_)).length = ml at hm0 HO3 HL hlen' hcm' hcn' hlen1 ⊢
                  have HML := Lib.hid hml
                  clear hml hT hO2
                  go_wp2_with (at_builtin; refine wpList_app1 (t := tVer) (w0 := w) (cs := Ver.enc ⟨xa, xs, false⟩) (y := ⟨xa, xs, false⟩) w.heap.size rfl _ _ 86 99 _ 32 rfl Try.underlying86 info99 rfl (by decide) (by decide) rfl rfl rfl HO3.out rfl hbw ?c2 ?c3 ?_; (case c2 => omega); (case c3 => have := HML.out; have := hlen1.out; omega); intro v1 w2 hO1 hB1 _ _)
                  rw [← hs.out] at hO1
                  go_roundw
                  case rel => exact ⟨k + 1, by omega, by go_num, hO1, hB1⟩
                  case measure => simp [intOf]; omega
                · have hT : trimAt l at_ = k + 1 := hta.out
                  have hs := Lib.hid (trim_skip (l := l) (n := at_) (k := k) (by omega))
                  have hm0 : ((((l.take k).drop (trimAt l at_)).length : Int) == 0) = true := by rw [HL.out]; simp; omega
                  have HO3 := hO2
                  generalize hml : ((l.take k).drop (trimAt l at_)).length = ml at hm0 HO3 HL hlen' hcm' hcn' hlen1 ⊢
                  have HML := Lib.hid hml
                  clear hml hT hO2
                  go_wp2
                  go_roundw
                  case rel => exact ⟨k + 1, by omega, by go_num, by rw [hs.out]; exact HO3.out, hbw⟩
                  case measure => simp [intOf]; omega
              · have hle : ¬ xa ≤ at_ := fun h => by have := hux'.out.1 h; omega
                have hs := Lib.hid (trim_add hx.out (show trimAt l at_ ≤ k by omega))
                have HO3 := hO2
                by_cases hm : k = trimAt l at_
                · have hm0 : ((((l.take k).drop (trimAt l at_)).length : Int) == 0) = true := by rw [HL.out]; simp; omega
                  generalize hml : ((l.take k).drop (trimAt l at_)).length = ml at hm0 HO3 HL hlen' hcm' hcn' hlen1 ⊢
                  have HML := Lib.hid hml
                  clear hml hO2 hm hk1
                  cases xd
                  · go_wp2_with (at_builtin; refine wpList_app1 (t := tVer) (w0 := w) (cs := Ver.enc ⟨xa, xs, false⟩) (y := ⟨xa, xs, false⟩) w.heap.size rfl _ _ 86 99 _ 32 rfl Try.underlying86 info99 rfl (by decide) (by decide) rfl rfl rfl HO3.out rfl hbw ?c2 ?c3 ?_; (case c2 => omega); (case c3 => have := HML.out; have := hlen1.out; omega); intro v1 w2 hO1 hB1 _ _)
                    rw [← hs.out] at hO1
                    go_roundw
                    case rel => exact ⟨k + 1, by omega, by go_num, hO1, hB1⟩
                    case measure => simp [intOf]; omega
                  · go_wp2_with (at_builtin; refine wpList_app1 (t := tVer) (w0 := w) (cs := Ver.enc ⟨xa, xs, true⟩) (y := ⟨xa, xs, true⟩) w.heap.size rfl _ _ 86 99 _ 32 rfl Try.underlying86 info99 rfl (by decide) (by decide) rfl rfl rfl HO3.out rfl hbw ?c2 ?c3 ?_; (case c2 => omega); (case c3 => have := HML.out; have := hlen1.out; omega); intro v1 w2 hO1 hB1 _ _)
                    rw [← hs.out] at hO1
                    go_roundw
                    case rel => exact ⟨k + 1, by omega, by go_num, hO1, hB1⟩
                    case measure => simp [intOf]; omega
                · have hm0 : ((((l.take k).drop (trimAt l at_)).length : Int) == 0) = false := by rw [HL.out]; simp; omega
                  generalize hml : ((l.take k).drop (trimAt l at_)).length = ml at hm0 HO3 HL hlen' hcm' hcn' hlen1 ⊢
                  have HML := Lib.hid hml
                  clear hml hO2 hm hk1
                  cases xd
                  · go_wp2_with (at_builtin; refine wpList_app1 (t := tVer) (w0 := w) (cs := Ver.enc ⟨xa, xs, false⟩) (y := ⟨xa, xs, false⟩) w.heap.size rfl _ _ 86 99 _ 32 rfl Try.underlying86 info99 rfl (by decide) (by decide) rfl rfl rfl HO3.out rfl hbw ?c2 ?c3 ?_; (case c2 => omega); (case c3 => have := HML.out; have := hlen1.out; omega); intro v1 w2 hO1 hB1 _ _)
                    rw [← hs.out] at hO1
                    go_roundw
                    case rel => exact ⟨k + 1, by omega, by go_num, hO1, hB1⟩
                    case measure => simp [intOf]; omega
                  · go_wp2_with (at_builtin; refine wpList_app1 (t := tVer) (w0 := w) (cs := Ver.enc ⟨xa, xs, true⟩) (y := ⟨xa, xs, true⟩) w.heap.size rfl _ _ 86 99 _ 32 rfl Try.underlying86 info99 rfl (by decide) (by decide) rfl rfl rfl HO3.out rfl hbw ?c2 ?c3 ?_; (case c2 => omega); (case c3 => have := HML.out; have := hlen1.out; omega); intro v1 w2 hO1 hB1 _ _)
                    rw [← hs.out] at hO1
                    go_roundw
                    case rel => exact ⟨k + 1, by omega, by go_num, hO1, hB1⟩
                    case measure => simp [intOf]; omega
            · have hku := of_decide_eq_true hlb.out.symm
              have hs := Lib.hid (trim_skip (l := l) (n := at_) (k := k) (by omega))
              go_wp2
              go_roundw
              case rel => exact ⟨k + 1, by omega, by go_num, by rw [hs.out]; exact hO2.out, hbw⟩
              case measure => simp [intOf]; omega
      · go_wp2
        go_ret
        refine ⟨_, rfl, ?_, hb⟩
        have := HO.out.sl
        rw [List.take_of_length_le (by omega)] at this
        rw [trim, HG.out, if_pos rfl]
        exact this.mono fun b hb => hb.elim False.elim And.left
end Go.Proofs.Ytnleldogmogkgaa
