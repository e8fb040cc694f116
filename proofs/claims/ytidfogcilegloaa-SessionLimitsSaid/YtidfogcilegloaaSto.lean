import Derived.Test.YtidfogcilegloaaEnt
import Derived.Test.YtidfogcilegloaaPure3
/-! The store: plain law. -/
namespace Go.Proofs.Ytidfogcilegloaa

structure Pair where
  key : ByteArray
  val : ByteArray
  dead : Bool
def Pair.zero : Pair := ⟨⟨#[]⟩, ⟨#[]⟩, false⟩
structure Sto where
  ents : List Ent
  last : Int
  floor : Int
def chainOf (E : List Ent) (k : ByteArray) : List Ver := ((findK E k).map Ent.c).getD []
def verOf (n : Int) (p : Pair) : Ver := ⟨n, p.val, p.dead⟩
def addE (n : Int) (E : List Ent) (p : Pair) : List Ent := putE E ⟨p.key, chainOf E p.key ++ [verOf n p]⟩
def addAll (n : Int) (E : List Ent) (l : List Pair) : List Ent := l.foldl (addE n) E
def goodP (p : Pair) : Bool := decide (1 ≤ p.key.size) && decide (p.key.size ≤ 64) && decide (p.val.size ≤ 256) && (!p.dead || p.val.toList.isEmpty)
def above (o : Option ByteArray) (k : ByteArray) : Bool := match o with | none => true | some a => klt a k
def goodGo : Option ByteArray → List Pair → Bool
  | _, [] => true
  | o, p :: l => goodP p && above o p.key && goodGo (some p.key) l
def goodL (l : List Pair) : Bool := goodGo none l
def inst (S : Sto) (n : Int) (l : List Pair) : Int × Sto := if goodL l = true ∧ n = S.last + 1 then (0, ⟨addAll n S.ents l, n, S.floor⟩) else (2, S)
def may (S : Sto) (n : Int) : Int := if n < S.floor then 11 else if S.last < n then 2 else 0
def getS (S : Sto) (k : ByteArray) (n : Int) : ByteArray × Int := if may S n = 0 then (match get (chainOf S.ents k) n with | some v => (v.val, 0) | none => (⟨#[]⟩, 8)) else (⟨#[]⟩, may S n)
def inR (a b k : ByteArray) : Bool := !klt k a && klt k b
def pick (x y : ByteArray) (n : Int) (e : Ent) : Option Pair := if inR x y e.key then (get e.c n).map fun v => ⟨e.key, v.val, false⟩ else none
def scan (E : List Ent) (x y : ByteArray) (n : Int) : List Pair := E.filterMap (pick x y n)
def scanS (S : Sto) (x y : ByteArray) (n most : Int) : List Pair × Int := if may S n = 0 then ((scan S.ents x y n).take most.toNat, 0) else ([], may S n)
def within (E : List Ent) (x y : ByteArray) (n : Int) : Bool := E.any fun e => inR x y e.key && decide (0 < since e.c n)
def wrote (E : List Ent) (k : ByteArray) (n : Int) : Bool := decide (0 < since (chainOf E k) n)
def trimE (n : Int) (e : Ent) : Ent := ⟨e.key, trim e.c n⟩
def full (e : Ent) : Bool := !e.c.isEmpty
def trims (E : List Ent) (n : Int) : List Ent := (E.map (trimE n)).filter full
def coll (S : Sto) (n : Int) : Int × Sto := if n < S.floor ∨ S.last < n then (2, S) else (0, ⟨trims S.ents n, S.last, n⟩)
def vers (E : List Ent) : Nat := (E.map fun e => e.c.length).sum
def Sto.new : Sto := ⟨[], 0, 0⟩

/-- What a chain of a store is. -/
def ChOk (n : Int) (e : Ent) : Prop := good e.c = true ∧ e.c ≠ [] ∧ (∀ v ∈ e.c, v.at_ ≤ n) ∧ 1 ≤ e.key.size ∧ e.key.size ≤ 64
structure Sto.Ok (S : Sto) : Prop where
  rising : Rising S.ents
  chains : ∀ e ∈ S.ents, ChOk S.last e
  fl : 0 ≤ S.floor
  le : S.floor ≤ S.last
theorem Sto.Ok.new : Sto.new.Ok := ⟨Rising.nil, (fun _ h => by cases h), Int.le_refl _, Int.le_refl _⟩

theorem chainOf_mem {E : List Ent} (hr : Rising E) {e : Ent} (h : e ∈ E) : chainOf E e.key = e.c := by rw [chainOf, findK_mem hr h]; rfl
theorem chainOf_none {E : List Ent} {k : ByteArray} (h : findK E k = none) : chainOf E k = [] := by rw [chainOf, h]; rfl
theorem chainOf_put {E : List Ent} (hr : Rising E) (e : Ent) (k : ByteArray) : chainOf (putE E e) k = if k = e.key then e.c else chainOf E k := by
  rw [chainOf, find_putE hr]
  by_cases h : k = e.key
  · rw [if_pos h, if_pos h]; rfl
  · rw [if_neg h, if_neg h]; rfl
theorem chainOf_add {E : List Ent} (hr : Rising E) (n : Int) (p : Pair) (k : ByteArray) : chainOf (addE n E p) k = if k = p.key then chainOf E k ++ [verOf n p] else chainOf E k := by
  rw [addE, chainOf_put hr]
  by_cases h : k = p.key
  · subst h; simp
  · rw [if_neg h, if_neg h]
theorem addE_rising {E : List Ent} (hr : Rising E) (n : Int) (p : Pair) : Rising (addE n E p) := putE_rising hr _
theorem addAll_rising : ∀ {l : List Pair} {E : List Ent} (_ : Rising E) (n : Int), Rising (addAll n E l)
  | [], _, h, _ => h
  | p :: l, _, h, n => addAll_rising (l := l) (addE_rising h n p) n

theorem goodGo_all : ∀ {l : List Pair} {o : Option ByteArray}, goodGo o l = true → (∀ p ∈ l, goodP p = true ∧ above o p.key = true) ∧ l.Pairwise (fun a b => klt a.key b.key = true)
  | [], _, _ => ⟨(fun _ h => by cases h), .nil⟩
  | p :: l, o, h => by
    simp only [goodGo, Bool.and_eq_true] at h
    obtain ⟨h1, h2⟩ := goodGo_all h.2
    refine ⟨fun q hq => ?_, .cons (fun q hq => (h1 q hq).2) h2⟩
    rcases List.mem_cons.1 hq with rfl | hq
    · exact h.1
    · refine ⟨(h1 q hq).1, ?_⟩
      cases o with
      | none => rfl
      | some a => exact klt_trans h.1.2 (h1 q hq).2
theorem goodL_all {l : List Pair} (h : goodL l = true) : (∀ p ∈ l, goodP p = true) ∧ l.Pairwise (fun a b => klt a.key b.key = true) :=
  ⟨fun p hp => ((goodGo_all h).1 p hp).1, (goodGo_all h).2⟩
theorem goodP_size {p : Pair} (h : goodP p = true) : 1 ≤ p.key.size ∧ p.key.size ≤ 64 ∧ p.val.size ≤ 256 ∧ (!p.dead || p.val.toList.isEmpty) = true := by
  simp only [goodP, Bool.and_eq_true, decide_eq_true_eq] at h
  exact ⟨h.1.1.1, h.1.1.2, h.1.2, h.2⟩
theorem verOf_right {p : Pair} (h : goodP p = true) (n : Int) : (verOf n p).right = true := (goodP_size h).2.2.2

theorem lastOf_le {l : List Ver} {m : Int} (hm : 0 ≤ m) (h : ∀ v ∈ l, v.at_ ≤ m) : lastOf l ≤ m := by
  unfold lastOf
  split
  · cases hl : l.getLast? with
    | none => exact hm
    | some v => exact h v (List.mem_of_getLast? hl)
  · exact hm
theorem canPut_of {l : List Ver} {v : Ver} {m : Int} (hg : good l = true) (hm : 0 ≤ m) (h : ∀ x ∈ l, x.at_ ≤ m) (hv : m < v.at_) (hr : v.right = true) : canPut l v = true := by
  have := lastOf_le hm h
  simp [canPut, hg, hr]; omega

/-- A chain of entries between two installs: those whose keys come yet end ahead of the place. -/
structure Mid (m : Int) (E : List Ent) (l : List Pair) : Prop where
  rising : Rising E
  chains : ∀ e ∈ E, ChOk (m + 1) e
  still : ∀ p ∈ l, ∀ v ∈ chainOf E p.key, v.at_ ≤ m
theorem Mid.start {S : Sto} (h : S.Ok) (l : List Pair) : Mid S.last S.ents l :=
  ⟨h.rising, fun e he => ⟨(h.chains e he).1, (h.chains e he).2.1, fun v hv => by have := (h.chains e he).2.2.1 v hv; omega, (h.chains e he).2.2.2⟩, fun p _ v hv => by
    rw [chainOf] at hv
    cases hf : findK S.ents p.key with
    | none => rw [hf] at hv; cases hv
    | some e => rw [hf] at hv; exact (h.chains e (findK_some hf).1).2.2.1 v hv⟩
theorem chainOf_good {E : List Ent} {m : Int} (h : ∀ e ∈ E, ChOk m e) (k : ByteArray) : good (chainOf E k) = true := by
  rw [chainOf]
  cases hf : findK E k with
  | none => rfl
  | some e => exact (h e (findK_some hf).1).1
theorem Mid.can {m : Int} {E : List Ent} {p : Pair} {l : List Pair} (h : Mid m E (p :: l)) (hm : 0 ≤ m) (hp : goodP p = true) : canPut (chainOf E p.key) (verOf (m + 1) p) = true :=
  canPut_of (chainOf_good h.chains _) hm (h.still p (by simp)) (by show m < m + 1; omega) (verOf_right hp _)
theorem Mid.step {m : Int} {E : List Ent} {p : Pair} {l : List Pair} (h : Mid m E (p :: l)) (hm : 0 ≤ m) (hp : goodP p = true) (hlt : ∀ q ∈ l, klt p.key q.key = true) : Mid m (addE (m + 1) E p) l := by
  have hc := h.can hm hp
  refine ⟨addE_rising h.rising _ _, fun e he => ?_, fun q hq v hv => ?_⟩
  · rcases (mem_putE h.rising _ e).1 he with rfl | ⟨h1, _⟩
    · refine ⟨good_snoc hc, by simp, fun v hv => ?_, (goodP_size hp).1, (goodP_size hp).2.1⟩
      rcases List.mem_append.1 hv with hv | hv
      · have := h.still p (by simp) v hv; omega
      · rw [List.mem_singleton.1 hv]; exact Int.le_refl _
    · exact h.chains e h1
  · rw [chainOf_add h.rising, if_neg (klt_ne (hlt q hq)).symm] at hv
    exact h.still q (List.mem_cons_of_mem _ hq) v hv
theorem Mid.all : ∀ {l : List Pair} {m : Int} {E : List Ent} (_ : Mid m E l) (_ : 0 ≤ m) (_ : ∀ p ∈ l, goodP p = true) (_ : l.Pairwise fun a b => klt a.key b.key = true), Mid m (addAll (m + 1) E l) []
  | [], _, _, h, _, _, _ => h
  | p :: l, m, E, h, hm, hg, hp => Mid.all (l := l) (h.step hm (hg p (by simp)) (List.pairwise_cons.1 hp).1) hm (fun q hq => hg q (List.mem_cons_of_mem _ hq)) (List.pairwise_cons.1 hp).2
theorem inst_ok {S : Sto} (h : S.Ok) (n : Int) (l : List Pair) : (inst S n l).2.Ok := by
  unfold inst
  split
  · rename_i hc
    obtain ⟨hg, rfl⟩ := hc
    obtain ⟨g1, g2⟩ := goodL_all hg
    have h0 := h.fl
    have h1 := h.le
    have hM := Mid.all (Mid.start h l) (by omega) g1 g2
    exact ⟨hM.rising, hM.chains, h.fl, by show S.floor ≤ S.last + 1; omega⟩
  · exact h

theorem trims_mem {E : List Ent} {n : Int} {e : Ent} : e ∈ trims E n ↔ ∃ a ∈ E, e = ⟨a.key, trim a.c n⟩ ∧ trim a.c n ≠ [] := by
  unfold trims
  rw [List.mem_filter, List.mem_map]
  constructor
  · rintro ⟨⟨a, ha, rfl⟩, h2⟩
    exact ⟨a, ha, rfl, by simpa [full, trimE] using h2⟩
  · rintro ⟨a, ha, rfl, h2⟩
    exact ⟨⟨a, ha, rfl⟩, by simpa [full] using h2⟩
theorem trims_rising {E : List Ent} (h : Rising E) (n : Int) : Rising (trims E n) := by
  refine List.Pairwise.filter _ ?_
  rw [List.pairwise_map]
  exact h
theorem trim_mem {l : List Ver} {n : Int} {v : Ver} (h : v ∈ trim l n) : v ∈ l := by
  unfold trim at h
  split at h
  · exact List.mem_of_mem_drop h
  · cases h
theorem coll_ok {S : Sto} (h : S.Ok) (n : Int) : (coll S n).2.Ok := by
  unfold coll
  split
  · exact h
  · rename_i hc
    have h0 := h.fl
    refine ⟨trims_rising h.rising n, fun e he => ?_, by show 0 ≤ n; omega, by show n ≤ S.last; omega⟩
    obtain ⟨a, ha, rfl, hne⟩ := trims_mem.1 he
    have hk := h.chains a ha
    exact ⟨good_trim _ _, hne, fun v hv => hk.2.2.1 v (trim_mem hv), hk.2.2.2⟩
theorem addE_length {E : List Ent} (hr : Rising E) (n : Int) (p : Pair) : (addE n E p).length ≤ E.length + 1 := by
  rw [addE, putE_length hr]; split <;> omega
theorem addAll_length : ∀ {l : List Pair} {E : List Ent} (_ : Rising E) (n : Int), (addAll n E l).length ≤ E.length + l.length
  | [], _, _, _ => by simp [addAll]
  | p :: l, E, h, n => by
    have h1 := addAll_length (l := l) (addE_rising h n p) n
    have h2 := addE_length h n p
    show (addAll n (addE n E p) l).length ≤ _
    simp only [List.length_cons]; omega
theorem trims_length (E : List Ent) (n : Int) : (trims E n).length ≤ E.length := by
  unfold trims
  exact Nat.le_trans (List.length_filter_le _ _) (by simp)
theorem good_length {l : List Ver} : ∀ {a m : Int}, goodFrom a l = true → a ≤ m → (∀ v ∈ l, v.at_ ≤ m) → (l.length : Int) ≤ m - a := by
  induction l with
  | nil => intro a m _ h _; simp; omega
  | cons x l ih =>
    intro a m h ham hv
    simp only [goodFrom, Bool.and_eq_true, decide_eq_true_eq] at h
    have hx := hv x (by simp)
    have := ih h.2 hx fun v hm => hv v (List.mem_cons_of_mem _ hm)
    simp only [List.length_cons]; omega
theorem ChOk.len {m : Int} {e : Ent} (h : ChOk m e) (hm : 0 ≤ m) : (e.c.length : Int) ≤ m := by
  have := good_length (a := 0) (m := m) h.1 hm h.2.2.1
  omega
end Go.Proofs.Ytidfogcilegloaa
