import Derived.Test.YtidfogcilegloaaS9
/-! The document's examples of a session. -/
namespace Go.Proofs.Ytidfogcilegloaa
open Go.RowKit Go.Op

theorem st_new (w0 w : World) (h : Below w0.heap.size w0 w) : Calls Try.prog 6 #[] w fun e w' => ∃ pb mb kv X, e = .returned (.pointer (some ⟨pb, 0, none⟩)) ∧ My w0 w' pb mb kv X Sto.new :=
  (my_new w0 w h).mono fun _ _ ⟨h1, h2⟩ => ⟨_, _, _, _, h1, h2⟩
theorem se_new {w0 w : World} {pb mb : Nat} {kv : Value} {X : List Nat} {S : Sto} {id : Int} (h : My w0 w pb mb kv X S) (h1 : 1 ≤ id) (h8 : id ≤ 8) : Calls Try.prog 7 #[.int .i64 id] w fun e w' => ∃ xb, e = .returned (.pointer (some ⟨xb, 0, none⟩)) ∧ Pr w0 w' pb mb xb S id :=
  (pr_new h h1 h8).mono fun _ _ ⟨h1, h2⟩ => ⟨_, h1, h2⟩
def kA : ByteArray := ⟨#[97]⟩
def kB : ByteArray := ⟨#[98]⟩
def sA : Ses := ⟨1, true, 0, false, [], [⟨⟨#[97]⟩, ⟨#[49]⟩, false⟩], 1, []⟩
def sB : Ses := ⟨1, true, 0, false, [], [⟨⟨#[97]⟩, ⟨#[49]⟩, false⟩], 2, []⟩
def sC : Ses := ⟨1, true, 0, false, [⟨false, ⟨#[98]⟩, ⟨#[]⟩, []⟩], [⟨⟨#[97]⟩, ⟨#[49]⟩, false⟩], 3, [⟨#[98]⟩]⟩
theorem liv1 : (Ses.start 1 0 false).put ⟨⟨#[97]⟩, ⟨#[49]⟩, false⟩ = (0, sA) := by
  simp [Ses.put, Ses.start, Ses.bump, sA, B.rput, B.hasK, B.put, B.low, ByteArray.size]
theorem liv2 : sA.get Sto.new ⟨#[97]⟩ = ((⟨#[49]⟩, 0), sB) := by
  simp [Ses.get, sA, sB, Ses.bump, B.findK, ByteArray.size, ByteArray.toList_eq]
theorem liv3 : sB.get Sto.new ⟨#[98]⟩ = ((⟨#[]⟩, 8), sC) := by
  simp [Ses.get, sB, sC, Ses.bump, B.findK, ByteArray.size, ByteArray.toList_eq, getS, may, Sto.new, chainOf, Go.Proofs.Ytidfogcilegloaa.findK, Go.Proofs.Ytidfogcilegloaa.get, good, goodFrom, seen, live, Ses.read]
theorem liv4 : C.keep [] sC.reads = [⟨false, ⟨#[98]⟩, ⟨#[]⟩, []⟩] := by
  simp [sC, C.keep, C.seenIn]

set_option maxRecDepth 100000 in
set_option maxHeartbeats 4000000 in
theorem lives_calls (w : World) : Calls Try.prog 8 #[] w fun e w' => e = .returned (.bool true) ∧ Below w.heap.size w w' := by
  go_enter Try.func8, Try.ntmps8
  go_wp2_with fail
  refine (st_new w w (Below.refl _ _)).mono ?_
  rintro e w1 ⟨pb, mb, kv, X, rfl, hM⟩
  have HN := Lib.hid (se_new (id := 1) hM (by omega) (by omega))
  clear hM
  go_wp2_with fail
  refine HN.out.mono ?_
  rintro e w2 ⟨xb, rfl, hP⟩
  have HN2 := Lib.hid (hP.begin false)
  clear hP HN
  go_wp2_with fail
  refine HN2.out.mono ?_
  rintro e w3 ⟨rfl, hB⟩
  have HN := Lib.hid (Bo.put (s := Ses.start 1 0 false) hB ⟨#[97]⟩ ⟨#[49]⟩ (by simp [ByteArray.size]))
  rw [liv1] at HN
  clear hB HN2
  go_wp2_with fail
  refine HN.out.mono ?_
  rintro e w4 ⟨rfl, hB⟩
  have HN2 := Lib.hid (Bo.get (s := sA) hB ⟨#[97]⟩ (by simp [ByteArray.size]))
  rw [liv2] at HN2
  clear hB HN
  go_wp2_with fail
  refine HN2.out.mono ?_
  rintro e w5 ⟨rfl, hB⟩
  have HN := Lib.hid (Bo.get (s := sB) hB ⟨#[98]⟩ (by simp [ByteArray.size]))
  rw [liv3] at HN
  clear hB HN2
  go_wp2_with fail
  refine HN.out.mono ?_
  rintro e w6 ⟨rfl, hB⟩
  have HN2 := Lib.hid (Bo.record (s := sC) hB)
  rw [liv4] at HN2
  clear hB HN
  go_wp2_with fail
  refine HN2.out.mono ?_
  rintro e w7 ⟨R, nr, cr, W, nw, cw, rfl, hR, hW, hb, hB⟩
  have hnr := hR.length.1
  have hnw : nw = 1 := hW.length.1.symm
  obtain rfl : nr = 1 := hnr.symm
  subst hnw
  obtain ⟨g, off, P, np, cp, rfl, hg, x0, x1, -, -, -⟩ := C.sl_read hR (i := 0) rfl
  have x1' : w7.cell? ⟨g, off + 1, none⟩ = some (.string ⟨#[98]⟩) := by simpa using x1
  have HBE := Lib.hid hB.be
  clear hR hW hb hB HN2 x0 x1
  go_wp2
  go_ret
  exact ⟨rfl, HBE.out.alloc HBE.out.size _⟩
end Go.Proofs.Ytidfogcilegloaa
