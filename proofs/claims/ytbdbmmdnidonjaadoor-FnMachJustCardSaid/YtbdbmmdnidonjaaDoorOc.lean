/- The outcome of a run of the machine: impl's outcome and its closures. -/
import Derived.Test.YtbdbmmdnidonjaaDoorRv
import Derived.Test.YtbdbmmdnidonjaaDoorCt
set_option maxRecDepth 100000
namespace Go.Proofs.YtbdbmmdnidonjaaDoor
open Go.RowKit

set_option maxHeartbeats 1000000 in
/-- the closure of runMach -/
theorem rm1_any (W0 : World) (vb vo fl vcap : Nat) (fs : List Mf) (hm : MfsAt W0 (.slice (some ⟨vb, vo, none⟩) fl vcap) fs) (hfl : fl = fs.length) (h1 : 1 ≤ fl) (hP : PgOk (machPg fs) fs.length) (hN : MfsNat fs) (hle : MfsLe fs)
    (w : World) (pm : Nat) (rest : List Value) (T : Nat) (s : Cm) (sv : Value) (b off n cap : Nat) (inp : List Nat) (bm bp bi : Nat) (g : Nat) (hg : s.left < g) (hB : Below W0.heap.size W0 w) (hM : MacAt W0.heap.size w pm rest T s sv) (hs : CmOk s)
    (hsrc : SrcAt w b off n cap inp) (hin : Small inp) (hpar : (machPg fs).par (fl - 1) ≤ n) (hsd : s.said.length + s.left ≤ T) (hT : T ≤ 300000)
    (c0 : w.cell? ⟨bm, 0, none⟩ = some (.pointer (some ⟨pm, 0, none⟩))) (c1 : w.cell? ⟨bp, 0, none⟩ = some (.slice (some ⟨vb, vo, none⟩) fl vcap)) (c2 : w.cell? ⟨bi, 0, none⟩ = some (.slice (some ⟨b, off, none⟩) n cap)) :
    Calls Tryd.prog 77 #[.pointer (some ⟨bm, 0, none⟩), .pointer (some ⟨bp, 0, none⟩), .pointer (some ⟨bi, 0, none⟩)] w
      (RunPost W0.heap.size pm rest T sv (loop (machPg fs) g (fl - 1) 0 (newLc (machPg fs) (fl - 1) inp) s) w) := by
  have HR := Lib.hid (run_any W0 _ fs hm hP hN hle g w pm rest T s sv (fl - 1) b off n cap inp hg (by omega) hB hM hs hsrc hin hpar hsd hT)
  have hlm := hle.1
  generalize loop (machPg fs) g (fl - 1) 0 (newLc (machPg fs) (fl - 1) inp) s = r at *
  have hfl1 : (fl : Int) - 1 = ((fl - 1 : Nat) : Int) := by omega
  have hf0 : fl ≤ 1048576 := by omega
  have hf1 : (0 : Int) ≤ fl := by omega
  rw [← hfl1] at HR
  clear hm hP hN hle hg hB hM hs hsrc hin hpar hsd hT hfl hlm hfl1
  go_enter Tryd.func77, Tryd.ntmps77
  go_wp2_with (fail)
  go_at_call 78
  refine HR.out.mono ?_
  rintro e w2 hpost
  unfold RunPost at hpost ⊢
  cases r with
  | ret v s2 =>
    obtain ⟨sv', rfl, h⟩ := hpost
    have HH := Lib.hid h
    clear h HR
    go_wp2_with (fail)
    go_ret
    exact ⟨sv', rfl, HH.out⟩
  | stop en s2 =>
    obtain ⟨sv', rfl, h⟩ := hpost
    have HH := Lib.hid h
    clear h HR
    go_wp2_with (fail)
    exact ⟨rfl, rfl, sv', HH.out⟩

/-- what the closure of outcome leaves: the value lies in the outcome's block -/
def OcPost (B pm b5 : Nat) (rest : List Value) (T : Nat) (sv : Value) (r : Rs) (w : World) (e : Ending) (w' : World) : Prop :=
  match r with
  | .ret v s2 => e = .returned (.tuple #[]) ∧ ∃ sv' w2, w' = w2.setCell ⟨b5, 2, none⟩ (.int .i64 (v : Int)) ∧ MacAt B w2 pm rest T s2 sv' ∧ Fr [pm] sv w sv' w2
  | .stop en s2 => e = .panicked (endChain en) ∧ ∃ sv', MacAt B w' pm rest T s2 sv' ∧ Fr [pm] sv w sv' w'

set_option maxHeartbeats 1000000 in
theorem oc1_any (w : World) (B pm : Nat) (rest : List Value) (T : Nat) (sv : Value) (r : Rs) (bf b5 : Nat) (caps : Array Value) (y : Value)
    (hf : w.cell? ⟨bf, 0, none⟩ = some (.func (.func 77) #[] caps)) (hcl : Calls Tryd.prog 77 caps w (RunPost B pm rest T sv r w))
    (h5 : w.cell? ⟨b5, 2, none⟩ = some y) (hz : w.frozen? ⟨b5, 2, none⟩ = false) (hne : b5 ≠ pm) (hsn : sv.ownBlock ≠ some b5) :
    Calls Tryd.prog 103 #[.pointer (some ⟨bf, 0, none⟩), .pointer (some ⟨b5, 0, none⟩)] w (OcPost B pm b5 rest T sv r w) := by
  have HC := Lib.hid hcl
  have hl5 := World.block_lt_of_cell? _ _ h5
  clear hcl
  go_enter Tryd.func103, Tryd.ntmps103
  go_wp2_with (fail)
  go_at_call 77
  refine HC.out.mono ?_
  rintro e w2 hpost
  unfold RunPost at hpost
  unfold OcPost
  cases r with
  | ret v s2 =>
    obtain ⟨sv', rfl, hM2, hF⟩ := hpost
    have e5 : w2.cell? ⟨b5, 2, none⟩ = some y := by rw [World.cell?_of_block (w := w) (a := ⟨b5, 2, none⟩) (hF.block hl5 (by simpa using hne) hsn)]; exact h5
    have ez : w2.frozen? ⟨b5, 2, none⟩ = false := by rw [World.frozen?_of_block (w := w) (a := ⟨b5, 2, none⟩) (hF.block hl5 (by simpa using hne) hsn)]; exact hz
    have HM := Lib.hid hM2
    have HF := Lib.hid hF
    clear hM2 hF HC hf h5 hz
    go_wp2_with (fail)
    go_end0
    exact ⟨rfl, sv', w2, rfl, HM.out, HF.out⟩
  | stop en s2 =>
    obtain ⟨sv', rfl, hM2, hF⟩ := hpost
    have HM := Lib.hid hM2
    have HF := Lib.hid hF
    clear hM2 hF HC
    go_wp2_with (fail)
    exact ⟨rfl, rfl, sv', HM.out, HF.out⟩

end Go.Proofs.YtbdbmmdnidonjaaDoor
