/- spec's run of a program of the machine: l22Start. spec.RunMach and spec.MachSteps answer what impl's answer. -/
import Derived.Test.YtbdbmmdnidonjaaDoorUJj
import Derived.Test.YtbdbmmdnidonjaaDoorUJl
set_option linter.unusedVariables false
set_option linter.unusedSimpArgs false
set_option maxRecDepth 100000
namespace Go.Proofs.YtbdbmmdnidonjaaDoor
open Go.RowKit
def Rs.over : Rs → Bool
 |.ret _ _ => false
 |.stop _ _ => true
/-- a run that has ended lies at pr -/
def Ended (B : Nat) (w : World) (mv : Value) (r : Rs) (pr cb : Nat) (sv : Value) : Prop :=
 Blk w pr (mkRun mv sv r.en r.val cb r.cm.left r.over) ∧ Blk w cb (nats r.cm.cells) ∧ Said w B sv r.cm.said ∧ B ≤ pr ∧ B ≤ cb ∧ pr ≠ cb
theorem Ended.below {B : Nat} {w w' : World} {mv : Value} {r : Rs} {pr cb : Nat} {sv : Value} (h : Ended B w mv r pr cb sv) (hb : Below w.heap.size w w') : Ended B w' mv r pr cb sv :=
 ⟨h.1.below hb, h.2.1.below hb, h.2.2.1.below hb, h.2.2.2⟩
theorem own_empty {X : World} {B q : Nat} (h : q = X.heap.size) (hB : B ≤ X.heap.size) : (X.alloc (.cells #[] 3)).ownsRow B 3 1 (.slice (some ⟨q, 0, none⟩) 0 0) 0 [] := by
 subst h
 exact World.ownsRow_lit X #[] 0 hB (by decide) rfl
end Go.Proofs.YtbdbmmdnidonjaaDoor
set_option maxRecDepth 100000
namespace Go.Proofs.YtbdbmmdnidonjaaDoor
open Go.RowKit
def toInts0 (xs : List Nat) : List Int := xs.map fun (n : Nat) => (n : Int)
theorem toInts0_len (xs : List Nat) : (toInts0 xs).length = xs.length := by simp [toInts0]
theorem nats_ints (xs : List Nat) : nats xs = ints (toInts0 xs) := by simp [nats, ints, toInts0]
theorem toInts0_get {xs : List Nat} {i : Nat} (h : i < xs.length) : (toInts0 xs).getD i 0 = ((xs.getD i 0 : Nat) : Int) := by
 simp [toInts0, List.getD_eq_getElem?_getD, List.getElem?_eq_getElem h]
theorem Blk.ints {w : World} {p cap : Nat} {xs : List Nat} (h : Blk w p (nats xs)) : IntsAt w (.slice (some ⟨p, 0, none⟩) xs.length cap) (toInts0 xs) :=
 ⟨_, cap, by rw [toInts0_len], fun i hi => ⟨p, 0, rfl, by rw [toInts0_len] at hi; rw [Nat.zero_add, h.cell, nats_get hi, toInts0_get hi]⟩⟩
theorem Said.ints {w : World} {B : Nat} {sv : Value} {xs : List Nat} (h : Said w B sv xs) : IntsAt w sv (toInts0 xs) := intsAt_of (by
 unfold Said at h
 rw [nats_ints] at h
 rw [toInts0_len]; exact h)
/-- an outcome that can be read -/
def OutRd (w : World) (o : Option Rs) (v : Value) : Prop :=
 match o with
 |none => v = .agg #[.slice none 0 0, .int .i64 0, .int .i64 0, .slice none 0 0]
 |some r => ∃ sa sn sc ca cc, v = .agg #[.slice sa sn sc, .int .i64 (r.en : Int), .int .i64 (r.val : Int), .slice ca 16 cc] ∧ IntsAt w (.slice sa sn sc) (toInts0 r.cm.said) ∧ IntsAt w (.slice ca 16 cc) (toInts0 r.cm.cells) ∧ r.cm.cells.length = 16
theorem OutRd.below {w w' : World} {o : Option Rs} {v : Value} (h : OutRd w o v) (hb : Below w.heap.size w w') : OutRd w' o v := by
 cases o with
 |none => exact h
 |some r =>
  obtain ⟨sa, sn, sc, ca, cc, hv, h1, h2, h3⟩ := h
  exact ⟨sa, sn, sc, ca, cc, hv, h1.below hb, h2.below hb, h3⟩
theorem OutAt.read {w : World} {B : Nat} {o : Option Rs} {v : Value} (h : OutAt w B o v) : OutRd w o v := by
 cases o with
 |none => exact h
 |some r =>
  obtain ⟨sa, sn, sc, ca, cc, hv, h1, h2, _⟩ := h
  have hl : r.cm.cells.length = 16 := by have := h2.1; simpa [nats_len] using this
  refine ⟨sa, sn, sc, ca, cc, hv, h1.ints, intsAt_of (B := B) ?_, hl⟩
  rw [toInts0_len, hl, ← nats_ints]; exact h2
theorem Ended.keep {B : Nat} {w w' : World} {mv : Value} {r : Rs} {pr cb : Nat} {sv : Value} (h : Ended B w mv r pr cb sv) (hh : ∀ k, B ≤ k → k < w.heap.size → w'.heap[k]? = w.heap[k]?) : Ended B w' mv r pr cb sv :=
 ⟨h.1.same (hh _ h.2.2.2.1 h.1.lt), h.2.1.same (hh _ h.2.2.2.2.1 h.2.1.lt), h.2.2.1.same (fun k hk => hh k (h.2.2.1.lt hk).1 (h.2.2.1.lt hk).2), h.2.2.2⟩
def AnsRd (o : Option Rs) (w : World) (e : Ending) (w' : World) : Prop := ∃ v, e = .returned (.tuple #[v, .bool o.isSome]) ∧ OutRd w' o v ∧ Below w.heap.size w w'
theorem fits3 {fs : List Mf} {zs : List Int} (h : RunsOk fs zs) : zs.length ≤ 3 := by
 obtain ⟨hmo, _, hp⟩ := h
 have hP := (machPg_ok hmo).1
 have h1 := hmo.1.1
 have := hP.par (fs.length - 1) (by omega)
 have h2 : (machPg fs).par (fs.length - 1) = zs.length := by
  show (mfAt fs (fs.length - 1)).params.toNat = zs.length
  rw [← hp]; simp
 omega
theorem endCells {B : Nat} {w : World} {mv : Value} {r : Rs} {pr cb : Nat} {sv : Value} (h : Ended B w mv r pr cb sv) :
  w.cell? ⟨pr, 1, none⟩ = some sv ∧ w.cell? ⟨pr, 2, none⟩ = some (.int .i64 (r.en : Int)) ∧ w.cell? ⟨pr, 3, none⟩ = some (.int .i64 (r.val : Int)) ∧ w.cell? ⟨pr, 4, none⟩ = some (.slice (some ⟨cb, 0, none⟩) 16 16) ∧ w.cell? ⟨pr, 5, none⟩ = some (.int .i64 (r.cm.left : Int)) := by
 refine ⟨?_, ?_, ?_, ?_, ?_⟩
 all_goals rw [h.1.cell]; rfl
end Go.Proofs.YtbdbmmdnidonjaaDoor
