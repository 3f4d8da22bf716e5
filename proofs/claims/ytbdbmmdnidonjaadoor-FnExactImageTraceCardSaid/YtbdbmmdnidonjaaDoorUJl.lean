/- A valid program of the machine, in plain words. No program in sight. A run of a program of the machine: impl's runMach. impl.RunMach and impl.MachSteps. -/
import Derived.Test.YtbdbmmdnidonjaaDoorUJg
import Derived.Test.YtbdbmmdnidonjaaDoorUJk
import Derived.Test.YtbdbmmdnidonjaaDoorUJi
set_option linter.unusedVariables false
set_option linter.unusedSimpArgs false
set_option maxRecDepth 100000
namespace Go.Proofs.YtbdbmmdnidonjaaDoor
open Go.RowKit
theorem insOk_ok {k : Nat} {f : Mf} {x : Mi} (h : insOk k f x = true) (hp : 0 ≤ f.params) (hs : 0 ≤ f.slots) :
  NiOk k f.params.toNat f.slots.toNat x.ni ∧ x.ni.mi = x ∧ ((x.op = 20 ∨ x.op = 21) → x.ni.n < f.ins.length) := by
 obtain ⟨op, a, b, c, n⟩ := x
 unfold insOk formOk restOk at h
 simp only [Bool.and_eq_true, decide_eq_true_eq, inR_iff, Bool.or_eq_true, Bool.not_eq_true', beq_iff_eq] at h
 obtain ⟨⟨⟨⟨⟨⟨h1, h2⟩, ⟨_, hn0⟩⟩, ha⟩, hb⟩, hc⟩, hn⟩ := h
 have hN : hasF 3 op = true → 0 ≤ n ∧ n ≤ mostOf k f op := fun hf => hn.resolve_left (by simp [hf])
 have hn' : 0 ≤ n := by
  cases hf : hasF 3 op
  ·rw [hf] at hn0
   have := hn0.resolve_left (by simp)
   omega
  ·exact (hN hf).1
 simp only [Mi.ni]
 have e14 : op = 14 → n ≤ (k : Int) - 1 := fun e => by
  subst e; have := (hN (by decide)).2; simpa [mostOf] using this
 have e15 : op = 15 ∨ op = 16 → n ≤ f.slots - 1 := fun e => by
  rcases e with e | e <;> (subst e; have := (hN (by decide)).2; simpa [mostOf] using this)
 have e17 : op = 17 → n ≤ 2 := fun e => by
  subst e; have := (hN (by decide)).2; simpa [mostOf] using this
 have e18 : op = 18 → n ≤ f.params - 1 := fun e => by
  subst e; have := (hN (by decide)).2; simpa [mostOf] using this
 have e20 : op = 20 ∨ op = 21 → n ≤ (f.ins.length : Int) - 1 := fun e => by
  rcases e with e | e <;> (subst e; have := (hN (by decide)).2; simpa [mostOf] using this)
 have e1 : op = 1 → n ≤ 255 := fun e => by
  subst e; have := (hN (by decide)).2; simpa [mostOf] using this
 refine ⟨⟨⟨by simp only []; omega, by simp only []; omega⟩, by simp only []; omega, by simp only []; omega, by simp only []; omega, ?_, ?_, ?_, ?_, ?_⟩, ?_, ?_⟩
 ·intro e; simp only [] at e ⊢; have := e1 (by omega); omega
 ·intro e; simp only [] at e ⊢; have := e15 (by omega); omega
 ·intro e; simp only [] at e ⊢; have := e17 (by omega); omega
 ·intro e; simp only [] at e ⊢; have := e18 (by omega); omega
 ·intro e; simp only [] at e ⊢; have := e14 (by omega); omega
 ·simp only [Ni.mi, Mi.mk.injEq]; omega
 ·intro e; have := e20 e; omega
theorem machPg_ok {fs : List Mf} (h : MachOk fs) : PgOk (machPg fs) fs.length ∧ MfsNat fs := by
 obtain ⟨h1, hf, h2⟩ := h
 have hfn : ∀ k f, fs[k]? = some f → (0 ≤ f.params ∧ f.params ≤ 3) ∧ (0 ≤ f.slots ∧ f.slots ≤ 64) ∧ 0 < f.ins.length ∧ (lastOp f = 20 ∨ lastOp f = 22) ∧ ∀ x ∈ f.ins, insOk k f x = true := fun k f hk => by
  have := hf k f hk
  unfold fnOk lastOk at this
  simp only [Bool.and_eq_true, inR_iff, decide_eq_true_eq, Bool.or_eq_true, Bool.not_eq_true'] at this
  obtain ⟨⟨⟨⟨a1, a2⟩, a3⟩, a4⟩, a5⟩ := this
  refine ⟨a1, a2, by omega, a4, fun x hx => ?_⟩
  have := List.any_eq_false.1 a5 x hx
  simpa using this
 have hat : ∀ k, k < fs.length → fs[k]? = some (mfAt fs k) := fun k hk => by
  unfold mfAt; rw [List.getElem?_eq_getElem hk]; rfl
 have hins : ∀ k at_, k < fs.length → at_ < (mfAt fs k).ins.length → (mfAt fs k).ins[at_]? = some (miAt fs k at_) := fun k at_ _ ha => by
  unfold miAt; rw [List.getElem?_eq_getElem ha]; rfl
 refine ⟨⟨fun k hk => ?_, fun k hk => ?_, fun k hk => ?_, fun k at_ hk hg => ?_, fun k at_ hk hg hj => ?_, fun k at_ hk hg hj hb => ?_⟩, fun f hfm => ?_, fun f hfm x hx => ?_⟩
 ·have := (hfn k _ (hat k hk)).1
  show (mfAt fs k).params.toNat ≤ 3; omega
 ·have := (hfn k _ (hat k hk)).2.1
  show (mfAt fs k).slots.toNat ≤ 64; omega
 ·exact (hfn k _ (hat k hk)).2.2.1
 ·obtain ⟨a1, a2, _, _, a5⟩ := hfn k _ (hat k hk)
  exact (insOk_ok (a5 _ (List.mem_of_getElem? (hins k at_ hk hg))) a1.1 a2.1).1
 ·obtain ⟨a1, a2, _, _, a5⟩ := hfn k _ (hat k hk)
  have hok := insOk_ok (a5 _ (List.mem_of_getElem? (hins k at_ hk hg))) a1.1 a2.1
  refine hok.2.2 ?_
  have hm := hok.2.1
  have ho : ((miAt fs k at_).ni.op : Int) = (miAt fs k at_).op := congrArg Mi.op hm
  have hj' : (miAt fs k at_).ni.op = 20 ∨ (miAt fs k at_).ni.op = 21 := hj
  omega
 ·obtain ⟨a1, a2, a3, a4, a5⟩ := hfn k _ (hat k hk)
  show at_ + 1 < (mfAt fs k).ins.length
  have hg' : at_ < (mfAt fs k).ins.length := hg
  rcases Nat.lt_or_ge (at_ + 1) (mfAt fs k).ins.length with hl | hl
  ·exact hl
  ·exfalso
   have hlast : (mfAt fs k).ins.length - 1 = at_ := by omega
   have hok := insOk_ok (a5 _ (List.mem_of_getElem? (hins k at_ hk hg))) a1.1 a2.1
   have ho : ((miAt fs k at_).ni.op : Int) = (miAt fs k at_).op := congrArg Mi.op hok.2.1
   have hlo : lastOp (mfAt fs k) = (miAt fs k at_).op := by
    unfold lastOp; rw [hlast, hins k at_ hk hg']; rfl
   have hj' : (miAt fs k at_).ni.op ≠ 20 := hj
   have hb' : (miAt fs k at_).ni.op ≠ 22 := hb
   rcases a4 with e | e <;> omega
 ·obtain ⟨k, hk⟩ := List.getElem?_of_mem hfm
  have := hfn k f hk
  exact ⟨this.1.1, this.2.1.1⟩
 ·obtain ⟨k, hk⟩ := List.getElem?_of_mem hfm
  obtain ⟨a1, a2, _, _, a5⟩ := hfn k f hk
  exact (insOk_ok (a5 x hx) a1.1 a2.1).2.1
end Go.Proofs.YtbdbmmdnidonjaaDoor
set_option maxRecDepth 100000
namespace Go.Proofs.YtbdbmmdnidonjaaDoor
open Go.RowKit
def cm0 (T : Nat) : Cm := ⟨List.replicate 16 0, [], T, []⟩
theorem cm0_ok (T : Nat) : CmOk (cm0 T) := ⟨by simp [cm0], small_zeros 16, fun x hx => by cases hx⟩
/-- a run of a program from its start -/
def runOf (P : Pg) (k : Nat) (inp : List Nat) (T : Nat) : Rs := loop P (T + 1) k 0 (newLc P k inp) (cm0 T)
end Go.Proofs.YtbdbmmdnidonjaaDoor
set_option maxRecDepth 100000
namespace Go.Proofs.YtbdbmmdnidonjaaDoor
open Go.RowKit
/-- numbers that are handed in -/
structure InSrc (w : World) (b off n cap : Nat) (zs : List Int) : Prop where
 len : zs.length = n
 cap : n ≤ cap
 small : n ≤ 1048576
 cells : ∀ i, i < n → w.cell? ⟨b, off + i, none⟩ = some (.int .i64 (zs.getD i 0))
theorem InSrc.ints {w : World} {b off n cap : Nat} {zs : List Int} (h : InSrc w b off n cap zs) : IntsAt w (.slice (some ⟨b, off, none⟩) n cap) zs :=
 ⟨_, cap, by rw [h.len], fun i hi => ⟨b, off, rfl, h.cells i (by rw [← h.len]; exact hi)⟩⟩
theorem InSrc.below {w w' : World} {b off n cap : Nat} {zs : List Int} (h : InSrc w b off n cap zs) (hb : Below w.heap.size w w') : InSrc w' b off n cap zs :=
 ⟨h.len, h.cap, h.small, fun i hi => by rw [hb.cell (p := ⟨b, off + i, none⟩) (World.block_lt_of_cell? _ _ (h.cells i hi))]; exact h.cells i hi⟩
def toNats (zs : List Int) : List Nat := zs.map Int.toNat
theorem valsOk_nats {zs : List Int} (h : valsOk zs = true) : Small (toNats zs) ∧ ∀ i, i < zs.length → zs.getD i 0 = (((toNats zs).getD i 0 : Nat) : Int) := by
 have hall : ∀ z ∈ zs, 0 ≤ z ∧ z ≤ 255 := fun z hz => inR_iff.1 (List.all_eq_true.1 h z hz)
 refine ⟨fun x hx => ?_, fun i hi => ?_⟩
 ·obtain ⟨z, hz, rfl⟩ := List.mem_map.1 hx
  have := hall z hz; omega
 ·have := hall zs[i] (List.getElem_mem hi)
  simp only [toNats, List.getD_eq_getElem?_getD, List.getElem?_map, List.getElem?_eq_getElem hi, Option.map_some, Option.getD_some]
  omega
theorem InSrc.src {w : World} {b off n cap : Nat} {zs : List Int} (h : InSrc w b off n cap zs) (hv : valsOk zs = true) : SrcAt w b off n cap (toNats zs) :=
 ⟨by simp [toNats, h.len], h.cap, h.small, fun i hi => by rw [h.cells i hi, (valsOk_nats hv).2 i (by rw [h.len]; exact hi)]⟩
def OutAt (w : World) (B : Nat) (o : Option Rs) (v : Value) : Prop :=
 match o with
 |none => v = .agg #[.slice none 0 0, .int .i64 0, .int .i64 0, .slice none 0 0]
 |some r => ∃ sa sn sc ca cc, v = .agg #[.slice sa sn sc, .int .i64 (r.en : Int), .int .i64 (r.val : Int), .slice ca 16 cc] ∧ Said w B (.slice sa sn sc) r.cm.said ∧ w.ownsRow B 3 1 (.slice ca 16 cc) 16 (nats r.cm.cells) ∧ Apart2 (.slice ca 16 cc) (.slice sa sn sc)
def AnsPost (o : Option Rs) (w : World) (e : Ending) (w' : World) : Prop := ∃ v, e = .returned (.tuple #[v, .bool o.isSome]) ∧ OutAt w' w.heap.size o v ∧ Below w.heap.size w w'
theorem row_keep {w w' : World} {B B' : Nat} {e : TypeId} {size : Nat} {v : Value} {n : Nat} {xs : List Value} (h : w.ownsRow B' e size v n xs) (hB : B ≤ B') (hh : ∀ k, B' ≤ k → k < w.heap.size → w'.heap[k]? = w.heap[k]?) : w'.ownsRow B e size v n xs :=
 ownsRow_mono (ownsRow_same h fun k hk => hh k (World.ownsRow.lt h k hk).1 (World.ownsRow.lt h k hk).2) hB
end Go.Proofs.YtbdbmmdnidonjaaDoor
