/- Instructions of a machine: copied, compared. No conditions. Functions of a machine: copied, compared. No conditions but on how many there are. Programs of a machine: copied, compared, measured. -/
import Derived.Test.YtbdbmmdnidonjaaDoorUJa
import Derived.StillTailTactics
import Derived.Deep.RegionHeld3
set_option linter.unusedVariables false
set_option linter.unusedSimpArgs false
set_option maxRecDepth 100000
namespace Go.Proofs.YtbdbmmdnidonjaaDoor
open Go.RowKit
structure Mi where
 op : Int
 a : Int
 b : Int
 c : Int
 n : Int
def Mi.cells (x : Mi) : List Value := [.int .i64 x.op, .int .i64 x.a, .int .i64 x.b, .int .i64 x.c, .int .i64 x.n]
def Mi.val (x : Mi) : Value := .agg #[.int .i64 x.op, .int .i64 x.a, .int .i64 x.b, .int .i64 x.c, .int .i64 x.n]
theorem info_mi : (Tryd.prog.info? 124).map (fun i => (i.zero, i.size, i.bytes)) = some (some (.agg #[.int .i64 0, .int .i64 0, .int .i64 0, .int .i64 0, .int .i64 0]), 5, 40) := by kernel_rfl
/-- the slice v reads as these instructions -/
def MisAt (w : World) (v : Value) (xs : List Mi) : Prop :=
 ∃ a cap, v = .slice a xs.length cap ∧ ∀ i x, xs[i]? = some x → ∃ b off, a = some ⟨b, off, none⟩ ∧ w.cell? ⟨b, off + i * 5, none⟩ = some (.int .i64 x.op) ∧ w.cell? ⟨b, off + i * 5 + 1, none⟩ = some (.int .i64 x.a) ∧ w.cell? ⟨b, off + i * 5 + 2, none⟩ = some (.int .i64 x.b) ∧ w.cell? ⟨b, off + i * 5 + 3, none⟩ = some (.int .i64 x.c) ∧ w.cell? ⟨b, off + i * 5 + 4, none⟩ = some (.int .i64 x.n)
/-- instruction x stands at place i of a row of cells -/
def MiIn (ys : List Value) (i : Nat) (x : Mi) : Prop :=
 ys[i * 5]? = some (.int .i64 x.op) ∧ ys[i * 5 + 1]? = some (.int .i64 x.a) ∧ ys[i * 5 + 2]? = some (.int .i64 x.b) ∧ ys[i * 5 + 3]? = some (.int .i64 x.c) ∧ ys[i * 5 + 4]? = some (.int .i64 x.n)
/-- v is a slice of the call's own, not nil, with these instructions -/
def OwnMis (B : Nat) (w : World) (g cap : Nat) (xs : List Mi) : Prop :=
 ∃ ys, w.ownsRow B 124 5 (.slice (some ⟨g, 0, none⟩) xs.length cap) xs.length ys ∧ ∀ i x, xs[i]? = some x → MiIn ys i x
theorem OwnMis.at {B : Nat} {w : World} {g cap : Nat} {xs : List Mi} (h : OwnMis B w g cap xs) : MisAt w (.slice (some ⟨g, 0, none⟩) xs.length cap) xs := by
 obtain ⟨ys, ho, hx⟩ := h
 refine ⟨_, _, rfl, fun i x hi => ⟨g, 0, rfl, ?_⟩⟩
 have hil : i < xs.length := by
  rcases Nat.lt_or_ge i xs.length with h | h
  ·exact h
  ·rw [List.getElem?_eq_none h] at hi; cases hi
 obtain ⟨h0, h1, h2, h3, h4⟩ := hx i x hi
 simp only [Nat.zero_add]
 rw [ho.cellAt (i * 5) (by omega), ho.cellAt (i * 5 + 1) (by omega), ho.cellAt (i * 5 + 2) (by omega), ho.cellAt (i * 5 + 3) (by omega), ho.cellAt (i * 5 + 4) (by omega)]
 exact ⟨h0, h1, h2, h3, h4⟩
theorem OwnMis.below {B : Nat} {w w' : World} {g cap : Nat} {xs : List Mi} (h : OwnMis B w g cap xs) (hb : Below w.heap.size w w') : OwnMis B w' g cap xs := by
 obtain ⟨ys, ho, hx⟩ := h
 exact ⟨ys, ownsRow_below ho hb, hx⟩
theorem MisAt.below {w w' : World} {v : Value} {xs : List Mi} (h : MisAt w v xs) (hb : Below w.heap.size w w') : MisAt w' v xs := by
 obtain ⟨a, cap, hv, hc⟩ := h
 refine ⟨a, cap, hv, fun i x hi => ?_⟩
 obtain ⟨b, off, ha, c0, c1, c2, c3, c4⟩ := hc i x hi
 have hbl : b < w.heap.size := World.block_lt_of_cell? w ⟨b, off + i * 5, none⟩ c0
 refine ⟨b, off, ha, ?_, ?_, ?_, ?_, ?_⟩
 ·rw [hb.cell (p := ⟨b, off + i * 5, none⟩) hbl]; exact c0
 ·rw [hb.cell (p := ⟨b, off + i * 5 + 1, none⟩) hbl]; exact c1
 ·rw [hb.cell (p := ⟨b, off + i * 5 + 2, none⟩) hbl]; exact c2
 ·rw [hb.cell (p := ⟨b, off + i * 5 + 3, none⟩) hbl]; exact c3
 ·rw [hb.cell (p := ⟨b, off + i * 5 + 4, none⟩) hbl]; exact c4
end Go.Proofs.YtbdbmmdnidonjaaDoor
set_option maxRecDepth 100000
namespace Go.Proofs.YtbdbmmdnidonjaaDoor
open Go.RowKit
structure Mf where
 params : Int
 slots : Int
 ins : List Mi
theorem info_mf : (Tryd.prog.info? 105).map (fun i => (i.zero, i.size, i.bytes)) = some (some (.agg #[.int .i64 0, .int .i64 0, .slice none 0 0]), 3, 40) := by kernel_rfl
/-- the slice v reads as these functions -/
def MfsAt (w : World) (v : Value) (fs : List Mf) : Prop :=
 ∃ a cap, v = .slice a fs.length cap ∧ ∀ i f, fs[i]? = some f → ∃ b off iv, a = some ⟨b, off, none⟩ ∧ w.cell? ⟨b, off + i * 3, none⟩ = some (.int .i64 f.params) ∧ w.cell? ⟨b, off + i * 3 + 1, none⟩ = some (.int .i64 f.slots) ∧ w.cell? ⟨b, off + i * 3 + 2, none⟩ = some iv ∧ MisAt w iv f.ins
theorem MfsAt.below {w w' : World} {v : Value} {fs : List Mf} (h : MfsAt w v fs) (hb : Below w.heap.size w w') : MfsAt w' v fs := by
 obtain ⟨a, cap, hv, hc⟩ := h
 refine ⟨a, cap, hv, fun i x hi => ?_⟩
 obtain ⟨b, off, iv, ha, c0, c1, c2, hm⟩ := hc i x hi
 have hbl : b < w.heap.size := World.block_lt_of_cell? w ⟨b, off + i * 3, none⟩ c0
 refine ⟨b, off, iv, ha, ?_, ?_, ?_, hm.below hb⟩
 ·rw [hb.cell (p := ⟨b, off + i * 3, none⟩) hbl]; exact c0
 ·rw [hb.cell (p := ⟨b, off + i * 3 + 1, none⟩) hbl]; exact c1
 ·rw [hb.cell (p := ⟨b, off + i * 3 + 2, none⟩) hbl]; exact c2
/-- sizes that no walk minds -/
def MfsLe (fs : List Mf) : Prop := fs.length ≤ 1048576 ∧ ∀ f ∈ fs, f.ins.length ≤ 1048576
/-- function f stands at place i of a row of cells; its instructions in a row of the call's own, not block g -/
def MfIn (B : Nat) (w : World) (g : Nat) (ys : List Value) (i : Nat) (f : Mf) : Prop :=
 ys[i * 3]? = some (.int .i64 f.params) ∧ ys[i * 3 + 1]? = some (.int .i64 f.slots) ∧ ∃ gi, gi ≠ g ∧ ys[i * 3 + 2]? = some (.slice (some ⟨gi, 0, none⟩) f.ins.length f.ins.length) ∧ OwnMis B w gi f.ins.length f.ins
def OwnMfs (B : Nat) (w : World) (g cap : Nat) (fs : List Mf) : Prop :=
 ∃ ys, w.ownsRow B 105 3 (.slice (some ⟨g, 0, none⟩) fs.length cap) fs.length ys ∧ ∀ i f, fs[i]? = some f → MfIn B w g ys i f
theorem idx_lt {α : Type} {l : List α} {i : Nat} {x : α} (h : l[i]? = some x) : i < l.length := by
 rcases Nat.lt_or_ge i l.length with h' | h'
 ·exact h'
 ·rw [List.getElem?_eq_none h'] at h; cases h
theorem OwnMfs.at {B : Nat} {w : World} {g cap : Nat} {fs : List Mf} (h : OwnMfs B w g cap fs) : MfsAt w (.slice (some ⟨g, 0, none⟩) fs.length cap) fs := by
 obtain ⟨ys, ho, hx⟩ := h
 refine ⟨_, _, rfl, fun i f hi => ?_⟩
 have hil := idx_lt hi
 obtain ⟨h0, h1, gi, _, h2, hm⟩ := hx i f hi
 refine ⟨g, 0, _, rfl, ?_, ?_, ?_, hm.at⟩
 ·rw [Nat.zero_add, ho.cellAt (i * 3) (by omega)]; exact h0
 ·rw [Nat.zero_add, ho.cellAt (i * 3 + 1) (by omega)]; exact h1
 ·rw [Nat.zero_add, ho.cellAt (i * 3 + 2) (by omega)]; exact h2
theorem OwnMfs.below {B : Nat} {w w' : World} {g cap : Nat} {fs : List Mf} (h : OwnMfs B w g cap fs) (hb : Below w.heap.size w w') : OwnMfs B w' g cap fs := by
 obtain ⟨ys, ho, hx⟩ := h
 refine ⟨ys, ownsRow_below ho hb, fun i f hi => ?_⟩
 obtain ⟨h0, h1, gi, hg, h2, hm⟩ := hx i f hi
 exact ⟨h0, h1, gi, hg, h2, hm.below hb⟩
/-- a row stands where its block stands -/
theorem ownsRow_block {w w' : World} {B : Nat} {e : TypeId} {size : Nat} {g n cap : Nat} {xs : List Value} (h : w.ownsRow B e size (.slice (some ⟨g, 0, none⟩) n cap) n xs) (hg : w'.heap[g]? = w.heap[g]?) : w'.ownsRow B e size (.slice (some ⟨g, 0, none⟩) n cap) n xs := by
 obtain ⟨h1, h2⟩ := h
 refine ⟨h1, ?_⟩
 rcases h2 with h2 | ⟨g', cap', cur, hv, hg', hh, r⟩
 ·exact .inl h2
 ·have e : g' = g := by
   injection hv with hv _ _
   injection hv with hv
   injection hv with hv
   exact hv.symm
  subst e
  exact .inr ⟨g', cap', cur, hv, hg', by rw [hg]; exact hh, r⟩
theorem OwnMis.block {B : Nat} {w w' : World} {g cap : Nat} {xs : List Mi} (h : OwnMis B w g cap xs) (hg : w'.heap[g]? = w.heap[g]?) : OwnMis B w' g cap xs := by
 obtain ⟨ys, ho, hx⟩ := h
 exact ⟨ys, ownsRow_block ho hg, hx⟩
theorem OwnMis.lt {B : Nat} {w : World} {g cap : Nat} {xs : List Mi} (h : OwnMis B w g cap xs) : g < w.heap.size ∧ B ≤ g := by
 obtain ⟨ys, ho, _⟩ := h
 have := ownsRow_lt ho
 exact ⟨this.1, this.2.1⟩
theorem OwnMis.mono {B B' : Nat} {w : World} {g cap : Nat} {xs : List Mi} (h : OwnMis B w g cap xs) (hB : B' ≤ B) : OwnMis B' w g cap xs := by
 obtain ⟨ys, ho, hx⟩ := h
 exact ⟨ys, ownsRow_mono ho hB, hx⟩
theorem bcell {W w1 : World} (hb : Below W.heap.size W w1) : (∀ b o, b < W.heap.size → w1.cell? ⟨b, o, none⟩ = W.cell? ⟨b, o, none⟩) ∧ (∀ b o, b < W.heap.size → w1.frozen? ⟨b, o, none⟩ = W.frozen? ⟨b, o, none⟩) :=
 ⟨fun b o h => hb.cell (p := ⟨b, o, none⟩) h, fun b o h => hb.frozen (p := ⟨b, o, none⟩) h⟩
theorem below1 (w : World) (o1 : Obj) : Below w.heap.size w (w.alloc o1) := (Below.refl _ _).alloc (Nat.le_refl _) _
theorem below2 (w : World) (o1 o2 : Obj) : Below w.heap.size w ((w.alloc o1).alloc o2) := (below1 w o1).alloc (by simp) _
theorem below3 (w : World) (o1 o2 o3 : Obj) : Below w.heap.size w (((w.alloc o1).alloc o2).alloc o3) := (below2 w o1 o2).alloc (by simp; omega) _
end Go.Proofs.YtbdbmmdnidonjaaDoor
set_option maxRecDepth 100000
namespace Go.Proofs.YtbdbmmdnidonjaaDoor
open Go.RowKit
theorem OwnMfs.mono {B B' : Nat} {w : World} {g cap : Nat} {fs : List Mf} (h : OwnMfs B w g cap fs) (hB : B' ≤ B) : OwnMfs B' w g cap fs := by
 obtain ⟨ys, ho, hx⟩ := h
 refine ⟨ys, ownsRow_mono ho hB, fun i f hi => ?_⟩
 obtain ⟨h0, h1, gi, hg, h2, hm⟩ := hx i f hi
 exact ⟨h0, h1, gi, hg, h2, hm.mono hB⟩
/-- the sizes of functions, as szMach counts them -/
def sumIns : List Mf → Int
 |[] => 0
 |f :: fs => f.ins.length + sumIns fs
theorem sumIns_append : ∀ (a b : List Mf), sumIns (a ++ b) = sumIns a + sumIns b
 |[], b => by simp [sumIns]
 |f :: a, b => by
  show (f.ins.length : Int) + sumIns (a ++ b) = ((f.ins.length : Int) + sumIns a) + sumIns b
  rw [sumIns_append a b]; omega
theorem take_snocF (fs : List Mf) (k : Nat) (f : Mf) (h : fs[k]? = some f) : sumIns (fs.take (k + 1)) = sumIns (fs.take k) + f.ins.length := by
 have hk := idx_lt h
 rw [List.take_succ_eq_append_getElem hk, sumIns_append]
 rw [List.getElem?_eq_getElem hk] at h
 injection h with h
 rw [h]
 simp [sumIns]
end Go.Proofs.YtbdbmmdnidonjaaDoor
