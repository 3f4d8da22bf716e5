/- How the machine's run lies in the memory of spec: the run's block, a call's blocks. No program in sight. -/
import Derived.Test.YtbdbmmdnidonjaaDoorRp
set_option maxRecDepth 100000
namespace Go.Proofs.YtbdbmmdnidonjaaDoor
open Go.RowKit

def mkRun (mv sv : Value) (en val cb left : Nat) (ov : Bool) : List Value :=
  [mv, sv, .int .i64 (en : Int), .int .i64 (val : Int), .slice (some ⟨cb, 0, none⟩) 16 16, .int .i64 (left : Int), .bool ov]

structure RunAt (B : Nat) (w : World) (pr cb : Nat) (mv : Value) (en : Option Nat) (s : Cm) (sv : Value) : Prop where
  blk : Blk w pr (mkRun mv sv (en.getD 0) 0 cb s.left en.isSome)
  cells : Blk w cb (nats s.cells)
  said : Said w B sv s.said
  ne : pr ≠ cb
  sp : sv.ownBlock ≠ some pr
  sc : sv.ownBlock ≠ some cb
  gp : B ≤ pr
  gc : B ≤ cb

structure Ps where
  p0 : Nat
  p1 : Nat
  p2 : Nat
  p3 : Nat
  p4 : Nat
def Ps.has (p : Ps) (q : Nat) : Prop := q = p.p0 ∨ q = p.p1 ∨ q = p.p2 ∨ q = p.p3 ∨ q = p.p4
structure Ps.Apart (p : Ps) : Prop where
  a01 : p.p0 ≠ p.p1
  a02 : p.p0 ≠ p.p2
  a03 : p.p0 ≠ p.p3
  a04 : p.p0 ≠ p.p4
  a12 : p.p1 ≠ p.p2
  a13 : p.p1 ≠ p.p3
  a14 : p.p1 ≠ p.p4
  a23 : p.p2 ≠ p.p3
  a24 : p.p2 ≠ p.p4
  a34 : p.p3 ≠ p.p4

def mkSc (p : Ps) (n res : Nat) : List Value :=
  [.slice (some ⟨p.p1, 0, none⟩) 8 8, .slice (some ⟨p.p2, 0, none⟩) n n, .slice (some ⟨p.p3, 0, none⟩) 3 3, .slice (some ⟨p.p4, 0, none⟩) 3 3, .int .i64 (res : Int)]

structure SCall (w : World) (pr cb : Nat) (sv : Value) (p : Ps) (par : Nat) (l : Lc) : Prop where
  blk : Blk w p.p0 (mkSc p l.slots.length l.res)
  regs : Blk w p.p1 (nats l.regs)
  slots : Blk w p.p2 (nats l.slots)
  gives : Blk w p.p3 (nats l.gives)
  args : ∃ A, Blk w p.p4 (nats A) ∧ A.length = 3 ∧ ∀ j, j < par → A.getD j 0 = l.args.getD j 0
  apart : p.Apart
  far : ∀ q, p.has q → q ≠ pr ∧ q ≠ cb ∧ sv.ownBlock ≠ some q

theorem SCall.same {w w' : World} {pr cb : Nat} {sv sv' : Value} {p : Ps} {par : Nat} {l : Lc} (h : SCall w pr cb sv p par l) (hw : ∀ q, p.has q → w'.heap[q]? = w.heap[q]?) (hs : ∀ q, p.has q → sv'.ownBlock ≠ some q) : SCall w' pr cb sv' p par l := by
  obtain ⟨h0, h1, h2, h3, ⟨A, h4, h5⟩, ha, hf⟩ := h
  exact ⟨h0.same (hw _ (.inl rfl)), h1.same (hw _ (.inr (.inl rfl))), h2.same (hw _ (.inr (.inr (.inl rfl)))), h3.same (hw _ (.inr (.inr (.inr (.inl rfl))))), ⟨A, h4.same (hw _ (.inr (.inr (.inr (.inr rfl))))), h5⟩, ha, fun q hq => ⟨(hf q hq).1, (hf q hq).2.1, hs q hq⟩⟩
theorem SCall.lt {w : World} {pr cb : Nat} {sv : Value} {p : Ps} {par : Nat} {l : Lc} (h : SCall w pr cb sv p par l) {q : Nat} (hq : p.has q) : q < w.heap.size := by
  obtain ⟨h0, h1, h2, h3, ⟨A, h4, _⟩, _, _⟩ := h
  rcases hq with rfl | rfl | rfl | rfl | rfl
  · exact h0.lt
  · exact h1.lt
  · exact h2.lt
  · exact h3.lt
  · exact h4.lt
theorem SCall.keep {w w' : World} {pr cb : Nat} {sv sv' : Value} {p : Ps} {par : Nat} {l : Lc} (h : SCall w pr cb sv p par l) (hf : Fr [pr, cb] sv w sv' w') : SCall w' pr cb sv' p par l :=
  h.same (fun q hq => hf.block (h.lt hq) (by have := h.far q hq; simp; exact ⟨this.1, this.2.1⟩) (h.far q hq).2.2) (fun q hq => hf.ne (h.lt hq) (h.far q hq).2.2)
theorem SCall.below {w w' : World} {pr cb : Nat} {sv : Value} {p : Ps} {par : Nat} {l : Lc} (h : SCall w pr cb sv p par l) (hb : Below w.heap.size w w') : SCall w' pr cb sv p par l := h.keep (Fr.below hb)

theorem SCall.setReg {w : World} {pr cb : Nat} {sv : Value} {p : Ps} {par : Nat} {l : Lc} (h : SCall w pr cb sv p par l) (a v : Nat) : SCall (w.setCell ⟨p.p1, a, none⟩ (.int .i64 (v : Int))) pr cb sv p par (l.put a v) := by
  obtain ⟨h0, h1, h2, h3, ⟨A, h4, h5⟩, ha, hf⟩ := h
  refine ⟨h0.other ha.a01 _, ?_, h2.other (fun e => ha.a12 e.symm) _, h3.other (fun e => ha.a13 e.symm) _, ⟨A, h4.other (fun e => ha.a14 e.symm) _, h5⟩, ha, hf⟩
  show Blk _ _ (nats (l.regs.set a v))
  rw [← nats_set]; exact h1.set _ _
theorem SCall.setSlot {w : World} {pr cb : Nat} {sv : Value} {p : Ps} {par : Nat} {l : Lc} (h : SCall w pr cb sv p par l) (j v : Nat) : SCall (w.setCell ⟨p.p2, j, none⟩ (.int .i64 (v : Int))) pr cb sv p par { l with slots := l.slots.set j v } := by
  obtain ⟨h0, h1, h2, h3, ⟨A, h4, h5⟩, ha, hf⟩ := h
  refine ⟨?_, h1.other ha.a12 _, ?_, h3.other (fun e => ha.a23 e.symm) _, ⟨A, h4.other (fun e => ha.a24 e.symm) _, h5⟩, ha, hf⟩
  · simp only [List.length_set]; exact h0.other ha.a02 _
  · rw [← nats_set]; exact h2.set _ _
theorem SCall.setGive {w : World} {pr cb : Nat} {sv : Value} {p : Ps} {par : Nat} {l : Lc} (h : SCall w pr cb sv p par l) (j v : Nat) : SCall (w.setCell ⟨p.p3, j, none⟩ (.int .i64 (v : Int))) pr cb sv p par { l with gives := l.gives.set j v } := by
  obtain ⟨h0, h1, h2, h3, ⟨A, h4, h5⟩, ha, hf⟩ := h
  refine ⟨h0.other ha.a03 _, h1.other ha.a13 _, h2.other ha.a23 _, ?_, ⟨A, h4.other (fun e => ha.a34 e.symm) _, h5⟩, ha, hf⟩
  rw [← nats_set]; exact h3.set _ _
theorem SCall.setRes {w : World} {pr cb : Nat} {sv : Value} {p : Ps} {par : Nat} {l : Lc} (h : SCall w pr cb sv p par l) (v : Nat) : SCall (w.setCell ⟨p.p0, 4, none⟩ (.int .i64 (v : Int))) pr cb sv p par { l with res := v } := by
  obtain ⟨h0, h1, h2, h3, ⟨A, h4, h5⟩, ha, hf⟩ := h
  exact ⟨h0.set 4 _, h1.other (fun e => ha.a01 e.symm) _, h2.other (fun e => ha.a02 e.symm) _, h3.other (fun e => ha.a03 e.symm) _, ⟨A, h4.other (fun e => ha.a04 e.symm) _, h5⟩, ha, hf⟩

theorem RunAt.below {B : Nat} {w w' : World} {pr cb : Nat} {mv : Value} {en : Option Nat} {s : Cm} {sv : Value} (h : RunAt B w pr cb mv en s sv) (hb : Below w.heap.size w w') : RunAt B w' pr cb mv en s sv :=
  ⟨h.blk.below hb, h.cells.below hb, h.said.below hb, h.ne, h.sp, h.sc, h.gp, h.gc⟩
theorem RunAt.other {B : Nat} {w : World} {pr cb : Nat} {mv : Value} {en : Option Nat} {s : Cm} {sv : Value} (h : RunAt B w pr cb mv en s sv) {a : Addr} (h1 : a.block ≠ pr) (h2 : a.block ≠ cb) (h3 : sv.ownBlock ≠ some a.block) (u : Value) : RunAt B (w.setCell a u) pr cb mv en s sv :=
  ⟨h.blk.other (fun e => h1 e.symm) u, h.cells.other (fun e => h2 e.symm) u, h.said.set h3 u, h.ne, h.sp, h.sc, h.gp, h.gc⟩
theorem RunAt.setCell {B : Nat} {w : World} {pr cb : Nat} {mv : Value} {en : Option Nat} {s : Cm} {sv : Value} (h : RunAt B w pr cb mv en s sv) (i v : Nat) : RunAt B (w.setCell ⟨cb, i, none⟩ (.int .i64 (v : Int))) pr cb mv en { s with cells := s.cells.set i v } sv :=
  ⟨h.blk.other h.ne _, by rw [← nats_set]; exact h.cells.set _ _, h.said.set h.sc _, h.ne, h.sp, h.sc, h.gp, h.gc⟩
theorem RunAt.stop {B : Nat} {w : World} {pr cb : Nat} {mv : Value} {s : Cm} {sv : Value} (h : RunAt B w pr cb mv none s sv) (e : Nat) : RunAt B ((w.setCell ⟨pr, 2, none⟩ (.int .i64 (e : Int))).setCell ⟨pr, 6, none⟩ (.bool true)) pr cb mv (some e) s sv :=
  ⟨(h.blk.set 2 _).set 6 _, (h.cells.other (fun e => h.ne e.symm) _).other (fun e => h.ne e.symm) _, (h.said.set h.sp _).set h.sp _, h.ne, h.sp, h.sc, h.gp, h.gc⟩
theorem RunAt.tick {B : Nat} {w : World} {pr cb : Nat} {mv : Value} {en : Option Nat} {s : Cm} {sv : Value} (h : RunAt B w pr cb mv en s sv) (p : Nat) : RunAt B (w.setCell ⟨pr, 5, none⟩ (.int .i64 ((s.left - 1 : Nat) : Int))) pr cb mv en (s.step p) sv :=
  ⟨h.blk.set 5 _, h.cells.other (fun e => h.ne e.symm) _, h.said.set h.sp _, h.ne, h.sp, h.sc, h.gp, h.gc⟩

theorem runCells {B : Nat} {w : World} {pr cb : Nat} {mv : Value} {en : Option Nat} {s : Cm} {sv : Value} (h : RunAt B w pr cb mv en s sv) :
    w.cell? ⟨pr, 0, none⟩ = some mv ∧ w.cell? ⟨pr, 1, none⟩ = some sv ∧ w.cell? ⟨pr, 2, none⟩ = some (.int .i64 ((en.getD 0 : Nat) : Int)) ∧ w.cell? ⟨pr, 3, none⟩ = some (.int .i64 0) ∧ w.cell? ⟨pr, 4, none⟩ = some (.slice (some ⟨cb, 0, none⟩) 16 16) ∧
    w.cell? ⟨pr, 5, none⟩ = some (.int .i64 (s.left : Int)) ∧ w.cell? ⟨pr, 6, none⟩ = some (.bool en.isSome) ∧ (∀ j, w.frozen? ⟨pr, j, none⟩ = false) := by
  refine ⟨?_, ?_, ?_, ?_, ?_, ?_, ?_, h.blk.frozen⟩
  all_goals rw [h.blk.cell]; rfl
theorem scCells {w : World} {pr cb : Nat} {sv : Value} {p : Ps} {par : Nat} {l : Lc} (h : SCall w pr cb sv p par l) :
    w.cell? ⟨p.p0, 0, none⟩ = some (.slice (some ⟨p.p1, 0, none⟩) 8 8) ∧ w.cell? ⟨p.p0, 1, none⟩ = some (.slice (some ⟨p.p2, 0, none⟩) l.slots.length l.slots.length) ∧ w.cell? ⟨p.p0, 2, none⟩ = some (.slice (some ⟨p.p3, 0, none⟩) 3 3) ∧ w.cell? ⟨p.p0, 3, none⟩ = some (.slice (some ⟨p.p4, 0, none⟩) 3 3) ∧ w.cell? ⟨p.p0, 4, none⟩ = some (.int .i64 (l.res : Int)) := by
  refine ⟨?_, ?_, ?_, ?_, ?_⟩
  all_goals rw [h.blk.cell]; rfl

end Go.Proofs.YtbdbmmdnidonjaaDoor
