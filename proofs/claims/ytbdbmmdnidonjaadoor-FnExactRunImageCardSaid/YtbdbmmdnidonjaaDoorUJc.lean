/- The machine in plain words: what a run computes. No program in sight. Blocks of memory as lists of values; what a run may turn. No program in sight. How the machine's run lies in the memory of impl: the machine's block, a call's block. No program in sight. Small functions of the machine: stop, tick, cell, arith. How the machine's run lies in the memory of spec: the run's block, a call's blocks. No program in sight. Small functions of the run in spec: stop, cell, l5Truth, l5Two. -/
import Derived.Test.YtbdbmmdnidonjaaDoorUJb
import Derived.Deep.RegionHeld3
set_option linter.unusedVariables false
set_option linter.unusedSimpArgs false
set_option maxRecDepth 100000
namespace Go.Proofs.YtbdbmmdnidonjaaDoor
open Go.RowKit
/-- an instruction by plain numbers -/
structure Ni where
 op : Nat
 a : Nat
 b : Nat
 c : Nat
 n : Nat
def Ni.mi (x : Ni) : Mi := ⟨x.op, x.a, x.b, x.c, x.n⟩
def Mi.ni (x : Mi) : Ni := ⟨x.op.toNat, x.a.toNat, x.b.toNat, x.c.toNat, x.n.toNat⟩
/-- what a run has -/
structure Cm where
 cells : List Nat
 said : List Nat
 left : Nat
 trace : List Nat
/-- what a call has -/
structure Lc where
 regs : List Nat
 slots : List Nat
 gives : List Nat
 args : List Nat
 res : Nat
/-- a program: its functions' sizes, its instructions by their places -/
structure Pg where
 par : Nat → Nat
 slo : Nat → Nat
 base : Nat → Nat
 fet : Nat → Nat → Ni
 nxt : Nat → Nat → Nat
 good : Nat → Nat → Prop
inductive Rs where
 |ret (v : Nat) (s : Cm)
 |stop (e : Nat) (s : Cm)
def arithN (op a b : Nat) : Option Nat :=
 if op = 3 then some ((a + b) % 256) else if op = 4 then some ((a + 256 - b) % 256) else if op = 5 then some (a * b % 256)
 else if op = 8 then some (if a < b then 1 else 0) else if op = 9 then some (if a = b then 1 else 0)
 else if b = 0 then none else if op = 6 then some (a / b) else some (a % b)
def Lc.put (l : Lc) (r v : Nat) : Lc := { l with regs := l.regs.set r v }
def Lc.reg (l : Lc) (r : Nat) : Nat := l.regs.getD r 0
/-- an instruction that goes on behind it; or how the run stops -/
def plainOp (x : Ni) (l : Lc) (s : Cm) : (Lc × Cm) ⊕ Nat :=
 if x.op = 1 then .inl (l.put x.a x.n, s)
 else if x.op = 2 then .inl (l.put x.a (l.reg x.b), s)
 else if x.op = 10 then .inl (l.put x.a (if l.reg x.b = 0 then 1 else 0), s)
 else if x.op = 11 then (if 16 ≤ l.reg x.b then .inr 2 else .inl (l.put x.a (s.cells.getD (l.reg x.b) 0), s))
 else if x.op = 12 then (if 16 ≤ l.reg x.a then .inr 2 else .inl (l, { s with cells := s.cells.set (l.reg x.a) (l.reg x.b) }))
 else if x.op = 13 then .inl (l, { s with said := s.said ++ [l.reg x.a] })
 else if x.op = 15 then .inl ({ l with slots := l.slots.set x.n (l.reg x.a) }, s)
 else if x.op = 16 then .inl (l.put x.a (l.slots.getD x.n 0), s)
 else if x.op = 17 then .inl ({ l with gives := l.gives.set x.n (l.reg x.a) }, s)
 else if x.op = 18 then .inl (l.put x.a (l.args.getD x.n 0), s)
 else if x.op = 19 then .inl (l.put x.a l.res, s)
 else match arithN x.op (l.reg x.b) (l.reg x.c) with
  |none => .inr 1
  |some v => .inl (l.put x.a v, s)
def newLc (P : Pg) (k : Nat) (inp : List Nat) : Lc := ⟨List.replicate 8 0, List.replicate (P.slo k) 0, List.replicate 3 0, inp, 0⟩
/-- a step is taken -/
def Cm.step (s : Cm) (p : Nat) : Cm := { s with left := s.left - 1, trace := if s.trace.length < 500 then s.trace ++ [p] else s.trace }
def loop (P : Pg) : Nat → Nat → Nat → Lc → Cm → Rs
 |0, _, _, _, s => .stop 3 s
 |g + 1, k, at_, l, s =>
  if s.left = 0 then .stop 3 s
  else if (P.fet k at_).op = 22 then .ret (l.reg (P.fet k at_).a) (s.step (P.base k + at_))
  else if (P.fet k at_).op = 20 then loop P g k (P.fet k at_).n l (s.step (P.base k + at_))
  else if (P.fet k at_).op = 21 then loop P g k (if l.reg (P.fet k at_).a = 0 then P.nxt k at_ else (P.fet k at_).n) l (s.step (P.base k + at_))
  else if (P.fet k at_).op = 14 then
   match loop P g (P.fet k at_).n 0 (newLc P (P.fet k at_).n l.gives) (s.step (P.base k + at_)) with
   |.ret v s2 => loop P g k (P.nxt k at_) { l with res := v } s2
   |.stop e s2 => .stop e s2
  else match plainOp (P.fet k at_) l (s.step (P.base k + at_)) with
   |.inl (l2, s2) => loop P g k (P.nxt k at_) l2 s2
   |.inr e => .stop e (s.step (P.base k + at_))
/-- all are bytes -/
def Small (xs : List Nat) : Prop := ∀ x ∈ xs, x < 256
theorem Small.at {xs : List Nat} (h : Small xs) (i : Nat) : xs.getD i 0 < 256 := by
 rw [List.getD_eq_getElem?_getD]
 rcases Nat.lt_or_ge i xs.length with hi | hi
 ·rw [List.getElem?_eq_getElem hi]; exact h _ (List.getElem_mem _)
 ·rw [List.getElem?_eq_none hi]; simp
theorem Small.set {xs : List Nat} (h : Small xs) (i v : Nat) (hv : v < 256) : Small (xs.set i v) := fun x hx => by
 rcases List.mem_or_eq_of_mem_set hx with h1 | h1
 ·exact h x h1
 ·omega
theorem Small.snoc {xs : List Nat} (h : Small xs) (v : Nat) (hv : v < 256) : Small (xs ++ [v]) := fun x hx => by
 rcases List.mem_append.mp hx with h1 | h1
 ·exact h x h1
 ·rw [List.mem_singleton] at h1; omega
theorem small_zeros (n : Nat) : Small (List.replicate n 0) := fun x hx => by
 rw [(List.mem_replicate.mp hx).2]; omega
structure LcOk (par slo : Nat) (l : Lc) : Prop where
 regs : l.regs.length = 8
 regsS : Small l.regs
 slots : l.slots.length = slo
 slotsS : Small l.slots
 gives : l.gives.length = 3
 givesS : Small l.gives
 args : par ≤ l.args.length
 argsS : Small l.args
 res : l.res < 256
structure CmOk (s : Cm) : Prop where
 cells : s.cells.length = 16
 cellsS : Small s.cells
 saidS : Small s.said
/-- an instruction that can be done in a function with so many numbers and slots -/
structure NiOk (k par slo : Nat) (x : Ni) : Prop where
 op : 1 ≤ x.op ∧ x.op ≤ 22
 a : x.a < 8
 b : x.b < 8
 c : x.c < 8
 set : x.op = 1 → x.n < 256
 slot : x.op = 15 ∨ x.op = 16 → x.n < slo
 give : x.op = 17 → x.n < 3
 fetch : x.op = 18 → x.n < par
 call : x.op = 14 → x.n < k
structure PgOk (P : Pg) (fns : Nat) : Prop where
 par : ∀ k, k < fns → P.par k ≤ 3
 slo : ∀ k, k < fns → P.slo k ≤ 64
 start : ∀ k, k < fns → P.good k 0
 ins : ∀ k at_, k < fns → P.good k at_ → NiOk k (P.par k) (P.slo k) (P.fet k at_)
 jump : ∀ k at_, k < fns → P.good k at_ → ((P.fet k at_).op = 20 ∨ (P.fet k at_).op = 21) → P.good k (P.fet k at_).n
 next : ∀ k at_, k < fns → P.good k at_ → (P.fet k at_).op ≠ 20 → (P.fet k at_).op ≠ 22 → P.good k (P.nxt k at_)
theorem arithN_lt {op a b v : Nat} (ha : a < 256) (hb : b < 256) (h : arithN op a b = some v) : v < 256 := by
 unfold arithN at h
 repeat' split at h
 all_goals (first | cases h | (injection h with h; subst h))
 all_goals (first | omega | (split <;> omega) | skip)
 ·exact Nat.lt_of_le_of_lt (Nat.div_le_self _ _) ha
 ·exact Nat.lt_of_lt_of_le (Nat.mod_lt _ (by omega)) (by omega)
theorem LcOk.reg {par slo : Nat} {l : Lc} (h : LcOk par slo l) (r : Nat) : l.reg r < 256 := h.regsS.at r
theorem LcOk.put {par slo : Nat} {l : Lc} (h : LcOk par slo l) (r v : Nat) (hv : v < 256) : LcOk par slo (l.put r v) :=
 ⟨by simp [Lc.put, h.regs], h.regsS.set r v hv, h.slots, h.slotsS, h.gives, h.givesS, h.args, h.argsS, h.res⟩
theorem plainOp_ok {k par slo : Nat} {x : Ni} {l : Lc} {s : Cm} {l2 : Lc} {s2 : Cm} (hl : LcOk par slo l) (hs : CmOk s) (hx : NiOk k par slo x) (h : plainOp x l s = .inl (l2, s2)) :
  LcOk par slo l2 ∧ CmOk s2 ∧ s2.left = s.left := by
 unfold plainOp at h
 by_cases e1 : x.op = 1
 ·rw [if_pos e1] at h; cases h; exact ⟨hl.put _ _ (hx.set e1), hs, rfl⟩
 rw [if_neg e1] at h
 by_cases e2 : x.op = 2
 ·rw [if_pos e2] at h; cases h; exact ⟨hl.put _ _ (hl.reg _), hs, rfl⟩
 rw [if_neg e2] at h
 by_cases e10 : x.op = 10
 ·rw [if_pos e10] at h; cases h; exact ⟨hl.put _ _ (by split <;> omega), hs, rfl⟩
 rw [if_neg e10] at h
 by_cases e11 : x.op = 11
 ·rw [if_pos e11] at h
  by_cases q : 16 ≤ l.reg x.b
  ·rw [if_pos q] at h; cases h
  ·rw [if_neg q] at h; cases h; exact ⟨hl.put _ _ (hs.cellsS.at _), hs, rfl⟩
 rw [if_neg e11] at h
 by_cases e12 : x.op = 12
 ·rw [if_pos e12] at h
  by_cases q : 16 ≤ l.reg x.a
  ·rw [if_pos q] at h; cases h
  ·rw [if_neg q] at h; cases h; exact ⟨hl, ⟨by simp [hs.cells], hs.cellsS.set _ _ (hl.reg _), hs.saidS⟩, rfl⟩
 rw [if_neg e12] at h
 by_cases e13 : x.op = 13
 ·rw [if_pos e13] at h; cases h; exact ⟨hl, ⟨hs.cells, hs.cellsS, hs.saidS.snoc _ (hl.reg _)⟩, rfl⟩
 rw [if_neg e13] at h
 by_cases e15 : x.op = 15
 ·rw [if_pos e15] at h; cases h; exact ⟨⟨hl.regs, hl.regsS, by simp [hl.slots], hl.slotsS.set _ _ (hl.reg _), hl.gives, hl.givesS, hl.args, hl.argsS, hl.res⟩, hs, rfl⟩
 rw [if_neg e15] at h
 by_cases e16 : x.op = 16
 ·rw [if_pos e16] at h; cases h; exact ⟨hl.put _ _ (hl.slotsS.at _), hs, rfl⟩
 rw [if_neg e16] at h
 by_cases e17 : x.op = 17
 ·rw [if_pos e17] at h; cases h; exact ⟨⟨hl.regs, hl.regsS, hl.slots, hl.slotsS, by simp [hl.gives], hl.givesS.set _ _ (hl.reg _), hl.args, hl.argsS, hl.res⟩, hs, rfl⟩
 rw [if_neg e17] at h
 by_cases e18 : x.op = 18
 ·rw [if_pos e18] at h; cases h; exact ⟨hl.put _ _ (hl.argsS.at _), hs, rfl⟩
 rw [if_neg e18] at h
 by_cases e19 : x.op = 19
 ·rw [if_pos e19] at h; cases h; exact ⟨hl.put _ _ hl.res, hs, rfl⟩
 rw [if_neg e19] at h
 cases q : arithN x.op (l.reg x.b) (l.reg x.c) with
 |none => rw [q] at h; cases h
 |some v => rw [q] at h; cases h; exact ⟨hl.put _ _ (arithN_lt (hl.reg _) (hl.reg _) q), hs, rfl⟩
theorem newLc_ok (P : Pg) (k : Nat) (inp : List Nat) (h : P.par k ≤ inp.length) (hs : Small inp) : LcOk (P.par k) (P.slo k) (newLc P k inp) :=
 ⟨by simp [newLc], small_zeros _, by simp [newLc], small_zeros _, by simp [newLc], small_zeros _, h, hs, by simp [newLc]⟩
theorem CmOk.step {s : Cm} (h : CmOk s) (p : Nat) : CmOk (s.step p) := ⟨h.cells, h.cellsS, h.saidS⟩
def Rs.cm : Rs → Cm
 |.ret _ s => s
 |.stop _ s => s
def Rs.small : Rs → Prop
 |.ret v _ => v < 256
 |.stop e _ => 1 ≤ e ∧ e ≤ 3
theorem plainOp_stop {x : Ni} {l : Lc} {s : Cm} {e : Nat} (h : plainOp x l s = .inr e) : 1 ≤ e ∧ e ≤ 3 := by
 unfold plainOp at h
 by_cases e1 : x.op = 1
 ·rw [if_pos e1] at h
  cases h
 rw [if_neg e1] at h
 by_cases e2 : x.op = 2
 ·rw [if_pos e2] at h
  cases h
 rw [if_neg e2] at h
 by_cases e10 : x.op = 10
 ·rw [if_pos e10] at h
  cases h
 rw [if_neg e10] at h
 by_cases e11 : x.op = 11
 ·rw [if_pos e11] at h
  by_cases q : 16 ≤ l.reg x.b
  ·rw [if_pos q] at h; cases h; exact ⟨by decide, by decide⟩
  ·rw [if_neg q] at h; cases h
 rw [if_neg e11] at h
 by_cases e12 : x.op = 12
 ·rw [if_pos e12] at h
  by_cases q : 16 ≤ l.reg x.a
  ·rw [if_pos q] at h; cases h; exact ⟨by decide, by decide⟩
  ·rw [if_neg q] at h; cases h
 rw [if_neg e12] at h
 by_cases e13 : x.op = 13
 ·rw [if_pos e13] at h
  cases h
 rw [if_neg e13] at h
 by_cases e15 : x.op = 15
 ·rw [if_pos e15] at h
  cases h
 rw [if_neg e15] at h
 by_cases e16 : x.op = 16
 ·rw [if_pos e16] at h
  cases h
 rw [if_neg e16] at h
 by_cases e17 : x.op = 17
 ·rw [if_pos e17] at h
  cases h
 rw [if_neg e17] at h
 by_cases e18 : x.op = 18
 ·rw [if_pos e18] at h
  cases h
 rw [if_neg e18] at h
 by_cases e19 : x.op = 19
 ·rw [if_pos e19] at h
  cases h
 rw [if_neg e19] at h
 cases q : arithN x.op (l.reg x.b) (l.reg x.c) with
 |none => rw [q] at h; cases h; exact ⟨by decide, by decide⟩
 |some v => rw [q] at h; cases h
theorem loop_ok {P : Pg} {fns : Nat} (hP : PgOk P fns) : ∀ g k at_ l s, k < fns → P.good k at_ → LcOk (P.par k) (P.slo k) l → CmOk s →
  CmOk (loop P g k at_ l s).cm ∧ (loop P g k at_ l s).small ∧ (loop P g k at_ l s).cm.left ≤ s.left := by
 intro g
 induction g with
 |zero => intro k at_ l s _ _ _ hs; exact ⟨hs, ⟨by simp, by simp⟩, Nat.le_refl _⟩
 |succ g ih =>
  intro k at_ l s hk hg hl hs
  have hx := hP.ins k at_ hk hg
  have hj := hP.jump k at_ hk hg
  have hn := hP.next k at_ hk hg
  have hst := hs.step (P.base k + at_)
  have hle : (s.step (P.base k + at_)).left ≤ s.left := Nat.sub_le _ _
  unfold loop
  generalize P.fet k at_ = x at *
  generalize s.step (P.base k + at_) = s1 at *
  split
  ·exact ⟨hs, ⟨by simp, by simp⟩, Nat.le_refl _⟩
  split
  ·exact ⟨hst, hl.reg _, hle⟩
  split
  ·obtain ⟨h1, h2, h3⟩ := ih k x.n l s1 hk (hj (.inl (by assumption))) hl hst
   exact ⟨h1, h2, Nat.le_trans h3 hle⟩
  split
  ·have hgood : P.good k (if l.reg x.a = 0 then P.nxt k at_ else x.n) := by
    split
    ·exact hn (by omega) (by omega)
    ·exact hj (.inr (by assumption))
   obtain ⟨h1, h2, h3⟩ := ih k _ l s1 hk hgood hl hst
   exact ⟨h1, h2, Nat.le_trans h3 hle⟩
  split
  ·rename_i h14
   have hlt := hx.call h14
   have hin : P.par x.n ≤ l.gives.length := by rw [hl.gives]; exact hP.par _ (by omega)
   obtain ⟨h1, h2, h3⟩ := ih x.n 0 (newLc P x.n l.gives) s1 (by omega) (hP.start _ (by omega)) (newLc_ok P _ _ hin hl.givesS) hst
   generalize loop P g x.n 0 (newLc P x.n l.gives) s1 = r at *
   cases r with
   |ret v s2 =>
    obtain ⟨h4, h5, h6⟩ := ih k (P.nxt k at_) { l with res := v } s2 hk (hn (by omega) (by omega)) ⟨hl.regs, hl.regsS, hl.slots, hl.slotsS, hl.gives, hl.givesS, hl.args, hl.argsS, h2⟩ h1
    exact ⟨h4, h5, Nat.le_trans h6 (Nat.le_trans h3 hle)⟩
   |stop e s2 => exact ⟨h1, h2, Nat.le_trans h3 hle⟩
  ·cases hp : plainOp x l s1 with
   |inl ls =>
    obtain ⟨l2, s2⟩ := ls
    obtain ⟨h1, h2, h3⟩ := plainOp_ok hl hst hx hp
    obtain ⟨h4, h5, h6⟩ := ih k (P.nxt k at_) l2 s2 hk (hn (by omega) (by omega)) h1 h2
    refine ⟨h4, h5, ?_⟩
    rw [h3] at h6
    exact Nat.le_trans h6 hle
   |inr e => exact ⟨hst, plainOp_stop hp, hle⟩
/-- a program of the machine -/
def mfAt (fs : List Mf) (k : Nat) : Mf := (fs[k]?).getD ⟨0, 0, []⟩
def miAt (fs : List Mf) (k at_ : Nat) : Mi := ((mfAt fs k).ins[at_]?).getD ⟨0, 0, 0, 0, 0⟩
def machPg (fs : List Mf) : Pg :=
 {par := fun k => (mfAt fs k).params.toNat, slo := fun k => (mfAt fs k).slots.toNat, base := fun _ => 0,
  fet := fun k at_ => (miAt fs k at_).ni, nxt := fun _ at_ => at_ + 1, good := fun k at_ => at_ < (mfAt fs k).ins.length }
end Go.Proofs.YtbdbmmdnidonjaaDoor
set_option maxRecDepth 100000
namespace Go.Proofs.YtbdbmmdnidonjaaDoor
open Go.RowKit
/-- block p holds these cells, none of them frozen -/
def Blk (w : World) (p : Nat) (xs : List Value) : Prop := ∃ cur t, w.heap[p]? = some (.cells cur t (0, 0)) ∧ cur.toList = xs
theorem Blk.lt {w : World} {p : Nat} {xs : List Value} (h : Blk w p xs) : p < w.heap.size := by
 obtain ⟨cur, t, h, _⟩ := h
 exact (Array.getElem?_eq_some_iff.1 h).1
theorem Blk.cell {w : World} {p : Nat} {xs : List Value} (h : Blk w p xs) (j : Nat) : w.cell? ⟨p, j, none⟩ = xs[j]? := by
 obtain ⟨cur, t, h, rfl⟩ := h
 rw [cell_of_row w p j cur t (0, 0) h]; simp
theorem Blk.frozen {w : World} {p : Nat} {xs : List Value} (h : Blk w p xs) (j : Nat) : w.frozen? ⟨p, j, none⟩ = false := by
 obtain ⟨cur, t, h, _⟩ := h
 exact frozen_of_row w p j cur t h
theorem Blk.same {w w' : World} {p : Nat} {xs : List Value} (h : Blk w p xs) (hb : w'.heap[p]? = w.heap[p]?) : Blk w' p xs := by
 obtain ⟨cur, t, h, hx⟩ := h
 exact ⟨cur, t, by rw [hb]; exact h, hx⟩
theorem Blk.set {w : World} {p : Nat} {xs : List Value} (h : Blk w p xs) (j : Nat) (u : Value) : Blk (w.setCell ⟨p, j, none⟩ u) p (xs.set j u) := by
 obtain ⟨cur, t, h, rfl⟩ := h
 exact ⟨cur.setIfInBounds j u, t, heap_setCell_same w p j cur t u h, by simp⟩
theorem Blk.other {w : World} {p : Nat} {xs : List Value} (h : Blk w p xs) {a : Addr} (ha : p ≠ a.block) (u : Value) : Blk (w.setCell a u) p xs :=
 h.same (Below.heap_setCell _ _ _ _ ha)
theorem Blk.alloc {w : World} {p : Nat} {xs : List Value} (h : Blk w p xs) (o : Obj) : Blk (w.alloc o) p xs := h.same (Below.heap_alloc _ _ _ h.lt)
theorem Blk.drew {w : World} {p : Nat} {xs : List Value} (h : Blk w p xs) : Blk w.drew p xs := h
theorem Blk.drewN {w : World} {p : Nat} {xs : List Value} (h : Blk w p xs) (n : Nat) : Blk (w.drewN n) p xs := h
theorem Blk.new (w : World) (cs : Array Value) (t : TypeId) : Blk (w.alloc (.cells cs t)) w.heap.size cs.toList := ⟨cs, t, heap_alloc_new w _, rfl⟩
theorem Blk.grown {w w' : World} {p : Nat} {xs : List Value} {row : Option Nat} (h : Blk w p xs) (hg : w.grownBy w' row) (hr : row ≠ some p) : Blk w' p xs :=
 h.same (hg.block p h.lt (fun e => hr e.symm))
theorem Blk.below {w w' : World} {p : Nat} {xs : List Value} (h : Blk w p xs) (hb : Below w.heap.size w w') : Blk w' p xs := h.same (hb.block p h.lt)
/-- a full row of the call's own is a block -/
theorem Blk.of_row {w : World} {B : Nat} {e : TypeId} {g n : Nat} {xs : List Value} (h : w.ownsRow B e 1 (.slice (some ⟨g, 0, none⟩) n n) n xs) : Blk w g xs ∧ B ≤ g := by
 rcases h.2 with ⟨h', _⟩ | ⟨g', cap', cur, h', hb, hg, _, _, hs, ht⟩
 ·simp at h'
 ·simp only [Value.slice.injEq, Option.some.injEq, Addr.mk.injEq, and_true, true_and] at h'
  obtain ⟨rfl, rfl⟩ := h'
  refine ⟨⟨cur, e, hg, ?_⟩, hb⟩
  rw [← ht, List.take_of_length_le (by rw [Array.length_toList, hs]; exact Nat.le_refl _)]
def nats (xs : List Nat) : List Value := xs.map fun (n : Nat) => Value.int .i64 (n : Int)
theorem nats_len (xs : List Nat) : (nats xs).length = xs.length := by simp [nats]
theorem nats_get {xs : List Nat} {i : Nat} (h : i < xs.length) : (nats xs)[i]? = some (.int .i64 ((xs.getD i 0 : Nat) : Int)) := by
 simp [nats, List.getD_eq_getElem?_getD, List.getElem?_eq_getElem h]
theorem nats_set (xs : List Nat) (i v : Nat) : (nats xs).set i (.int .i64 (v : Int)) = nats (xs.set i v) := by simp [nats]
theorem nats_zeros (n : Nat) : List.replicate n (Value.int .i64 0) = nats (List.replicate n 0) := by simp [nats]
/-- what a run may turn: the blocks of a list, the row that it says into; new blocks as it likes -/
structure Fr (fx : List Nat) (sv : Value) (w : World) (sv' : Value) (w' : World) : Prop where
 only : Only (fx ++ sv.ownBlock.toList) w w'
 row : sv'.ownBlock = sv.ownBlock ∨ ∀ k, sv'.ownBlock = some k → w.heap.size ≤ k
theorem Fr.refl (fx : List Nat) (sv : Value) (w : World) : Fr fx sv w sv w := ⟨Only.refl _ _, .inl rfl⟩
theorem Fr.trans {fx : List Nat} {sa sb sc : Value} {a b c : World} (h : Fr fx sa a sb b) (k : Fr fx sb b sc c) : Fr fx sa a sc c := by
 refine ⟨⟨k.only.os.trans h.only.os, k.only.tape.trans h.only.tape, k.only.output.trans h.only.output, Nat.le_trans h.only.size k.only.size, fun i hi hn => ?_⟩, ?_⟩
 ·rw [k.only.block i (Nat.lt_of_lt_of_le hi h.only.size) ?_, h.only.block i hi hn]
  intro hm
  rcases List.mem_append.1 hm with hm | hm
  ·exact hn (List.mem_append_left _ hm)
  ·have hm : sb.ownBlock = some i := by simpa using hm
   rcases h.row with he | he
   ·exact hn (List.mem_append_right _ (by rw [← he, hm]; simp))
   ·have := he i hm; omega
 ·rcases k.row with he | he
  ·rw [he]; exact h.row
  ·exact .inr fun i hi => Nat.le_trans h.only.size (he i hi)
theorem Fr.below {fx : List Nat} {sv : Value} {w w' : World} (h : Below w.heap.size w w') : Fr fx sv w sv w' := ⟨Only.of_below h _, .inl rfl⟩
theorem Fr.block {fx : List Nat} {sv sv' : Value} {w w' : World} (h : Fr fx sv w sv' w') {k : Nat} (hk : k < w.heap.size) (hf : k ∉ fx) (hs : sv.ownBlock ≠ some k) : w'.heap[k]? = w.heap[k]? :=
 h.only.block k hk (fun hm => (List.mem_append.1 hm).elim hf (fun hm => hs (by simpa using hm)))
theorem Fr.blk {fx : List Nat} {sv sv' : Value} {w w' : World} (h : Fr fx sv w sv' w') {k : Nat} {xs : List Value} (hk : Blk w k xs) (hf : k ∉ fx) (hs : sv.ownBlock ≠ some k) : Blk w' k xs :=
 hk.same (h.block hk.lt hf hs)
/-- the said row is no block that was there ahead of it -/
theorem Fr.ne {fx : List Nat} {sv sv' : Value} {w w' : World} (h : Fr fx sv w sv' w') {k : Nat} (hk : k < w.heap.size) (hs : sv.ownBlock ≠ some k) : sv'.ownBlock ≠ some k := by
 rcases h.row with he | he
 ·rw [he]; exact hs
 ·intro hk2; have := he k hk2; omega
theorem Fr.size {fx : List Nat} {sv sv' : Value} {w w' : World} (h : Fr fx sv w sv' w') : w.heap.size ≤ w'.heap.size := h.only.size
theorem Fr.drew {fx : List Nat} {sv sv' : Value} {w w' : World} (h : Fr fx sv w sv' w') : Fr fx sv w sv' w'.drew := ⟨h.only.drew, h.row⟩
theorem Fr.drewN {fx : List Nat} {sv sv' : Value} {w w' : World} (h : Fr fx sv w sv' w') (n : Nat) : Fr fx sv w sv' (w'.drewN n) := ⟨h.only.drewN n, h.row⟩
theorem Fr.alloc {fx : List Nat} {sv sv' : Value} {w w' : World} (h : Fr fx sv w sv' w') (o : Obj) : Fr fx sv w sv' (w'.alloc o) := ⟨h.only.alloc o, h.row⟩
theorem Fr.setIn {fx : List Nat} {sv sv' : Value} {w w' : World} (h : Fr fx sv w sv' w') {a : Addr} (ha : a.block ∈ fx) (u : Value) : Fr fx sv w sv' (w'.setCell a u) :=
 ⟨h.only.setCell (List.mem_append_left _ ha) u, h.row⟩
theorem Fr.setNew {fx : List Nat} {sv sv' : Value} {w w' : World} (h : Fr fx sv w sv' w') {a : Addr} (ha : w.heap.size ≤ a.block) (u : Value) : Fr fx sv w sv' (w'.setCell a u) :=
 ⟨h.only.setCellNew ha u, h.row⟩
theorem Fr.mono {fx fy : List Nat} {sv sv' : Value} {w w' : World} (h : Fr fx sv w sv' w') (hs : ∀ x ∈ fx, x ∈ fy) : Fr fy sv w sv' w' :=
 ⟨h.only.mono (fun x hx => (List.mem_append.1 hx).elim (fun hx => List.mem_append_left _ (hs x hx)) (fun hx => List.mem_append_right _ hx)), h.row⟩
/-- what is below a base stands, if all that may turn lies above it -/
theorem Fr.below_of {fx : List Nat} {sv sv' : Value} {w w' : World} {B : Nat} (h : Fr fx sv w sv' w') (hB : B ≤ w.heap.size) (hf : ∀ k ∈ fx, B ≤ k) (hs : ∀ k, sv.ownBlock = some k → B ≤ k) : Below B w w' :=
 ⟨h.only.os, h.only.tape, h.only.output, h.only.size, fun k hk => h.block (by omega) (fun hm => by have := hf k hm; omega) (fun he => by have := hs k he; omega)⟩
theorem ownsRow_same {w w' : World} {B : Nat} {e : TypeId} {size : Nat} {v : Value} {n : Nat} {xs : List Value} (h : w.ownsRow B e size v n xs) (hb : ∀ k, v.ownBlock = some k → w'.heap[k]? = w.heap[k]?) : w'.ownsRow B e size v n xs := by
 obtain ⟨h1, h2⟩ := h
 refine ⟨h1, ?_⟩
 rcases h2 with h2 | ⟨g, cap, cur, rfl, hg, hh, r⟩
 ·exact .inl h2
 ·exact .inr ⟨g, cap, cur, rfl, hg, by rw [hb g rfl]; exact hh, r⟩
/-- the said row, with the machine's frame -/
def Said (w : World) (B : Nat) (sv : Value) (xs : List Nat) : Prop := w.ownsRow B 3 1 sv xs.length (nats xs)
theorem Said.same {w w' : World} {B : Nat} {sv : Value} {xs : List Nat} (h : Said w B sv xs) (hb : ∀ k, sv.ownBlock = some k → w'.heap[k]? = w.heap[k]?) : Said w' B sv xs := ownsRow_same h hb
theorem Said.set {w : World} {B : Nat} {sv : Value} {xs : List Nat} (h : Said w B sv xs) {a : Addr} (ha : sv.ownBlock ≠ some a.block) (u : Value) : Said (w.setCell a u) B sv xs :=
 h.same fun k hk => Below.heap_setCell _ _ _ _ (fun e => ha (by rw [hk, e]))
theorem Said.lt {w : World} {B : Nat} {sv : Value} {xs : List Nat} (h : Said w B sv xs) {k : Nat} (hk : sv.ownBlock = some k) : B ≤ k ∧ k < w.heap.size := World.ownsRow.lt h k hk
theorem Said.below {w w' : World} {B : Nat} {sv : Value} {xs : List Nat} (h : Said w B sv xs) (hb : Below w.heap.size w w') : Said w' B sv xs := h.same fun k hk => hb.block k (h.lt hk).2
theorem Said.alloc {w : World} {B : Nat} {sv : Value} {xs : List Nat} (h : Said w B sv xs) (o : Obj) : Said (w.alloc o) B sv xs := h.below ((Below.refl _ _).alloc (Nat.le_refl _) o)
theorem Said.drew {w : World} {B : Nat} {sv : Value} {xs : List Nat} (h : Said w B sv xs) : Said w.drew B sv xs := h
end Go.Proofs.YtbdbmmdnidonjaaDoor
set_option maxRecDepth 100000
namespace Go.Proofs.YtbdbmmdnidonjaaDoor
open Go.RowKit
theorem Fr.transNew {fx nw : List Nat} {sa sb sc : Value} {a b c : World} (h : Fr fx sa a sb b) (k : Fr (fx ++ nw) sb b sc c) (hn : ∀ x ∈ nw, a.heap.size ≤ x) : Fr fx sa a sc c := by
 refine ⟨⟨k.only.os.trans h.only.os, k.only.tape.trans h.only.tape, k.only.output.trans h.only.output, Nat.le_trans h.only.size k.only.size, fun i hi hm => ?_⟩, ?_⟩
 ·have hs : sa.ownBlock ≠ some i := fun e => hm (List.mem_append_right _ (by rw [e]; simp))
  have hf : i ∉ fx := fun e => hm (List.mem_append_left _ e)
  rw [k.block (Nat.lt_of_lt_of_le hi h.size) (fun hm2 => (List.mem_append.1 hm2).elim hf (fun h2 => by have := hn i h2; omega)) (h.ne hi hs)]
  exact h.block hi hf hs
 ·rcases k.row with he | he
  ·rw [he]; exact h.row
  ·exact .inr fun i hi => Nat.le_trans h.only.size (he i hi)
def mkMac (T u : Nat) (sv : Value) (cells : List Nat) (rest : List Value) : List Value :=
 .int .i64 (T : Int) :: .int .i64 (u : Int) :: sv :: (nats cells ++ rest)
def mkCall (pm : Nat) (regs : List Nat) (slv inv : Value) (gives : List Nat) (res : Nat) : List Value :=
 .pointer (some ⟨pm, 0, none⟩) :: (nats regs ++ (slv :: inv :: (nats gives ++ [.int .i64 (res : Int)])))
theorem mkMac_cell {T u : Nat} {sv : Value} {cells : List Nat} {rest : List Value} {i : Nat} (hi : i < cells.length) : (mkMac T u sv cells rest)[3 + i]? = some (.int .i64 ((cells.getD i 0 : Nat) : Int)) := by
 rw [show 3 + i = i + 1 + 1 + 1 by omega]
 unfold mkMac
 simp only [List.getElem?_cons_succ]
 rw [List.getElem?_append_left (by rw [nats_len]; exact hi), nats_get hi]
theorem mkMac_used (T u u' : Nat) (sv : Value) (cells : List Nat) (rest : List Value) : (mkMac T u sv cells rest).set 1 (.int .i64 (u' : Int)) = mkMac T u' sv cells rest := rfl
theorem mkMac_said (T u : Nat) (sv sv' : Value) (cells : List Nat) (rest : List Value) : (mkMac T u sv cells rest).set 2 sv' = mkMac T u sv' cells rest := rfl
theorem mkMac_set {T u : Nat} {sv : Value} {cells : List Nat} {rest : List Value} {i : Nat} (hi : i < cells.length) (v : Nat) : (mkMac T u sv cells rest).set (3 + i) (.int .i64 (v : Int)) = mkMac T u sv (cells.set i v) rest := by
 rw [show 3 + i = i + 1 + 1 + 1 by omega]
 unfold mkMac
 simp only [List.set_cons_succ]
 rw [List.set_append_left _ _ (by rw [nats_len]; exact hi), nats_set]
section
variable {pm : Nat} {regs : List Nat} {slv inv : Value} {gives : List Nat} {res : Nat}
theorem mkCall_reg {a : Nat} (ha : a < regs.length) : (mkCall pm regs slv inv gives res)[1 + a]? = some (.int .i64 ((regs.getD a 0 : Nat) : Int)) := by
 rw [show 1 + a = a + 1 by omega]
 unfold mkCall
 simp only [List.getElem?_cons_succ]
 rw [List.getElem?_append_left (by rw [nats_len]; exact ha), nats_get ha]
theorem mkCall_behind (hr : regs.length = 8) (j : Nat) : (mkCall pm regs slv inv gives res)[9 + j]? = (slv :: inv :: (nats gives ++ [.int .i64 (res : Int)]))[j]? := by
 rw [show 9 + j = (8 + j) + 1 by omega]
 unfold mkCall
 simp only [List.getElem?_cons_succ]
 rw [List.getElem?_append_right (by rw [nats_len]; omega), nats_len, hr]
 congr 1
 omega
theorem mkCall_slots (hr : regs.length = 8) : (mkCall pm regs slv inv gives res)[9]? = some slv := mkCall_behind hr 0
theorem mkCall_in (hr : regs.length = 8) : (mkCall pm regs slv inv gives res)[10]? = some inv := mkCall_behind hr 1
theorem mkCall_give (hr : regs.length = 8) {j : Nat} (hj : j < gives.length) : (mkCall pm regs slv inv gives res)[11 + j]? = some (.int .i64 ((gives.getD j 0 : Nat) : Int)) := by
 rw [show 11 + j = 9 + (j + 1 + 1) by omega, mkCall_behind hr]
 simp only [List.getElem?_cons_succ]
 rw [List.getElem?_append_left (by rw [nats_len]; exact hj), nats_get hj]
theorem mkCall_res (hr : regs.length = 8) (hg : gives.length = 3) : (mkCall pm regs slv inv gives res)[14]? = some (.int .i64 (res : Int)) := by
 rw [show 14 = 9 + (3 + 1 + 1) by omega, mkCall_behind hr]
 simp only [List.getElem?_cons_succ]
 rw [List.getElem?_append_right (by rw [nats_len]; omega), nats_len, hg]
 rfl
theorem mkCall_setReg {a : Nat} (ha : a < regs.length) (v : Nat) : (mkCall pm regs slv inv gives res).set (1 + a) (.int .i64 (v : Int)) = mkCall pm (regs.set a v) slv inv gives res := by
 rw [show 1 + a = a + 1 by omega]
 unfold mkCall
 simp only [List.set_cons_succ]
 rw [List.set_append_left _ _ (by rw [nats_len]; exact ha), nats_set]
theorem mkCall_setGive (hr : regs.length = 8) {j : Nat} (hj : j < gives.length) (v : Nat) : (mkCall pm regs slv inv gives res).set (11 + j) (.int .i64 (v : Int)) = mkCall pm regs slv inv (gives.set j v) res := by
 rw [show 11 + j = (10 + j) + 1 by omega]
 unfold mkCall
 simp only [List.set_cons_succ]
 rw [List.set_append_right _ _ (by rw [nats_len]; omega), nats_len, hr, show 10 + j - 8 = j + 1 + 1 by omega]
 simp only [List.set_cons_succ]
 rw [List.set_append_left _ _ (by rw [nats_len]; exact hj), nats_set]
theorem mkCall_setRes (hr : regs.length = 8) (hg : gives.length = 3) (v : Nat) : (mkCall pm regs slv inv gives res).set 14 (.int .i64 (v : Int)) = mkCall pm regs slv inv gives v := by
 rw [show 14 = 13 + 1 by omega]
 unfold mkCall
 simp only [List.set_cons_succ]
 rw [List.set_append_right _ _ (by rw [nats_len]; omega), nats_len, hr, show 13 - 8 = 3 + 1 + 1 by omega]
 simp only [List.set_cons_succ]
 rw [List.set_append_right _ _ (by rw [nats_len]; omega), nats_len, hg]
 rfl
end
/-- the machine lies at pm -/
structure MacAt (B : Nat) (w : World) (pm : Nat) (rest : List Value) (T : Nat) (s : Cm) (sv : Value) : Prop where
 blk : Blk w pm (mkMac T (T - s.left) sv s.cells rest)
 said : Said w B sv s.said
 sep : sv.ownBlock ≠ some pm
 left : s.left ≤ T
 ge : B ≤ pm
/-- the numbers that a call was given -/
def InAt (w : World) (inv : Value) (xs : List Nat) (P : Nat → Prop) : Prop :=
 ∃ a cap, inv = .slice a xs.length cap ∧ (xs = [] ∨ ∃ pi rest, a = some ⟨pi, 0, none⟩ ∧ Blk w pi (nats xs ++ rest) ∧ P pi)
/-- a call lies at pc, its slots at pl, all its blocks are such as K tells -/
structure CallAt (K : Nat → Prop) (w : World) (pm : Nat) (sv : Value) (pc pl : Nat) (par : Nat) (l : Lc) : Prop where
 blk : ∃ inv, Blk w pc (mkCall pm l.regs (.slice (some ⟨pl, 0, none⟩) l.slots.length l.slots.length) inv l.gives l.res) ∧
  InAt w inv (l.args.take par) (fun pi => pi ≠ pm ∧ pi ≠ pc ∧ pi ≠ pl ∧ sv.ownBlock ≠ some pi ∧ K pi)
 slots : Blk w pl (nats l.slots)
 cm : pc ≠ pm
 lm : pl ≠ pm
 lc : pl ≠ pc
 sc : sv.ownBlock ≠ some pc
 sl : sv.ownBlock ≠ some pl
 kc : K pc
 kl : K pl
variable {K : Nat → Prop}
theorem InAt.mono {w w' : World} {inv : Value} {xs : List Nat} {P Q : Nat → Prop} (h : InAt w inv xs P) (hw : ∀ pi, pi < w.heap.size → P pi → w'.heap[pi]? = w.heap[pi]? ∧ Q pi) : InAt w' inv xs Q := by
 obtain ⟨a, cap, hv, h⟩ := h
 refine ⟨a, cap, hv, ?_⟩
 rcases h with h | ⟨pi, rest, ha, hb, hp⟩
 ·exact .inl h
 ·obtain ⟨h1, h2⟩ := hw pi hb.lt hp
  exact .inr ⟨pi, rest, ha, hb.same h1, h2⟩
/-- a call stands where its blocks stand, and the said row is still another -/
theorem CallAt.keep {w w' : World} {pm : Nat} {sv sv' : Value} {pc pl par : Nat} {l : Lc} (h : CallAt K w pm sv pc pl par l) (hf : Fr [pm] sv w sv' w') : CallAt K w' pm sv' pc pl par l := by
 obtain ⟨⟨inv, hb, hi⟩, hs, h1, h2, h3, h4, h5, k1, k2⟩ := h
 refine ⟨⟨inv, hf.blk hb (by simpa using h1) h4, hi.mono fun pi hlt hp => ⟨hf.block hlt (by simpa using hp.1) hp.2.2.2.1, hp.1, hp.2.1, hp.2.2.1, hf.ne hlt hp.2.2.2.1, hp.2.2.2.2⟩⟩, hf.blk hs (by simpa using h2) h5, h1, h2, h3, hf.ne hb.lt h4, hf.ne hs.lt h5, k1, k2⟩
/-- a cell of the call's block is set -/
theorem CallAt.setC {w : World} {pm : Nat} {sv : Value} {pc pl par : Nat} {l l2 : Lc} (h : CallAt K w pm sv pc pl par l) (j : Nat) (u : Value) (hs : l2.slots = l.slots) (ha : l2.args = l.args)
  (hm : ∀ slv inv, (mkCall pm l.regs slv inv l.gives l.res).set j u = mkCall pm l2.regs slv inv l2.gives l2.res) : CallAt K (w.setCell ⟨pc, j, none⟩ u) pm sv pc pl par l2 := by
 obtain ⟨⟨inv, hb, hi⟩, hsl, h1, h2, h3, h4, h5, k1, k2⟩ := h
 refine ⟨⟨inv, ?_, ?_⟩, ?_, h1, h2, h3, h4, h5, k1, k2⟩
 ·rw [hs, ← hm]; exact hb.set j u
 ·rw [ha]; exact hi.mono fun pi hlt hp => ⟨Below.heap_setCell _ _ _ _ hp.2.1, hp⟩
 ·rw [hs]; exact hsl.other h3 u
theorem CallAt.setReg {w : World} {pm : Nat} {sv : Value} {pc pl par : Nat} {l : Lc} (h : CallAt K w pm sv pc pl par l) {a : Nat} (ha : a < l.regs.length) (v : Nat) : CallAt K (w.setCell ⟨pc, 1 + a, none⟩ (.int .i64 (v : Int))) pm sv pc pl par (l.put a v) :=
 h.setC _ _ rfl rfl fun _ _ => mkCall_setReg ha v
theorem CallAt.setGive {w : World} {pm : Nat} {sv : Value} {pc pl par : Nat} {l : Lc} (h : CallAt K w pm sv pc pl par l) (hr : l.regs.length = 8) {j : Nat} (hj : j < l.gives.length) (v : Nat) : CallAt K (w.setCell ⟨pc, 11 + j, none⟩ (.int .i64 (v : Int))) pm sv pc pl par { l with gives := l.gives.set j v } :=
 h.setC _ _ rfl rfl fun _ _ => mkCall_setGive hr hj v
theorem CallAt.setRes {w : World} {pm : Nat} {sv : Value} {pc pl par : Nat} {l : Lc} (h : CallAt K w pm sv pc pl par l) (hr : l.regs.length = 8) (hg : l.gives.length = 3) (v : Nat) : CallAt K (w.setCell ⟨pc, 14, none⟩ (.int .i64 (v : Int))) pm sv pc pl par { l with res := v } :=
 h.setC _ _ rfl rfl fun _ _ => mkCall_setRes hr hg v
theorem CallAt.setSlot {w : World} {pm : Nat} {sv : Value} {pc pl par : Nat} {l : Lc} (h : CallAt K w pm sv pc pl par l) (j v : Nat) : CallAt K (w.setCell ⟨pl, j, none⟩ (.int .i64 (v : Int))) pm sv pc pl par { l with slots := l.slots.set j v } := by
 obtain ⟨⟨inv, hb, hi⟩, hsl, h1, h2, h3, h4, h5, k1, k2⟩ := h
 refine ⟨⟨inv, ?_, ?_⟩, ?_, h1, h2, h3, h4, h5, k1, k2⟩
 ·simp only [List.length_set]; exact hb.other (fun e => h3 e.symm) _
 ·exact hi.mono fun pi hlt hp => ⟨Below.heap_setCell _ _ _ _ hp.2.2.1, hp⟩
 ·rw [← nats_set]; exact hsl.set j _
/-- a store into a block that is none of the call's -/
theorem CallAt.other {w : World} {pm : Nat} {sv : Value} {pc pl par : Nat} {l : Lc} (h : CallAt K w pm sv pc pl par l) (j : Nat) (u : Value) : CallAt K (w.setCell ⟨pm, j, none⟩ u) pm sv pc pl par l :=
 h.keep ((Fr.refl _ _ _).setIn (by simp) u)
theorem CallAt.drew {w : World} {pm : Nat} {sv : Value} {pc pl par : Nat} {l : Lc} (h : CallAt K w pm sv pc pl par l) : CallAt K w.drew pm sv pc pl par l := h.keep (Fr.refl _ _ _).drew
theorem CallAt.below {w w' : World} {pm : Nat} {sv : Value} {pc pl par : Nat} {l : Lc} (h : CallAt K w pm sv pc pl par l) (hb : Below w.heap.size w w') : CallAt K w' pm sv pc pl par l := h.keep (Fr.below hb)
theorem MacAt.below {B : Nat} {w w' : World} {pm : Nat} {rest : List Value} {T : Nat} {s : Cm} {sv : Value} (h : MacAt B w pm rest T s sv) (hb : Below w.heap.size w w') : MacAt B w' pm rest T s sv :=
 ⟨h.blk.below hb, h.said.below hb, h.sep, h.left, h.ge⟩
theorem MacAt.drew {B : Nat} {w : World} {pm : Nat} {rest : List Value} {T : Nat} {s : Cm} {sv : Value} (h : MacAt B w pm rest T s sv) : MacAt B w.drew pm rest T s sv := h.below (Below.refl _ _).drew
/-- a store into a block of a call -/
theorem MacAt.other {B : Nat} {w : World} {pm : Nat} {rest : List Value} {T : Nat} {s : Cm} {sv : Value} (h : MacAt B w pm rest T s sv) {a : Addr} (ha : a.block ≠ pm) (hs : sv.ownBlock ≠ some a.block) (u : Value) : MacAt B (w.setCell a u) pm rest T s sv :=
 ⟨h.blk.other (fun e => ha e.symm) u, h.said.set hs u, h.sep, h.left, h.ge⟩
theorem MacAt.setCell {B : Nat} {w : World} {pm : Nat} {rest : List Value} {T : Nat} {s : Cm} {sv : Value} (h : MacAt B w pm rest T s sv) {i : Nat} (hi : i < s.cells.length) (v : Nat) : MacAt B (w.setCell ⟨pm, 3 + i, none⟩ (.int .i64 (v : Int))) pm rest T { s with cells := s.cells.set i v } sv :=
 ⟨by rw [← mkMac_set hi]; exact h.blk.set _ _, h.said.set h.sep _, h.sep, h.left, h.ge⟩
theorem MacAt.tick {B : Nat} {w : World} {pm : Nat} {rest : List Value} {T : Nat} {s : Cm} {sv : Value} (h : MacAt B w pm rest T s sv) (hl : s.left ≠ 0) (p : Nat) : MacAt B (w.setCell ⟨pm, 1, none⟩ (.int .i64 ((T - s.left + 1 : Nat) : Int))) pm rest T (s.step p) sv := by
 have hle := h.left
 refine ⟨?_, h.said.set h.sep _, h.sep, by show s.left - 1 ≤ T; omega, h.ge⟩
 show Blk _ pm (mkMac T (T - (s.left - 1)) sv s.cells rest)
 rw [show T - (s.left - 1) = T - s.left + 1 by omega, ← mkMac_used]
 exact h.blk.set _ _
end Go.Proofs.YtbdbmmdnidonjaaDoor
set_option maxRecDepth 100000
namespace Go.Proofs.YtbdbmmdnidonjaaDoor
open Go.RowKit
/-- the panic that ends a run -/
def endChain (n : Nat) : List PanicEntry := [{ v := .iface 165 (.int .i64 (n : Int)), recovered := false }]
set_option maxHeartbeats 1000000 in
theorem stop_any (w : World) (n : Nat) : Calls Tryd.prog 127 #[.int .i64 (n : Int)] w fun e w' => e = .panicked (endChain n) ∧ w = w' := by
 go_enter Tryd.func127, Tryd.ntmps127
 go_wp2_with (fail)
 exact ⟨rfl, rfl, rfl⟩
set_option maxHeartbeats 1000000 in
theorem tick_no (w : World) (pm : Nat) (T : Int) (c0 : w.cell? ⟨pm, 0, none⟩ = some (.int .i64 T)) (c1 : w.cell? ⟨pm, 1, none⟩ = some (.int .i64 T)) :
  Calls Tryd.prog 106 #[.pointer (some ⟨pm, 0, none⟩)] w fun e w' => e = .panicked (endChain 3) ∧ ∃ n, w' = w.drewN n := by
 have HS := Lib.hid (fun w' => stop_any w' 3)
 have d0 : ∀ m, (w.drewN m).cell? ⟨pm, 0, none⟩ = some (.int .i64 T) := fun _ => c0
 have d1 : ∀ m, (w.drewN m).cell? ⟨pm, 1, none⟩ = some (.int .i64 T) := fun _ => c1
 go_enter Tryd.func106, Tryd.ntmps106
 go_wp2_with (fail)
 go_quiet (fail)
 go_wp2_with (fail)
 go_at_call 127
 refine (HS.out _).mono ?_
 rintro e _ ⟨rfl, rfl⟩
 go_wp2_with (fail)
 exact ⟨rfl, rfl, _, rfl⟩
set_option maxHeartbeats 1000000 in
theorem tick_yes (w : World) (pm T u : Nat) (hT : T ≤ 1000000) (hu : u < T) (c0 : w.cell? ⟨pm, 0, none⟩ = some (.int .i64 T)) (c1 : w.cell? ⟨pm, 1, none⟩ = some (.int .i64 u)) (hf : w.frozen? ⟨pm, 1, none⟩ = false) :
  Calls Tryd.prog 106 #[.pointer (some ⟨pm, 0, none⟩)] w fun e w' => e = .returned (.tuple #[]) ∧ ∃ n, w' = (w.drewN n).setCell ⟨pm, 1, none⟩ (.int .i64 ((u + 1 : Nat) : Int)) := by
 have d0 : ∀ m, (w.drewN m).cell? ⟨pm, 0, none⟩ = some (.int .i64 T) := fun _ => c0
 have d1 : ∀ m, (w.drewN m).cell? ⟨pm, 1, none⟩ = some (.int .i64 u) := fun _ => c1
 have df : ∀ m, (w.drewN m).frozen? ⟨pm, 1, none⟩ = false := fun _ => hf
 have hne : ((u : Int) == (T : Int)) = false := by simpa using (by omega : (u : Int) ≠ T)
 have hne2 : decide ((u : Int) = (T : Int)) = false := by simpa using (by omega : (u : Int) ≠ T)
 have hne3 : ((u : Int) != (T : Int)) = true := by simpa using (by omega : (u : Int) ≠ T)
 go_enter Tryd.func106, Tryd.ntmps106
 go_wp2_with (fail)
 go_quiet (fail)
 go_wp2_with (fail)
 go_end0
 exact ⟨rfl, _, by go_num⟩
set_option maxHeartbeats 1000000 in
theorem cell_no (w : World) (pm i : Nat) (hi : 16 ≤ i) :
  Calls Tryd.prog 129 #[.pointer (some ⟨pm, 0, none⟩), .int .i64 (i : Int)] w fun e w' => e = .panicked (endChain 2) ∧ w = w' := by
 have HS := Lib.hid (fun w' => stop_any w' 2)
 have hh : (16 : Int) ≤ i := by omega
 go_enter Tryd.func129, Tryd.ntmps129
 go_wp2_with (fail)
 go_at_call 127
 refine (HS.out _).mono ?_
 rintro e _ ⟨rfl, rfl⟩
 go_wp2_with (fail)
 exact ⟨rfl, rfl, rfl⟩
set_option maxHeartbeats 1000000 in
theorem cell_yes (w : World) (pm i : Nat) (hi : i < 16) :
  Calls Tryd.prog 129 #[.pointer (some ⟨pm, 0, none⟩), .int .i64 (i : Int)] w fun e w' => e = .returned (.pointer (some ⟨pm, 3 + i, none⟩)) ∧ w = w' := by
 have h0 : (0 : Int) ≤ i := by omega
 have hh : (i : Int) < 16 := by omega
 go_enter Tryd.func129, Tryd.ntmps129
 go_wp2_with (fail)
 go_ret
 exact ⟨by go_num, rfl⟩
set_option maxHeartbeats 1000000 in
theorem truth_any (w : World) (p : Bool) : Calls Tryd.prog 149 #[.bool p] w fun e w' => e = .returned (.int .i64 ((if p then 1 else 0 : Nat) : Int)) ∧ w = w' := by
 cases p
 ·go_enter Tryd.func149, Tryd.ntmps149
  go_wp2_with (fail)
  go_ret
  exact ⟨rfl, rfl⟩
 ·go_enter Tryd.func149, Tryd.ntmps149
  go_wp2_with (fail)
  go_ret
  exact ⟨rfl, rfl⟩
theorem truth_named (w : World) (p : Bool) (v : Nat) (hv : v = if p then 1 else 0) : Calls Tryd.prog 149 #[.bool p] w fun e w' => e = .returned (.int .i64 (v : Int)) ∧ w = w' := by
 rw [hv]; exact truth_any w p
def arithV (op a b : Nat) : Value :=
 match arithN op a b with
 |some v => .tuple #[.int .i64 (v : Int), .bool true]
 |none => .tuple #[.int .i64 0, .bool false]
set_option maxHeartbeats 2000000 in
theorem arith_any (w : World) (op a b : Nat) (h1 : 3 ≤ op) (h2 : op ≤ 9) (ha : a < 256) (hb : b < 256) :
  Calls Tryd.prog 128 #[.int .i64 (op : Int), .int .i64 (a : Int), .int .i64 (b : Int)] w fun e w' => e = .returned (arithV op a b) ∧ w = w' := by
 have HT := Lib.hid (fun w' p v hv => truth_named w' p v hv)
 have hc : op = 3 ∨ op = 4 ∨ op = 5 ∨ op = 6 ∨ op = 7 ∨ op = 8 ∨ op = 9 := by omega
 rcases hc with rfl | rfl | rfl | rfl | rfl | rfl | rfl
 ·go_enter Tryd.func128, Tryd.ntmps128
  go_wp2_with (fail)
  refine bodyPost_ret (v := .tuple #[.int .i64 (((a + b) % 256 : Nat) : Int), .bool true]) (by simp [results, Tryd.results128, go_sem]) rfl ⟨?_, rfl⟩
  rfl
 ·go_enter Tryd.func128, Tryd.ntmps128
  go_wp2_with (fail)
  refine bodyPost_ret (v := .tuple #[.int .i64 (((a + 256 - b) % 256 : Nat) : Int), .bool true]) (by simp [results, Tryd.results128, go_sem]; omega) rfl ⟨?_, rfl⟩
  rfl
 ·have hp0 : (0 : Int) ≤ (a : Int) * b := Int.mul_nonneg (by omega) (by omega)
  have hp1 : (a : Int) * b < 65536 := by
   have h := Nat.mul_lt_mul'' ha hb
   have h2 : ((a * b : Nat) : Int) < ((256 * 256 : Nat) : Int) := by exact_mod_cast h
   rw [Int.natCast_mul] at h2
   exact h2
  go_enter Tryd.func128, Tryd.ntmps128
  go_wp2_with (fail)
  refine bodyPost_ret (v := .tuple #[.int .i64 ((a * b % 256 : Nat) : Int), .bool true]) (by simp [results, Tryd.results128, go_sem]) rfl ⟨?_, rfl⟩
  rfl
 ·by_cases hb0 : b = 0
  ·subst hb0
   go_enter Tryd.func128, Tryd.ntmps128
   go_wp2_with (fail)
   refine bodyPost_ret (v := .tuple #[.int .i64 0, .bool false]) (by simp [results, Tryd.results128, go_sem]) rfl ⟨?_, rfl⟩
   rfl
  ·have hbi : ¬ (b : Int) = 0 := by omega
   have hq0 : (0 : Int) ≤ (a : Int) / b := Int.ediv_nonneg (by omega) (by omega)
   have hq1 : (a : Int) / b < 256 := by
    have h := Nat.div_le_self a b
    have h2 : ((a / b : Nat) : Int) ≤ (a : Int) := by exact_mod_cast h
    rw [Int.natCast_ediv] at h2
    omega
   go_enter Tryd.func128, Tryd.ntmps128
   go_wp2_with (fail)
   refine bodyPost_ret (v := .tuple #[.int .i64 ((a / b : Nat) : Int), .bool true]) (by simp [results, Tryd.results128, go_sem]) rfl ⟨?_, rfl⟩
   simp [arithV, arithN, hb0]
 ·by_cases hb0 : b = 0
  ·subst hb0
   go_enter Tryd.func128, Tryd.ntmps128
   go_wp2_with (fail)
   refine bodyPost_ret (v := .tuple #[.int .i64 0, .bool false]) (by simp [results, Tryd.results128, go_sem]) rfl ⟨?_, rfl⟩
   rfl
  ·have hbi : ¬ (b : Int) = 0 := by omega
   go_enter Tryd.func128, Tryd.ntmps128
   go_wp2_with (fail)
   refine bodyPost_ret (v := .tuple #[.int .i64 ((a % b : Nat) : Int), .bool true]) (by simp [results, Tryd.results128, go_sem]) rfl ⟨?_, rfl⟩
   simp [arithV, arithN, hb0]
 ·go_enter Tryd.func128, Tryd.ntmps128
  go_wp2_with (fail)
  obtain ⟨v, hv⟩ : ∃ v : Nat, v = if a < b then 1 else 0 := ⟨_, rfl⟩
  have hv2 : v = if decide (a < b) = true then 1 else 0 := by rw [hv]; simp
  have hav : arithV 8 a b = .tuple #[.int .i64 (v : Int), .bool true] := by rw [hv]; rfl
  have HAV := Lib.hid hav
  refine (HT.out _ _ v hv2).mono ?_
  rintro e _ ⟨rfl, rfl⟩
  clear hv hv2 hav
  go_wp2_with (fail)
  refine bodyPost_ret (v := .tuple #[.int .i64 (v : Int), .bool true]) (by simp [results, Tryd.results128, go_sem]) rfl ⟨by rw [HAV.out], rfl⟩
 ·go_enter Tryd.func128, Tryd.ntmps128
  go_wp2_with (fail)
  obtain ⟨v, hv⟩ : ∃ v : Nat, v = if a = b then 1 else 0 := ⟨_, rfl⟩
  have hv2 : v = if ((a : Int) == (b : Int)) = true then 1 else 0 := by rw [hv]; simp [Int.ofNat_inj]
  have hav : arithV 9 a b = .tuple #[.int .i64 (v : Int), .bool true] := by rw [hv]; rfl
  have HAV := Lib.hid hav
  refine (HT.out _ _ v hv2).mono ?_
  rintro e _ ⟨rfl, rfl⟩
  clear hv hv2 hav
  go_wp2_with (fail)
  refine bodyPost_ret (v := .tuple #[.int .i64 (v : Int), .bool true]) (by simp [results, Tryd.results128, go_sem]) rfl ⟨by rw [HAV.out], rfl⟩
end Go.Proofs.YtbdbmmdnidonjaaDoor
set_option maxRecDepth 100000
namespace Go.Proofs.YtbdbmmdnidonjaaDoor
open Go.RowKit
def mkRun (mv sv : Value) (en val cb left : Nat) (ov : Bool) : List Value :=
 [mv, sv, .int .i64 (en : Int), .int .i64 (val : Int), .slice (some ⟨cb, 0, none⟩) 16 16, .int .i64 (left : Int), .bool ov]
structure RunAt (B : Nat) (w : World) (pr cb : Nat) (mv : Value) (en : Option Nat) (s : Cm) (sv : Value) : Prop where
 blk : Blk w pr (mkRun mv sv (en.getD 0) 0 cb s.left en.isSome)
 cells : Blk w cb (nats s.cells)
 said : Said w B sv s.said
 ne : pr ≠ cb
 sp : sv.ownBlock ≠ some pr
 sc : sv.ownBlock ≠ some cb
 gp : B ≤ pr
 gc : B ≤ cb
structure Ps where
 p0 : Nat
 p1 : Nat
 p2 : Nat
 p3 : Nat
 p4 : Nat
def Ps.has (p : Ps) (q : Nat) : Prop := q = p.p0 ∨ q = p.p1 ∨ q = p.p2 ∨ q = p.p3 ∨ q = p.p4
structure Ps.Apart (p : Ps) : Prop where
 a01 : p.p0 ≠ p.p1
 a02 : p.p0 ≠ p.p2
 a03 : p.p0 ≠ p.p3
 a04 : p.p0 ≠ p.p4
 a12 : p.p1 ≠ p.p2
 a13 : p.p1 ≠ p.p3
 a14 : p.p1 ≠ p.p4
 a23 : p.p2 ≠ p.p3
 a24 : p.p2 ≠ p.p4
 a34 : p.p3 ≠ p.p4
def mkSc (p : Ps) (n res : Nat) : List Value :=
 [.slice (some ⟨p.p1, 0, none⟩) 8 8, .slice (some ⟨p.p2, 0, none⟩) n n, .slice (some ⟨p.p3, 0, none⟩) 3 3, .slice (some ⟨p.p4, 0, none⟩) 3 3, .int .i64 (res : Int)]
structure SCall (w : World) (pr cb : Nat) (sv : Value) (p : Ps) (par : Nat) (l : Lc) : Prop where
 blk : Blk w p.p0 (mkSc p l.slots.length l.res)
 regs : Blk w p.p1 (nats l.regs)
 slots : Blk w p.p2 (nats l.slots)
 gives : Blk w p.p3 (nats l.gives)
 args : ∃ A, Blk w p.p4 (nats A) ∧ A.length = 3 ∧ ∀ j, j < par → A.getD j 0 = l.args.getD j 0
 apart : p.Apart
 far : ∀ q, p.has q → q ≠ pr ∧ q ≠ cb ∧ sv.ownBlock ≠ some q
theorem SCall.same {w w' : World} {pr cb : Nat} {sv sv' : Value} {p : Ps} {par : Nat} {l : Lc} (h : SCall w pr cb sv p par l) (hw : ∀ q, p.has q → w'.heap[q]? = w.heap[q]?) (hs : ∀ q, p.has q → sv'.ownBlock ≠ some q) : SCall w' pr cb sv' p par l := by
 obtain ⟨h0, h1, h2, h3, ⟨A, h4, h5⟩, ha, hf⟩ := h
 exact ⟨h0.same (hw _ (.inl rfl)), h1.same (hw _ (.inr (.inl rfl))), h2.same (hw _ (.inr (.inr (.inl rfl)))), h3.same (hw _ (.inr (.inr (.inr (.inl rfl))))), ⟨A, h4.same (hw _ (.inr (.inr (.inr (.inr rfl))))), h5⟩, ha, fun q hq => ⟨(hf q hq).1, (hf q hq).2.1, hs q hq⟩⟩
theorem SCall.lt {w : World} {pr cb : Nat} {sv : Value} {p : Ps} {par : Nat} {l : Lc} (h : SCall w pr cb sv p par l) {q : Nat} (hq : p.has q) : q < w.heap.size := by
 obtain ⟨h0, h1, h2, h3, ⟨A, h4, _⟩, _, _⟩ := h
 rcases hq with rfl | rfl | rfl | rfl | rfl
 ·exact h0.lt
 ·exact h1.lt
 ·exact h2.lt
 ·exact h3.lt
 ·exact h4.lt
theorem SCall.keep {w w' : World} {pr cb : Nat} {sv sv' : Value} {p : Ps} {par : Nat} {l : Lc} (h : SCall w pr cb sv p par l) (hf : Fr [pr, cb] sv w sv' w') : SCall w' pr cb sv' p par l :=
 h.same (fun q hq => hf.block (h.lt hq) (by have := h.far q hq; simp; exact ⟨this.1, this.2.1⟩) (h.far q hq).2.2) (fun q hq => hf.ne (h.lt hq) (h.far q hq).2.2)
theorem SCall.below {w w' : World} {pr cb : Nat} {sv : Value} {p : Ps} {par : Nat} {l : Lc} (h : SCall w pr cb sv p par l) (hb : Below w.heap.size w w') : SCall w' pr cb sv p par l := h.keep (Fr.below hb)
theorem SCall.setReg {w : World} {pr cb : Nat} {sv : Value} {p : Ps} {par : Nat} {l : Lc} (h : SCall w pr cb sv p par l) (a v : Nat) : SCall (w.setCell ⟨p.p1, a, none⟩ (.int .i64 (v : Int))) pr cb sv p par (l.put a v) := by
 obtain ⟨h0, h1, h2, h3, ⟨A, h4, h5⟩, ha, hf⟩ := h
 refine ⟨h0.other ha.a01 _, ?_, h2.other (fun e => ha.a12 e.symm) _, h3.other (fun e => ha.a13 e.symm) _, ⟨A, h4.other (fun e => ha.a14 e.symm) _, h5⟩, ha, hf⟩
 show Blk _ _ (nats (l.regs.set a v))
 rw [← nats_set]; exact h1.set _ _
theorem SCall.setSlot {w : World} {pr cb : Nat} {sv : Value} {p : Ps} {par : Nat} {l : Lc} (h : SCall w pr cb sv p par l) (j v : Nat) : SCall (w.setCell ⟨p.p2, j, none⟩ (.int .i64 (v : Int))) pr cb sv p par { l with slots := l.slots.set j v } := by
 obtain ⟨h0, h1, h2, h3, ⟨A, h4, h5⟩, ha, hf⟩ := h
 refine ⟨?_, h1.other ha.a12 _, ?_, h3.other (fun e => ha.a23 e.symm) _, ⟨A, h4.other (fun e => ha.a24 e.symm) _, h5⟩, ha, hf⟩
 ·simp only [List.length_set]; exact h0.other ha.a02 _
 ·rw [← nats_set]; exact h2.set _ _
theorem SCall.setGive {w : World} {pr cb : Nat} {sv : Value} {p : Ps} {par : Nat} {l : Lc} (h : SCall w pr cb sv p par l) (j v : Nat) : SCall (w.setCell ⟨p.p3, j, none⟩ (.int .i64 (v : Int))) pr cb sv p par { l with gives := l.gives.set j v } := by
 obtain ⟨h0, h1, h2, h3, ⟨A, h4, h5⟩, ha, hf⟩ := h
 refine ⟨h0.other ha.a03 _, h1.other ha.a13 _, h2.other ha.a23 _, ?_, ⟨A, h4.other (fun e => ha.a34 e.symm) _, h5⟩, ha, hf⟩
 rw [← nats_set]; exact h3.set _ _
theorem SCall.setRes {w : World} {pr cb : Nat} {sv : Value} {p : Ps} {par : Nat} {l : Lc} (h : SCall w pr cb sv p par l) (v : Nat) : SCall (w.setCell ⟨p.p0, 4, none⟩ (.int .i64 (v : Int))) pr cb sv p par { l with res := v } := by
 obtain ⟨h0, h1, h2, h3, ⟨A, h4, h5⟩, ha, hf⟩ := h
 exact ⟨h0.set 4 _, h1.other (fun e => ha.a01 e.symm) _, h2.other (fun e => ha.a02 e.symm) _, h3.other (fun e => ha.a03 e.symm) _, ⟨A, h4.other (fun e => ha.a04 e.symm) _, h5⟩, ha, hf⟩
theorem RunAt.below {B : Nat} {w w' : World} {pr cb : Nat} {mv : Value} {en : Option Nat} {s : Cm} {sv : Value} (h : RunAt B w pr cb mv en s sv) (hb : Below w.heap.size w w') : RunAt B w' pr cb mv en s sv :=
 ⟨h.blk.below hb, h.cells.below hb, h.said.below hb, h.ne, h.sp, h.sc, h.gp, h.gc⟩
theorem RunAt.other {B : Nat} {w : World} {pr cb : Nat} {mv : Value} {en : Option Nat} {s : Cm} {sv : Value} (h : RunAt B w pr cb mv en s sv) {a : Addr} (h1 : a.block ≠ pr) (h2 : a.block ≠ cb) (h3 : sv.ownBlock ≠ some a.block) (u : Value) : RunAt B (w.setCell a u) pr cb mv en s sv :=
 ⟨h.blk.other (fun e => h1 e.symm) u, h.cells.other (fun e => h2 e.symm) u, h.said.set h3 u, h.ne, h.sp, h.sc, h.gp, h.gc⟩
theorem RunAt.setCell {B : Nat} {w : World} {pr cb : Nat} {mv : Value} {en : Option Nat} {s : Cm} {sv : Value} (h : RunAt B w pr cb mv en s sv) (i v : Nat) : RunAt B (w.setCell ⟨cb, i, none⟩ (.int .i64 (v : Int))) pr cb mv en { s with cells := s.cells.set i v } sv :=
 ⟨h.blk.other h.ne _, by rw [← nats_set]; exact h.cells.set _ _, h.said.set h.sc _, h.ne, h.sp, h.sc, h.gp, h.gc⟩
theorem RunAt.stop {B : Nat} {w : World} {pr cb : Nat} {mv : Value} {s : Cm} {sv : Value} (h : RunAt B w pr cb mv none s sv) (e : Nat) : RunAt B ((w.setCell ⟨pr, 2, none⟩ (.int .i64 (e : Int))).setCell ⟨pr, 6, none⟩ (.bool true)) pr cb mv (some e) s sv :=
 ⟨(h.blk.set 2 _).set 6 _, (h.cells.other (fun e => h.ne e.symm) _).other (fun e => h.ne e.symm) _, (h.said.set h.sp _).set h.sp _, h.ne, h.sp, h.sc, h.gp, h.gc⟩
theorem RunAt.tick {B : Nat} {w : World} {pr cb : Nat} {mv : Value} {en : Option Nat} {s : Cm} {sv : Value} (h : RunAt B w pr cb mv en s sv) (p : Nat) : RunAt B (w.setCell ⟨pr, 5, none⟩ (.int .i64 ((s.left - 1 : Nat) : Int))) pr cb mv en (s.step p) sv :=
 ⟨h.blk.set 5 _, h.cells.other (fun e => h.ne e.symm) _, h.said.set h.sp _, h.ne, h.sp, h.sc, h.gp, h.gc⟩
theorem runCells {B : Nat} {w : World} {pr cb : Nat} {mv : Value} {en : Option Nat} {s : Cm} {sv : Value} (h : RunAt B w pr cb mv en s sv) :
  w.cell? ⟨pr, 0, none⟩ = some mv ∧ w.cell? ⟨pr, 1, none⟩ = some sv ∧ w.cell? ⟨pr, 2, none⟩ = some (.int .i64 ((en.getD 0 : Nat) : Int)) ∧ w.cell? ⟨pr, 3, none⟩ = some (.int .i64 0) ∧ w.cell? ⟨pr, 4, none⟩ = some (.slice (some ⟨cb, 0, none⟩) 16 16) ∧
  w.cell? ⟨pr, 5, none⟩ = some (.int .i64 (s.left : Int)) ∧ w.cell? ⟨pr, 6, none⟩ = some (.bool en.isSome) ∧ (∀ j, w.frozen? ⟨pr, j, none⟩ = false) := by
 refine ⟨?_, ?_, ?_, ?_, ?_, ?_, ?_, h.blk.frozen⟩
 all_goals rw [h.blk.cell]; rfl
theorem scCells {w : World} {pr cb : Nat} {sv : Value} {p : Ps} {par : Nat} {l : Lc} (h : SCall w pr cb sv p par l) :
  w.cell? ⟨p.p0, 0, none⟩ = some (.slice (some ⟨p.p1, 0, none⟩) 8 8) ∧ w.cell? ⟨p.p0, 1, none⟩ = some (.slice (some ⟨p.p2, 0, none⟩) l.slots.length l.slots.length) ∧ w.cell? ⟨p.p0, 2, none⟩ = some (.slice (some ⟨p.p3, 0, none⟩) 3 3) ∧ w.cell? ⟨p.p0, 3, none⟩ = some (.slice (some ⟨p.p4, 0, none⟩) 3 3) ∧ w.cell? ⟨p.p0, 4, none⟩ = some (.int .i64 (l.res : Int)) := by
 refine ⟨?_, ?_, ?_, ?_, ?_⟩
 all_goals rw [h.blk.cell]; rfl
end Go.Proofs.YtbdbmmdnidonjaaDoor
set_option maxRecDepth 100000
namespace Go.Proofs.YtbdbmmdnidonjaaDoor
open Go.RowKit
set_option maxHeartbeats 1000000 in
theorem sstop_any (w : World) (pr n : Nat) (y : Value) (c2 : w.cell? ⟨pr, 2, none⟩ = some y) (c6 : w.cell? ⟨pr, 6, none⟩ = some (.bool false)) (hf : ∀ j, w.frozen? ⟨pr, j, none⟩ = false) :
  Calls Tryd.prog 109 #[.pointer (some ⟨pr, 0, none⟩), .int .i64 (n : Int)] w fun e w' => e = .returned (.tuple #[]) ∧ w' = (w.setCell ⟨pr, 2, none⟩ (.int .i64 (n : Int))).setCell ⟨pr, 6, none⟩ (.bool true) := by
 have f2 := hf 2
 have f6 := hf 6
 go_enter Tryd.func109, Tryd.ntmps109
 go_wp2_with (fail)
 go_end0
 exact ⟨rfl, rfl⟩
set_option maxHeartbeats 1000000 in
theorem scell_yes (w : World) (pr i : Nat) (hi : i < 16) :
  Calls Tryd.prog 134 #[.pointer (some ⟨pr, 0, none⟩), .int .i64 (i : Int)] w fun e w' => e = .returned (.bool true) ∧ w' = w := by
 have hh : (i : Int) < 16 := by omega
 go_enter Tryd.func134, Tryd.ntmps134
 go_wp2_with (fail)
 go_ret
 exact ⟨rfl, rfl⟩
set_option maxHeartbeats 1000000 in
theorem scell_no (w : World) (pr i : Nat) (hi : 16 ≤ i) (y : Value) (c2 : w.cell? ⟨pr, 2, none⟩ = some y) (c6 : w.cell? ⟨pr, 6, none⟩ = some (.bool false)) (hf : ∀ j, w.frozen? ⟨pr, j, none⟩ = false) :
  Calls Tryd.prog 134 #[.pointer (some ⟨pr, 0, none⟩), .int .i64 (i : Int)] w fun e w' => e = .returned (.bool false) ∧ w' = (w.setCell ⟨pr, 2, none⟩ (.int .i64 ((2 : Nat) : Int))).setCell ⟨pr, 6, none⟩ (.bool true) := by
 have HS := Lib.hid (sstop_any w pr 2 y c2 c6 hf)
 have hh : (16 : Int) ≤ i := by omega
 clear c2 c6 hf
 go_enter Tryd.func134, Tryd.ntmps134
 go_wp2_with (fail)
 go_at_call 109
 refine HS.out.mono ?_
 rintro e w2 ⟨rfl, rfl⟩
 go_wp2_with (fail)
 go_ret
 exact ⟨rfl, rfl⟩
set_option maxHeartbeats 1000000 in
theorem struth_any (w : World) (p : Bool) (v : Nat) (hv : v = if p then 1 else 0) : Calls Tryd.prog 133 #[.bool p] w fun e w' => e = .returned (.int .i64 (v : Int)) ∧ w' = w := by
 subst hv
 cases p
 ·go_enter Tryd.func133, Tryd.ntmps133
  go_wp2_with (fail)
  go_ret
  exact ⟨rfl, rfl⟩
 ·go_enter Tryd.func133, Tryd.ntmps133
  go_wp2_with (fail)
  go_ret
  exact ⟨rfl, rfl⟩
/-- what l5Two answers -/
def twoR : Option Nat → Value
 |some v => .tuple #[.int .i64 (v : Int), .int .i64 0]
 |none => .tuple #[.int .i64 0, .int .i64 1]
set_option maxHeartbeats 2000000 in
theorem two_any (w : World) (op a b : Nat) (h1 : 3 ≤ op) (h2 : op ≤ 9) (ha : a < 256) (hb : b < 256) :
  Calls Tryd.prog 135 #[.int .i64 (op : Int), .int .i64 (a : Int), .int .i64 (b : Int)] w fun e w' => e = .returned (twoR (arithN op a b)) ∧ w' = w := by
 have HT := Lib.hid (fun w' p v hv => struth_any w' p v hv)
 have hc : op = 3 ∨ op = 4 ∨ op = 5 ∨ op = 6 ∨ op = 7 ∨ op = 8 ∨ op = 9 := by omega
 rcases hc with rfl | rfl | rfl | rfl | rfl | rfl | rfl
 ·go_enter Tryd.func135, Tryd.ntmps135
  go_wp2_with (fail)
  refine bodyPost_ret (v := .tuple #[.int .i64 (((a + b) % 256 : Nat) : Int), .int .i64 0]) (by simp [results, Tryd.results135, go_sem]) rfl ⟨?_, rfl⟩
  rfl
 ·go_enter Tryd.func135, Tryd.ntmps135
  go_wp2_with (fail)
  refine bodyPost_ret (v := .tuple #[.int .i64 (((a + 256 - b) % 256 : Nat) : Int), .int .i64 0]) (by simp [results, Tryd.results135, go_sem]; omega) rfl ⟨?_, rfl⟩
  rfl
 ·have hp0 : (0 : Int) ≤ (a : Int) * b := Int.mul_nonneg (by omega) (by omega)
  have hp1 : (a : Int) * b < 65536 := by
   have h := Nat.mul_lt_mul'' ha hb
   have h2 : ((a * b : Nat) : Int) < ((256 * 256 : Nat) : Int) := by exact_mod_cast h
   rw [Int.natCast_mul] at h2
   exact h2
  go_enter Tryd.func135, Tryd.ntmps135
  go_wp2_with (fail)
  refine bodyPost_ret (v := .tuple #[.int .i64 ((a * b % 256 : Nat) : Int), .int .i64 0]) (by simp [results, Tryd.results135, go_sem]) rfl ⟨?_, rfl⟩
  rfl
 ·by_cases hb0 : b = 0
  ·subst hb0
   go_enter Tryd.func135, Tryd.ntmps135
   go_wp2_with (fail)
   refine bodyPost_ret (v := .tuple #[.int .i64 0, .int .i64 1]) (by simp [results, Tryd.results135, go_sem]) rfl ⟨?_, rfl⟩
   rfl
  ·have hbi : ¬ (b : Int) = 0 := by omega
   have hq0 : (0 : Int) ≤ (a : Int) / b := Int.ediv_nonneg (by omega) (by omega)
   have hq1 : (a : Int) / b < 256 := by
    have h := Nat.div_le_self a b
    have h2 : ((a / b : Nat) : Int) ≤ (a : Int) := by exact_mod_cast h
    rw [Int.natCast_ediv] at h2
    omega
   go_enter Tryd.func135, Tryd.ntmps135
   go_wp2_with (fail)
   refine bodyPost_ret (v := .tuple #[.int .i64 ((a / b : Nat) : Int), .int .i64 0]) (by simp [results, Tryd.results135, go_sem]) rfl ⟨?_, rfl⟩
   simp [twoR, arithN, hb0]
 ·by_cases hb0 : b = 0
  ·subst hb0
   go_enter Tryd.func135, Tryd.ntmps135
   go_wp2_with (fail)
   refine bodyPost_ret (v := .tuple #[.int .i64 0, .int .i64 1]) (by simp [results, Tryd.results135, go_sem]) rfl ⟨?_, rfl⟩
   rfl
  ·have hbi : ¬ (b : Int) = 0 := by omega
   go_enter Tryd.func135, Tryd.ntmps135
   go_wp2_with (fail)
   refine bodyPost_ret (v := .tuple #[.int .i64 ((a % b : Nat) : Int), .int .i64 0]) (by simp [results, Tryd.results135, go_sem]) rfl ⟨?_, rfl⟩
   simp [twoR, arithN, hb0]
 ·go_enter Tryd.func135, Tryd.ntmps135
  go_wp2_with (fail)
  obtain ⟨v, hv⟩ : ∃ v : Nat, v = if a < b then 1 else 0 := ⟨_, rfl⟩
  have hv2 : v = if decide (a < b) = true then 1 else 0 := by rw [hv]; simp
  have hav : twoR (arithN 8 a b) = .tuple #[.int .i64 (v : Int), .int .i64 0] := by rw [hv]; rfl
  have HAV := Lib.hid hav
  refine (HT.out _ _ v hv2).mono ?_
  rintro e _ ⟨rfl, rfl⟩
  clear hv hv2 hav
  go_wp2_with (fail)
  refine bodyPost_ret (v := .tuple #[.int .i64 (v : Int), .int .i64 0]) (by simp [results, Tryd.results135, go_sem]) rfl ⟨by rw [HAV.out], rfl⟩
 ·go_enter Tryd.func135, Tryd.ntmps135
  go_wp2_with (fail)
  obtain ⟨v, hv⟩ : ∃ v : Nat, v = if a = b then 1 else 0 := ⟨_, rfl⟩
  have hv2 : v = if ((a : Int) == (b : Int)) = true then 1 else 0 := by rw [hv]; simp [Int.ofNat_inj]
  have hav : twoR (arithN 9 a b) = .tuple #[.int .i64 (v : Int), .int .i64 0] := by rw [hv]; rfl
  have HAV := Lib.hid hav
  refine (HT.out _ _ v hv2).mono ?_
  rintro e _ ⟨rfl, rfl⟩
  clear hv hv2 hav
  go_wp2_with (fail)
  refine bodyPost_ret (v := .tuple #[.int .i64 (v : Int), .int .i64 0]) (by simp [results, Tryd.results135, go_sem]) rfl ⟨by rw [HAV.out], rfl⟩
end Go.Proofs.YtbdbmmdnidonjaaDoor
