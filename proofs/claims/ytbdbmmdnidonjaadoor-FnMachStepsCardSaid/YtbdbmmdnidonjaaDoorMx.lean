/- The machine in plain words: what a run computes. No program in sight. -/
import Derived.Test.YtbdbmmdnidonjaaDoorMf
set_option maxRecDepth 100000
namespace Go.Proofs.YtbdbmmdnidonjaaDoor
open Go.RowKit

/-- an instruction by plain numbers -/
structure Ni where
  op : Nat
  a : Nat
  b : Nat
  c : Nat
  n : Nat
def Ni.mi (x : Ni) : Mi := ⟨x.op, x.a, x.b, x.c, x.n⟩
def Mi.ni (x : Mi) : Ni := ⟨x.op.toNat, x.a.toNat, x.b.toNat, x.c.toNat, x.n.toNat⟩

/-- what a run has -/
structure Cm where
  cells : List Nat
  said : List Nat
  left : Nat
  trace : List Nat
/-- what a call has -/
structure Lc where
  regs : List Nat
  slots : List Nat
  gives : List Nat
  args : List Nat
  res : Nat
/-- a program: its functions' sizes, its instructions by their places -/
structure Pg where
  par : Nat → Nat
  slo : Nat → Nat
  base : Nat → Nat
  fet : Nat → Nat → Ni
  nxt : Nat → Nat → Nat
  good : Nat → Nat → Prop

inductive Rs where
  | ret (v : Nat) (s : Cm)
  | stop (e : Nat) (s : Cm)

def arithN (op a b : Nat) : Option Nat :=
  if op = 3 then some ((a + b) % 256) else if op = 4 then some ((a + 256 - b) % 256) else if op = 5 then some (a * b % 256)
  else if op = 8 then some (if a < b then 1 else 0) else if op = 9 then some (if a = b then 1 else 0)
  else if b = 0 then none else if op = 6 then some (a / b) else some (a % b)

def Lc.put (l : Lc) (r v : Nat) : Lc := { l with regs := l.regs.set r v }
def Lc.reg (l : Lc) (r : Nat) : Nat := l.regs.getD r 0

/-- an instruction that goes on behind it; or how the run stops -/
def plainOp (x : Ni) (l : Lc) (s : Cm) : (Lc × Cm) ⊕ Nat :=
  if x.op = 1 then .inl (l.put x.a x.n, s)
  else if x.op = 2 then .inl (l.put x.a (l.reg x.b), s)
  else if x.op = 10 then .inl (l.put x.a (if l.reg x.b = 0 then 1 else 0), s)
  else if x.op = 11 then (if 16 ≤ l.reg x.b then .inr 2 else .inl (l.put x.a (s.cells.getD (l.reg x.b) 0), s))
  else if x.op = 12 then (if 16 ≤ l.reg x.a then .inr 2 else .inl (l, { s with cells := s.cells.set (l.reg x.a) (l.reg x.b) }))
  else if x.op = 13 then .inl (l, { s with said := s.said ++ [l.reg x.a] })
  else if x.op = 15 then .inl ({ l with slots := l.slots.set x.n (l.reg x.a) }, s)
  else if x.op = 16 then .inl (l.put x.a (l.slots.getD x.n 0), s)
  else if x.op = 17 then .inl ({ l with gives := l.gives.set x.n (l.reg x.a) }, s)
  else if x.op = 18 then .inl (l.put x.a (l.args.getD x.n 0), s)
  else if x.op = 19 then .inl (l.put x.a l.res, s)
  else match arithN x.op (l.reg x.b) (l.reg x.c) with
    | none => .inr 1
    | some v => .inl (l.put x.a v, s)

def newLc (P : Pg) (k : Nat) (inp : List Nat) : Lc := ⟨List.replicate 8 0, List.replicate (P.slo k) 0, List.replicate 3 0, inp, 0⟩

/-- a step is taken -/
def Cm.step (s : Cm) (p : Nat) : Cm := { s with left := s.left - 1, trace := if s.trace.length < 500 then s.trace ++ [p] else s.trace }

def loop (P : Pg) : Nat → Nat → Nat → Lc → Cm → Rs
  | 0, _, _, _, s => .stop 3 s
  | g + 1, k, at_, l, s =>
    if s.left = 0 then .stop 3 s
    else if (P.fet k at_).op = 22 then .ret (l.reg (P.fet k at_).a) (s.step (P.base k + at_))
    else if (P.fet k at_).op = 20 then loop P g k (P.fet k at_).n l (s.step (P.base k + at_))
    else if (P.fet k at_).op = 21 then loop P g k (if l.reg (P.fet k at_).a = 0 then P.nxt k at_ else (P.fet k at_).n) l (s.step (P.base k + at_))
    else if (P.fet k at_).op = 14 then
      match loop P g (P.fet k at_).n 0 (newLc P (P.fet k at_).n l.gives) (s.step (P.base k + at_)) with
      | .ret v s2 => loop P g k (P.nxt k at_) { l with res := v } s2
      | .stop e s2 => .stop e s2
    else match plainOp (P.fet k at_) l (s.step (P.base k + at_)) with
      | .inl (l2, s2) => loop P g k (P.nxt k at_) l2 s2
      | .inr e => .stop e (s.step (P.base k + at_))

/-- all are bytes -/
def Small (xs : List Nat) : Prop := ∀ x ∈ xs, x < 256
theorem Small.at {xs : List Nat} (h : Small xs) (i : Nat) : xs.getD i 0 < 256 := by
  rw [List.getD_eq_getElem?_getD]
  rcases Nat.lt_or_ge i xs.length with hi | hi
  · rw [List.getElem?_eq_getElem hi]; exact h _ (List.getElem_mem _)
  · rw [List.getElem?_eq_none hi]; simp
theorem Small.set {xs : List Nat} (h : Small xs) (i v : Nat) (hv : v < 256) : Small (xs.set i v) := fun x hx => by
  rcases List.mem_or_eq_of_mem_set hx with h1 | h1
  · exact h x h1
  · omega
theorem Small.snoc {xs : List Nat} (h : Small xs) (v : Nat) (hv : v < 256) : Small (xs ++ [v]) := fun x hx => by
  rcases List.mem_append.mp hx with h1 | h1
  · exact h x h1
  · rw [List.mem_singleton] at h1; omega
theorem small_zeros (n : Nat) : Small (List.replicate n 0) := fun x hx => by
  rw [(List.mem_replicate.mp hx).2]; omega

structure LcOk (par slo : Nat) (l : Lc) : Prop where
  regs : l.regs.length = 8
  regsS : Small l.regs
  slots : l.slots.length = slo
  slotsS : Small l.slots
  gives : l.gives.length = 3
  givesS : Small l.gives
  args : par ≤ l.args.length
  argsS : Small l.args
  res : l.res < 256
structure CmOk (s : Cm) : Prop where
  cells : s.cells.length = 16
  cellsS : Small s.cells
  saidS : Small s.said

/-- an instruction that can be done in a function with so many numbers and slots -/
structure NiOk (k par slo : Nat) (x : Ni) : Prop where
  op : 1 ≤ x.op ∧ x.op ≤ 22
  a : x.a < 8
  b : x.b < 8
  c : x.c < 8
  set : x.op = 1 → x.n < 256
  slot : x.op = 15 ∨ x.op = 16 → x.n < slo
  give : x.op = 17 → x.n < 3
  fetch : x.op = 18 → x.n < par
  call : x.op = 14 → x.n < k

structure PgOk (P : Pg) (fns : Nat) : Prop where
  par : ∀ k, k < fns → P.par k ≤ 3
  slo : ∀ k, k < fns → P.slo k ≤ 64
  start : ∀ k, k < fns → P.good k 0
  ins : ∀ k at_, k < fns → P.good k at_ → NiOk k (P.par k) (P.slo k) (P.fet k at_)
  jump : ∀ k at_, k < fns → P.good k at_ → ((P.fet k at_).op = 20 ∨ (P.fet k at_).op = 21) → P.good k (P.fet k at_).n
  next : ∀ k at_, k < fns → P.good k at_ → (P.fet k at_).op ≠ 20 → (P.fet k at_).op ≠ 22 → P.good k (P.nxt k at_)

theorem arithN_lt {op a b v : Nat} (ha : a < 256) (hb : b < 256) (h : arithN op a b = some v) : v < 256 := by
  unfold arithN at h
  repeat' split at h
  all_goals (first | cases h | (injection h with h; subst h))
  all_goals (first | omega | (split <;> omega) | skip)
  · exact Nat.lt_of_le_of_lt (Nat.div_le_self _ _) ha
  · exact Nat.lt_of_lt_of_le (Nat.mod_lt _ (by omega)) (by omega)

theorem LcOk.reg {par slo : Nat} {l : Lc} (h : LcOk par slo l) (r : Nat) : l.reg r < 256 := h.regsS.at r
theorem LcOk.put {par slo : Nat} {l : Lc} (h : LcOk par slo l) (r v : Nat) (hv : v < 256) : LcOk par slo (l.put r v) :=
  ⟨by simp [Lc.put, h.regs], h.regsS.set r v hv, h.slots, h.slotsS, h.gives, h.givesS, h.args, h.argsS, h.res⟩

theorem plainOp_ok {k par slo : Nat} {x : Ni} {l : Lc} {s : Cm} {l2 : Lc} {s2 : Cm} (hl : LcOk par slo l) (hs : CmOk s) (hx : NiOk k par slo x) (h : plainOp x l s = .inl (l2, s2)) :
    LcOk par slo l2 ∧ CmOk s2 ∧ s2.left = s.left := by
  unfold plainOp at h
  by_cases e1 : x.op = 1
  · rw [if_pos e1] at h; cases h; exact ⟨hl.put _ _ (hx.set e1), hs, rfl⟩
  rw [if_neg e1] at h
  by_cases e2 : x.op = 2
  · rw [if_pos e2] at h; cases h; exact ⟨hl.put _ _ (hl.reg _), hs, rfl⟩
  rw [if_neg e2] at h
  by_cases e10 : x.op = 10
  · rw [if_pos e10] at h; cases h; exact ⟨hl.put _ _ (by split <;> omega), hs, rfl⟩
  rw [if_neg e10] at h
  by_cases e11 : x.op = 11
  · rw [if_pos e11] at h
    by_cases q : 16 ≤ l.reg x.b
    · rw [if_pos q] at h; cases h
    · rw [if_neg q] at h; cases h; exact ⟨hl.put _ _ (hs.cellsS.at _), hs, rfl⟩
  rw [if_neg e11] at h
  by_cases e12 : x.op = 12
  · rw [if_pos e12] at h
    by_cases q : 16 ≤ l.reg x.a
    · rw [if_pos q] at h; cases h
    · rw [if_neg q] at h; cases h; exact ⟨hl, ⟨by simp [hs.cells], hs.cellsS.set _ _ (hl.reg _), hs.saidS⟩, rfl⟩
  rw [if_neg e12] at h
  by_cases e13 : x.op = 13
  · rw [if_pos e13] at h; cases h; exact ⟨hl, ⟨hs.cells, hs.cellsS, hs.saidS.snoc _ (hl.reg _)⟩, rfl⟩
  rw [if_neg e13] at h
  by_cases e15 : x.op = 15
  · rw [if_pos e15] at h; cases h; exact ⟨⟨hl.regs, hl.regsS, by simp [hl.slots], hl.slotsS.set _ _ (hl.reg _), hl.gives, hl.givesS, hl.args, hl.argsS, hl.res⟩, hs, rfl⟩
  rw [if_neg e15] at h
  by_cases e16 : x.op = 16
  · rw [if_pos e16] at h; cases h; exact ⟨hl.put _ _ (hl.slotsS.at _), hs, rfl⟩
  rw [if_neg e16] at h
  by_cases e17 : x.op = 17
  · rw [if_pos e17] at h; cases h; exact ⟨⟨hl.regs, hl.regsS, hl.slots, hl.slotsS, by simp [hl.gives], hl.givesS.set _ _ (hl.reg _), hl.args, hl.argsS, hl.res⟩, hs, rfl⟩
  rw [if_neg e17] at h
  by_cases e18 : x.op = 18
  · rw [if_pos e18] at h; cases h; exact ⟨hl.put _ _ (hl.argsS.at _), hs, rfl⟩
  rw [if_neg e18] at h
  by_cases e19 : x.op = 19
  · rw [if_pos e19] at h; cases h; exact ⟨hl.put _ _ hl.res, hs, rfl⟩
  rw [if_neg e19] at h
  cases q : arithN x.op (l.reg x.b) (l.reg x.c) with
  | none => rw [q] at h; cases h
  | some v => rw [q] at h; cases h; exact ⟨hl.put _ _ (arithN_lt (hl.reg _) (hl.reg _) q), hs, rfl⟩

theorem newLc_ok (P : Pg) (k : Nat) (inp : List Nat) (h : P.par k ≤ inp.length) (hs : Small inp) : LcOk (P.par k) (P.slo k) (newLc P k inp) :=
  ⟨by simp [newLc], small_zeros _, by simp [newLc], small_zeros _, by simp [newLc], small_zeros _, h, hs, by simp [newLc]⟩
theorem CmOk.step {s : Cm} (h : CmOk s) (p : Nat) : CmOk (s.step p) := ⟨h.cells, h.cellsS, h.saidS⟩

def Rs.cm : Rs → Cm
  | .ret _ s => s
  | .stop _ s => s
def Rs.small : Rs → Prop
  | .ret v _ => v < 256
  | .stop e _ => 1 ≤ e ∧ e ≤ 3
theorem plainOp_stop {x : Ni} {l : Lc} {s : Cm} {e : Nat} (h : plainOp x l s = .inr e) : 1 ≤ e ∧ e ≤ 3 := by
  unfold plainOp at h
  by_cases e1 : x.op = 1
  · rw [if_pos e1] at h
    cases h
  rw [if_neg e1] at h
  by_cases e2 : x.op = 2
  · rw [if_pos e2] at h
    cases h
  rw [if_neg e2] at h
  by_cases e10 : x.op = 10
  · rw [if_pos e10] at h
    cases h
  rw [if_neg e10] at h
  by_cases e11 : x.op = 11
  · rw [if_pos e11] at h
    by_cases q : 16 ≤ l.reg x.b
    · rw [if_pos q] at h; cases h; exact ⟨by decide, by decide⟩
    · rw [if_neg q] at h; cases h
  rw [if_neg e11] at h
  by_cases e12 : x.op = 12
  · rw [if_pos e12] at h
    by_cases q : 16 ≤ l.reg x.a
    · rw [if_pos q] at h; cases h; exact ⟨by decide, by decide⟩
    · rw [if_neg q] at h; cases h
  rw [if_neg e12] at h
  by_cases e13 : x.op = 13
  · rw [if_pos e13] at h
    cases h
  rw [if_neg e13] at h
  by_cases e15 : x.op = 15
  · rw [if_pos e15] at h
    cases h
  rw [if_neg e15] at h
  by_cases e16 : x.op = 16
  · rw [if_pos e16] at h
    cases h
  rw [if_neg e16] at h
  by_cases e17 : x.op = 17
  · rw [if_pos e17] at h
    cases h
  rw [if_neg e17] at h
  by_cases e18 : x.op = 18
  · rw [if_pos e18] at h
    cases h
  rw [if_neg e18] at h
  by_cases e19 : x.op = 19
  · rw [if_pos e19] at h
    cases h
  rw [if_neg e19] at h
  cases q : arithN x.op (l.reg x.b) (l.reg x.c) with
  | none => rw [q] at h; cases h; exact ⟨by decide, by decide⟩
  | some v => rw [q] at h; cases h

theorem loop_ok {P : Pg} {fns : Nat} (hP : PgOk P fns) : ∀ g k at_ l s, k < fns → P.good k at_ → LcOk (P.par k) (P.slo k) l → CmOk s →
    CmOk (loop P g k at_ l s).cm ∧ (loop P g k at_ l s).small ∧ (loop P g k at_ l s).cm.left ≤ s.left := by
  intro g
  induction g with
  | zero => intro k at_ l s _ _ _ hs; exact ⟨hs, ⟨by simp, by simp⟩, Nat.le_refl _⟩
  | succ g ih =>
    intro k at_ l s hk hg hl hs
    have hx := hP.ins k at_ hk hg
    have hj := hP.jump k at_ hk hg
    have hn := hP.next k at_ hk hg
    have hst := hs.step (P.base k + at_)
    have hle : (s.step (P.base k + at_)).left ≤ s.left := Nat.sub_le _ _
    unfold loop
    generalize P.fet k at_ = x at *
    generalize s.step (P.base k + at_) = s1 at *
    split
    · exact ⟨hs, ⟨by simp, by simp⟩, Nat.le_refl _⟩
    split
    · exact ⟨hst, hl.reg _, hle⟩
    split
    · obtain ⟨h1, h2, h3⟩ := ih k x.n l s1 hk (hj (.inl (by assumption))) hl hst
      exact ⟨h1, h2, Nat.le_trans h3 hle⟩
    split
    · have hgood : P.good k (if l.reg x.a = 0 then P.nxt k at_ else x.n) := by
        split
        · exact hn (by omega) (by omega)
        · exact hj (.inr (by assumption))
      obtain ⟨h1, h2, h3⟩ := ih k _ l s1 hk hgood hl hst
      exact ⟨h1, h2, Nat.le_trans h3 hle⟩
    split
    · rename_i h14
      have hlt := hx.call h14
      have hin : P.par x.n ≤ l.gives.length := by rw [hl.gives]; exact hP.par _ (by omega)
      obtain ⟨h1, h2, h3⟩ := ih x.n 0 (newLc P x.n l.gives) s1 (by omega) (hP.start _ (by omega)) (newLc_ok P _ _ hin hl.givesS) hst
      generalize loop P g x.n 0 (newLc P x.n l.gives) s1 = r at *
      cases r with
      | ret v s2 =>
        obtain ⟨h4, h5, h6⟩ := ih k (P.nxt k at_) { l with res := v } s2 hk (hn (by omega) (by omega)) ⟨hl.regs, hl.regsS, hl.slots, hl.slotsS, hl.gives, hl.givesS, hl.args, hl.argsS, h2⟩ h1
        exact ⟨h4, h5, Nat.le_trans h6 (Nat.le_trans h3 hle)⟩
      | stop e s2 => exact ⟨h1, h2, Nat.le_trans h3 hle⟩
    · cases hp : plainOp x l s1 with
      | inl ls =>
        obtain ⟨l2, s2⟩ := ls
        obtain ⟨h1, h2, h3⟩ := plainOp_ok hl hst hx hp
        obtain ⟨h4, h5, h6⟩ := ih k (P.nxt k at_) l2 s2 hk (hn (by omega) (by omega)) h1 h2
        refine ⟨h4, h5, ?_⟩
        rw [h3] at h6
        exact Nat.le_trans h6 hle
      | inr e => exact ⟨hst, plainOp_stop hp, hle⟩

/-- a program of the machine -/
def mfAt (fs : List Mf) (k : Nat) : Mf := (fs[k]?).getD ⟨0, 0, []⟩
def miAt (fs : List Mf) (k at_ : Nat) : Mi := ((mfAt fs k).ins[at_]?).getD ⟨0, 0, 0, 0, 0⟩
def machPg (fs : List Mf) : Pg :=
  { par := fun k => (mfAt fs k).params.toNat, slo := fun k => (mfAt fs k).slots.toNat, base := fun _ => 0,
    fet := fun k at_ => (miAt fs k at_).ni, nxt := fun _ at_ => at_ + 1, good := fun k at_ => at_ < (mfAt fs k).ins.length }

end Go.Proofs.YtbdbmmdnidonjaaDoor
