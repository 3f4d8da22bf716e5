/- An instruction that goes on behind it: spec's plain, those that set a cell by loads. -/
import Derived.Test.YtbdbmmdnidonjaaDoorSs
import Derived.Test.YtbdbmmdnidonjaaDoorDa
set_option maxRecDepth 100000
namespace Go.Proofs.YtbdbmmdnidonjaaDoor
open Go.RowKit

def SPost (B pr cb : Nat) (mv : Value) (p : Ps) (par : Nat) (x : Ni) (l : Lc) (s : Cm) (sv : Value) (w : World) (e : Ending) (w' : World) : Prop :=
  match plainOp x l s with
  | .inl (l2, s2) => e = .returned (.tuple #[]) ∧ ∃ sv', RunAt B w' pr cb mv none s2 sv' ∧ SCall w' pr cb sv' p par l2 ∧ Fr ([pr, cb] ++ [p.p0, p.p1, p.p2, p.p3]) sv w sv' w'
  | .inr en => e = .returned (.tuple #[]) ∧ RunAt B w' pr cb mv (some en) s sv ∧ Fr [pr, cb] sv w sv w'

section
variable {B pr cb : Nat} {mv : Value} {p : Ps} {par : Nat} {x : Ni} {l : Lc} {s : Cm} {sv : Value} {w w' : World}
theorem sEnd_reg (hR : RunAt B w pr cb mv none s sv) (hC : SCall w pr cb sv p par l) (hb : Below w.heap.size w w') {a v : Nat} (hp : plainOp x l s = .inl (l.put a v, s)) {u : Value} (hu : u = .int .i64 (v : Int)) :
    SPost B pr cb mv p par x l s sv w (.returned (.tuple #[])) (w'.setCell ⟨p.p1, a, none⟩ u) := by
  unfold SPost
  rw [hp]
  subst hu
  have hf := hC.far p.p1 (.inr (.inl rfl))
  exact ⟨rfl, sv, (hR.below hb).other hf.1 hf.2.1 hf.2.2 _, (hC.below hb).setReg a v, (Fr.below hb).setIn (by simp) _⟩
theorem sEnd_slot (hR : RunAt B w pr cb mv none s sv) (hC : SCall w pr cb sv p par l) (hb : Below w.heap.size w w') {a v : Nat} (hp : plainOp x l s = .inl ({ l with slots := l.slots.set a v }, s)) :
    SPost B pr cb mv p par x l s sv w (.returned (.tuple #[])) (w'.setCell ⟨p.p2, a, none⟩ (.int .i64 (v : Int))) := by
  unfold SPost
  rw [hp]
  have hf := hC.far p.p2 (.inr (.inr (.inl rfl)))
  exact ⟨rfl, sv, (hR.below hb).other hf.1 hf.2.1 hf.2.2 _, (hC.below hb).setSlot a v, (Fr.below hb).setIn (by simp) _⟩
theorem sEnd_give (hR : RunAt B w pr cb mv none s sv) (hC : SCall w pr cb sv p par l) (hb : Below w.heap.size w w') {a v : Nat} (hp : plainOp x l s = .inl ({ l with gives := l.gives.set a v }, s)) :
    SPost B pr cb mv p par x l s sv w (.returned (.tuple #[])) (w'.setCell ⟨p.p3, a, none⟩ (.int .i64 (v : Int))) := by
  unfold SPost
  rw [hp]
  have hf := hC.far p.p3 (.inr (.inr (.inr (.inl rfl))))
  exact ⟨rfl, sv, (hR.below hb).other hf.1 hf.2.1 hf.2.2 _, (hC.below hb).setGive a v, (Fr.below hb).setIn (by simp) _⟩
theorem sEnd_cell (hR : RunAt B w pr cb mv none s sv) (hC : SCall w pr cb sv p par l) (hb : Below w.heap.size w w') {a v : Nat} (hp : plainOp x l s = .inl (l, { s with cells := s.cells.set a v })) :
    SPost B pr cb mv p par x l s sv w (.returned (.tuple #[])) (w'.setCell ⟨cb, a, none⟩ (.int .i64 (v : Int))) := by
  unfold SPost
  rw [hp]
  exact ⟨rfl, sv, (hR.below hb).setCell a v, (hC.below hb).keep ((Fr.refl _ _ _).setIn (by simp) _), (Fr.below hb).setIn (by simp) _⟩
theorem sEnd_stop (hR : RunAt B w pr cb mv none s sv) (hb : Below w.heap.size w w') {en : Nat} (hp : plainOp x l s = .inr en) :
    SPost B pr cb mv p par x l s sv w (.returned (.tuple #[])) ((w'.setCell ⟨pr, 2, none⟩ (.int .i64 (en : Int))).setCell ⟨pr, 6, none⟩ (.bool true)) := by
  unfold SPost
  rw [hp]
  exact ⟨rfl, (hR.below hb).stop en, ((Fr.below hb).setIn (by simp) _).setIn (by simp) _⟩
end

theorem sregs {w : World} {pr cb : Nat} {sv : Value} {p : Ps} {par : Nat} {l : Lc} (h : SCall w pr cb sv p par l) (hr : l.regs.length = 8) : (∀ a, a < 8 → w.cell? ⟨p.p1, a, none⟩ = some (.int .i64 (l.reg a : Int))) ∧ (∀ a, w.frozen? ⟨p.p1, a, none⟩ = false) :=
  ⟨fun a ha => by rw [h.regs.cell, nats_get (by omega)]; rfl, h.regs.frozen⟩
theorem sslots {w : World} {pr cb : Nat} {sv : Value} {p : Ps} {par : Nat} {l : Lc} (h : SCall w pr cb sv p par l) {j : Nat} (hj : j < l.slots.length) : w.cell? ⟨p.p2, j, none⟩ = some (.int .i64 ((l.slots.getD j 0 : Nat) : Int)) := by
  rw [h.slots.cell, nats_get hj]
theorem sgives {w : World} {pr cb : Nat} {sv : Value} {p : Ps} {par : Nat} {l : Lc} (h : SCall w pr cb sv p par l) {j : Nat} (hj : j < l.gives.length) : w.cell? ⟨p.p3, j, none⟩ = some (.int .i64 ((l.gives.getD j 0 : Nat) : Int)) := by
  rw [h.gives.cell, nats_get hj]
theorem sargs {w : World} {pr cb : Nat} {sv : Value} {p : Ps} {par : Nat} {l : Lc} (h : SCall w pr cb sv p par l) {j : Nat} (hj : j < par) (h3 : par ≤ 3) : w.cell? ⟨p.p4, j, none⟩ = some (.int .i64 ((l.args.getD j 0 : Nat) : Int)) := by
  obtain ⟨A, hA, hl, ha⟩ := h.args
  rw [hA.cell, nats_get (by omega), ha j hj]
theorem srcells {B : Nat} {w : World} {pr cb : Nat} {mv : Value} {en : Option Nat} {s : Cm} {sv : Value} (h : RunAt B w pr cb mv en s sv) (hs : s.cells.length = 16) {i : Nat} (hi : i < 16) : w.cell? ⟨cb, i, none⟩ = some (.int .i64 ((s.cells.getD i 0 : Nat) : Int)) := by
  rw [h.cells.cell, nats_get (by omega)]

variable {slo : Nat}

set_option maxHeartbeats 2000000 in
theorem sp_1 (w : World) (B pr cb : Nat) (mv : Value) (p : Ps) (par : Nat) (a b c n : Nat) (l : Lc) (s : Cm) (sv : Value) (hR : RunAt B w pr cb mv none s sv) (hC : SCall w pr cb sv p par l) (hl : LcOk par slo l) (hs : CmOk s) (ha : a < 8) (hb8 : b < 8) :
    Calls Tryd.prog 110 #[.pointer (some ⟨pr, 0, none⟩), .agg #[.int .i64 1, .int .i64 (a : Int), .int .i64 (b : Int), .int .i64 (c : Int), .int .i64 (n : Int)], .pointer (some ⟨p.p0, 0, none⟩)] w
      (SPost B pr cb mv p par ⟨1, a, b, c, n⟩ l s sv w) := by
  have hr := hl.regs
  have END := Lib.hid (fun w' (hb : Below w.heap.size w w') => sEnd_reg (x := ⟨1, a, b, c, n⟩) (a := a) (v := n) hR hC hb rfl rfl)
  have HC := Lib.hid hC
  have HR := Lib.hid hR
  have HL := Lib.hid hl
  have HS := Lib.hid hs
  clear hC hR hl hs
  go_enter Tryd.func110, Tryd.ntmps110
  go_wp2_with (fail)
  generalize hw1 : w.alloc _ = w1
  obtain ⟨hb1, x1, x2, x3, x4⟩ := boxed hw1
  have hC1 := HC.out.below hb1
  have hR1 := HR.out.below hb1
  obtain ⟨s0, s1, s2, s3, s4⟩ := scCells hC1
  obtain ⟨hreg, hrf⟩ := sregs hC1 hr
  have a0 : (0 : Int) ≤ a := by omega
  have a1 : (a : Int) < 8 := by omega
  have b0 : (0 : Int) ≤ b := by omega
  have b1 : (b : Int) < 8 := by omega
  have ra := hreg a ha
  have rb := hreg b hb8
  have ta : ∃ y, w1.drew.cell? ⟨p.p1, a, none⟩ = some y := ⟨_, ra⟩
  have tf : w1.drew.frozen? ⟨p.p1, a, none⟩ = false := hrf a
  have HB1 := Lib.hid hb1
  clear hreg hrf hC1 hR1 hb1 hw1 HC HR HL HS x3
  go_still_tail 9, (by kernel_rfl)
  change wpList _ _ _ _ _ w1.drew
  have HD := Lib.hid HB1.out.drew
  generalize w1.drew = w2 at *
  obtain ⟨ty, ta⟩ := ta
  go_wp2_with (fail)
  go_end0
  exact END.out w2 HD.out

set_option maxHeartbeats 2000000 in
theorem sp_2 (w : World) (B pr cb : Nat) (mv : Value) (p : Ps) (par : Nat) (a b c n : Nat) (l : Lc) (s : Cm) (sv : Value) (hR : RunAt B w pr cb mv none s sv) (hC : SCall w pr cb sv p par l) (hl : LcOk par slo l) (hs : CmOk s) (ha : a < 8) (hb8 : b < 8) :
    Calls Tryd.prog 110 #[.pointer (some ⟨pr, 0, none⟩), .agg #[.int .i64 2, .int .i64 (a : Int), .int .i64 (b : Int), .int .i64 (c : Int), .int .i64 (n : Int)], .pointer (some ⟨p.p0, 0, none⟩)] w
      (SPost B pr cb mv p par ⟨2, a, b, c, n⟩ l s sv w) := by
  have hr := hl.regs
  have END := Lib.hid (fun w' (hb : Below w.heap.size w w') => sEnd_reg (x := ⟨2, a, b, c, n⟩) (a := a) (v := l.reg b) hR hC hb rfl rfl)
  have HC := Lib.hid hC
  have HR := Lib.hid hR
  have HL := Lib.hid hl
  have HS := Lib.hid hs
  clear hC hR hl hs
  go_enter Tryd.func110, Tryd.ntmps110
  go_wp2_with (fail)
  generalize hw1 : w.alloc _ = w1
  obtain ⟨hb1, x1, x2, x3, x4⟩ := boxed hw1
  have hC1 := HC.out.below hb1
  have hR1 := HR.out.below hb1
  obtain ⟨s0, s1, s2, s3, s4⟩ := scCells hC1
  obtain ⟨hreg, hrf⟩ := sregs hC1 hr
  have a0 : (0 : Int) ≤ a := by omega
  have a1 : (a : Int) < 8 := by omega
  have b0 : (0 : Int) ≤ b := by omega
  have b1 : (b : Int) < 8 := by omega
  have ra := hreg a ha
  have rb := hreg b hb8
  have ta : ∃ y, w1.drew.cell? ⟨p.p1, a, none⟩ = some y := ⟨_, ra⟩
  have tf : w1.drew.frozen? ⟨p.p1, a, none⟩ = false := hrf a
  have HB1 := Lib.hid hb1
  clear hreg hrf hC1 hR1 hb1 hw1 HC HR HL HS x3
  go_still_tail 15, (by kernel_rfl)
  change wpList _ _ _ _ _ w1.drew
  have HD := Lib.hid HB1.out.drew
  generalize w1.drew = w2 at *
  obtain ⟨ty, ta⟩ := ta
  go_wp2_with (fail)
  go_end0
  exact END.out w2 HD.out

set_option maxHeartbeats 2000000 in
theorem sp_19 (w : World) (B pr cb : Nat) (mv : Value) (p : Ps) (par : Nat) (a b c n : Nat) (l : Lc) (s : Cm) (sv : Value) (hR : RunAt B w pr cb mv none s sv) (hC : SCall w pr cb sv p par l) (hl : LcOk par slo l) (hs : CmOk s) (ha : a < 8) (hb8 : b < 8) :
    Calls Tryd.prog 110 #[.pointer (some ⟨pr, 0, none⟩), .agg #[.int .i64 19, .int .i64 (a : Int), .int .i64 (b : Int), .int .i64 (c : Int), .int .i64 (n : Int)], .pointer (some ⟨p.p0, 0, none⟩)] w
      (SPost B pr cb mv p par ⟨19, a, b, c, n⟩ l s sv w) := by
  have hr := hl.regs
  have END := Lib.hid (fun w' (hb : Below w.heap.size w w') => sEnd_reg (x := ⟨19, a, b, c, n⟩) (a := a) (v := l.res) hR hC hb rfl rfl)
  have HC := Lib.hid hC
  have HR := Lib.hid hR
  have HL := Lib.hid hl
  have HS := Lib.hid hs
  clear hC hR hl hs
  go_enter Tryd.func110, Tryd.ntmps110
  go_wp2_with (fail)
  generalize hw1 : w.alloc _ = w1
  obtain ⟨hb1, x1, x2, x3, x4⟩ := boxed hw1
  have hC1 := HC.out.below hb1
  have hR1 := HR.out.below hb1
  obtain ⟨s0, s1, s2, s3, s4⟩ := scCells hC1
  obtain ⟨hreg, hrf⟩ := sregs hC1 hr
  have a0 : (0 : Int) ≤ a := by omega
  have a1 : (a : Int) < 8 := by omega
  have b0 : (0 : Int) ≤ b := by omega
  have b1 : (b : Int) < 8 := by omega
  have ra := hreg a ha
  have rb := hreg b hb8
  have ta : ∃ y, w1.drew.cell? ⟨p.p1, a, none⟩ = some y := ⟨_, ra⟩
  have tf : w1.drew.frozen? ⟨p.p1, a, none⟩ = false := hrf a
  have HB1 := Lib.hid hb1
  clear hreg hrf hC1 hR1 hb1 hw1 HC HR HL HS x3
  go_still_tail 11, (by kernel_rfl)
  change wpList _ _ _ _ _ w1.drew
  have HD := Lib.hid HB1.out.drew
  generalize w1.drew = w2 at *
  obtain ⟨ty, ta⟩ := ta
  go_wp2_with (fail)
  go_end0
  exact END.out w2 HD.out

set_option maxHeartbeats 2000000 in
theorem sp_16 (w : World) (B pr cb : Nat) (mv : Value) (p : Ps) (par : Nat) (a b c n : Nat) (l : Lc) (s : Cm) (sv : Value) (hR : RunAt B w pr cb mv none s sv) (hC : SCall w pr cb sv p par l) (hl : LcOk par slo l) (hs : CmOk s) (ha : a < 8) (hb8 : b < 8) (hn : n < slo) :
    Calls Tryd.prog 110 #[.pointer (some ⟨pr, 0, none⟩), .agg #[.int .i64 16, .int .i64 (a : Int), .int .i64 (b : Int), .int .i64 (c : Int), .int .i64 (n : Int)], .pointer (some ⟨p.p0, 0, none⟩)] w
      (SPost B pr cb mv p par ⟨16, a, b, c, n⟩ l s sv w) := by
  have hr := hl.regs
  have END := Lib.hid (fun w' (hb : Below w.heap.size w w') => sEnd_reg (x := ⟨16, a, b, c, n⟩) (a := a) (v := l.slots.getD n 0) hR hC hb rfl rfl)
  have HC := Lib.hid hC
  have HR := Lib.hid hR
  have HL := Lib.hid hl
  have HS := Lib.hid hs
  clear hC hR hl hs
  go_enter Tryd.func110, Tryd.ntmps110
  go_wp2_with (fail)
  generalize hw1 : w.alloc _ = w1
  obtain ⟨hb1, x1, x2, x3, x4⟩ := boxed hw1
  have hC1 := HC.out.below hb1
  have hR1 := HR.out.below hb1
  obtain ⟨s0, s1, s2, s3, s4⟩ := scCells hC1
  obtain ⟨hreg, hrf⟩ := sregs hC1 hr
  have a0 : (0 : Int) ≤ a := by omega
  have a1 : (a : Int) < 8 := by omega
  have b0 : (0 : Int) ≤ b := by omega
  have b1 : (b : Int) < 8 := by omega
  have ra := hreg a ha
  have rb := hreg b hb8
  have n0 : (0 : Int) ≤ n := by omega
  have n1 : (n : Int) < l.slots.length := by rw [HL.out.slots]; omega
  have hsc := sslots hC1 (show n < l.slots.length by rw [HL.out.slots]; exact hn)
  generalize l.slots.length = sz at *
  generalize l.slots.getD n 0 = z at *
  have ta : ∃ y, w1.drew.cell? ⟨p.p1, a, none⟩ = some y := ⟨_, ra⟩
  have tf : w1.drew.frozen? ⟨p.p1, a, none⟩ = false := hrf a
  have HB1 := Lib.hid hb1
  clear hreg hrf hC1 hR1 hb1 hw1 HC HR HL HS x3
  go_still_tail 15, (by kernel_rfl)
  change wpList _ _ _ _ _ w1.drew
  have HD := Lib.hid HB1.out.drew
  generalize w1.drew = w2 at *
  obtain ⟨ty, ta⟩ := ta
  go_wp2_with (fail)
  go_end0
  exact END.out w2 HD.out

set_option maxHeartbeats 2000000 in
theorem sp_15 (w : World) (B pr cb : Nat) (mv : Value) (p : Ps) (par : Nat) (a b c n : Nat) (l : Lc) (s : Cm) (sv : Value) (hR : RunAt B w pr cb mv none s sv) (hC : SCall w pr cb sv p par l) (hl : LcOk par slo l) (hs : CmOk s) (ha : a < 8) (hb8 : b < 8) (hn : n < slo) :
    Calls Tryd.prog 110 #[.pointer (some ⟨pr, 0, none⟩), .agg #[.int .i64 15, .int .i64 (a : Int), .int .i64 (b : Int), .int .i64 (c : Int), .int .i64 (n : Int)], .pointer (some ⟨p.p0, 0, none⟩)] w
      (SPost B pr cb mv p par ⟨15, a, b, c, n⟩ l s sv w) := by
  have hr := hl.regs
  have END := Lib.hid (fun w' (hb : Below w.heap.size w w') => sEnd_slot (x := ⟨15, a, b, c, n⟩) (a := n) (v := l.reg a) hR hC hb rfl)
  have HC := Lib.hid hC
  have HR := Lib.hid hR
  have HL := Lib.hid hl
  have HS := Lib.hid hs
  clear hC hR hl hs
  go_enter Tryd.func110, Tryd.ntmps110
  go_wp2_with (fail)
  generalize hw1 : w.alloc _ = w1
  obtain ⟨hb1, x1, x2, x3, x4⟩ := boxed hw1
  have hC1 := HC.out.below hb1
  have hR1 := HR.out.below hb1
  obtain ⟨s0, s1, s2, s3, s4⟩ := scCells hC1
  obtain ⟨hreg, hrf⟩ := sregs hC1 hr
  have a0 : (0 : Int) ≤ a := by omega
  have a1 : (a : Int) < 8 := by omega
  have b0 : (0 : Int) ≤ b := by omega
  have b1 : (b : Int) < 8 := by omega
  have ra := hreg a ha
  have rb := hreg b hb8
  have n0 : (0 : Int) ≤ n := by omega
  have n1 : (n : Int) < l.slots.length := by rw [HL.out.slots]; omega
  have hsc := sslots hC1 (show n < l.slots.length by rw [HL.out.slots]; exact hn)
  have hsf := hC1.slots.frozen n
  generalize l.slots.length = sz at *
  generalize l.slots.getD n 0 = z at *
  have ta : ∃ y, w1.drew.cell? ⟨p.p2, n, none⟩ = some y := ⟨_, hsc⟩
  have tf : w1.drew.frozen? ⟨p.p2, n, none⟩ = false := hsf
  have HB1 := Lib.hid hb1
  clear hreg hrf hC1 hR1 hb1 hw1 HC HR HL HS x3
  go_still_tail 15, (by kernel_rfl)
  change wpList _ _ _ _ _ w1.drew
  have HD := Lib.hid HB1.out.drew
  generalize w1.drew = w2 at *
  obtain ⟨ty, ta⟩ := ta
  go_wp2_with (fail)
  go_end0
  exact END.out w2 HD.out

set_option maxHeartbeats 2000000 in
theorem sp_18 (w : World) (B pr cb : Nat) (mv : Value) (p : Ps) (par : Nat) (a b c n : Nat) (l : Lc) (s : Cm) (sv : Value) (hR : RunAt B w pr cb mv none s sv) (hC : SCall w pr cb sv p par l) (hl : LcOk par slo l) (hs : CmOk s) (ha : a < 8) (hb8 : b < 8) (hn : n < par) (h3 : par ≤ 3) :
    Calls Tryd.prog 110 #[.pointer (some ⟨pr, 0, none⟩), .agg #[.int .i64 18, .int .i64 (a : Int), .int .i64 (b : Int), .int .i64 (c : Int), .int .i64 (n : Int)], .pointer (some ⟨p.p0, 0, none⟩)] w
      (SPost B pr cb mv p par ⟨18, a, b, c, n⟩ l s sv w) := by
  have hr := hl.regs
  have END := Lib.hid (fun w' (hb : Below w.heap.size w w') => sEnd_reg (x := ⟨18, a, b, c, n⟩) (a := a) (v := l.args.getD n 0) hR hC hb rfl rfl)
  have HC := Lib.hid hC
  have HR := Lib.hid hR
  have HL := Lib.hid hl
  have HS := Lib.hid hs
  clear hC hR hl hs
  go_enter Tryd.func110, Tryd.ntmps110
  go_wp2_with (fail)
  generalize hw1 : w.alloc _ = w1
  obtain ⟨hb1, x1, x2, x3, x4⟩ := boxed hw1
  have hC1 := HC.out.below hb1
  have hR1 := HR.out.below hb1
  obtain ⟨s0, s1, s2, s3, s4⟩ := scCells hC1
  obtain ⟨hreg, hrf⟩ := sregs hC1 hr
  have a0 : (0 : Int) ≤ a := by omega
  have a1 : (a : Int) < 8 := by omega
  have b0 : (0 : Int) ≤ b := by omega
  have b1 : (b : Int) < 8 := by omega
  have ra := hreg a ha
  have rb := hreg b hb8
  have n0 : (0 : Int) ≤ n := by omega
  have n1 : (n : Int) < 3 := by omega
  have hac := sargs hC1 hn h3
  generalize l.args.getD n 0 = z at *
  have ta : ∃ y, w1.drew.cell? ⟨p.p1, a, none⟩ = some y := ⟨_, ra⟩
  have tf : w1.drew.frozen? ⟨p.p1, a, none⟩ = false := hrf a
  have HB1 := Lib.hid hb1
  clear hreg hrf hC1 hR1 hb1 hw1 HC HR HL HS x3
  go_still_tail 15, (by kernel_rfl)
  change wpList _ _ _ _ _ w1.drew
  have HD := Lib.hid HB1.out.drew
  generalize w1.drew = w2 at *
  obtain ⟨ty, ta⟩ := ta
  go_wp2_with (fail)
  go_end0
  exact END.out w2 HD.out

set_option maxHeartbeats 2000000 in
theorem sp_17 (w : World) (B pr cb : Nat) (mv : Value) (p : Ps) (par : Nat) (a b c n : Nat) (l : Lc) (s : Cm) (sv : Value) (hR : RunAt B w pr cb mv none s sv) (hC : SCall w pr cb sv p par l) (hl : LcOk par slo l) (hs : CmOk s) (ha : a < 8) (hb8 : b < 8) (hn : n < 3) :
    Calls Tryd.prog 110 #[.pointer (some ⟨pr, 0, none⟩), .agg #[.int .i64 17, .int .i64 (a : Int), .int .i64 (b : Int), .int .i64 (c : Int), .int .i64 (n : Int)], .pointer (some ⟨p.p0, 0, none⟩)] w
      (SPost B pr cb mv p par ⟨17, a, b, c, n⟩ l s sv w) := by
  have hr := hl.regs
  have END := Lib.hid (fun w' (hb : Below w.heap.size w w') => sEnd_give (x := ⟨17, a, b, c, n⟩) (a := n) (v := l.reg a) hR hC hb rfl)
  have HC := Lib.hid hC
  have HR := Lib.hid hR
  have HL := Lib.hid hl
  have HS := Lib.hid hs
  clear hC hR hl hs
  go_enter Tryd.func110, Tryd.ntmps110
  go_wp2_with (fail)
  generalize hw1 : w.alloc _ = w1
  obtain ⟨hb1, x1, x2, x3, x4⟩ := boxed hw1
  have hC1 := HC.out.below hb1
  have hR1 := HR.out.below hb1
  obtain ⟨s0, s1, s2, s3, s4⟩ := scCells hC1
  obtain ⟨hreg, hrf⟩ := sregs hC1 hr
  have a0 : (0 : Int) ≤ a := by omega
  have a1 : (a : Int) < 8 := by omega
  have b0 : (0 : Int) ≤ b := by omega
  have b1 : (b : Int) < 8 := by omega
  have ra := hreg a ha
  have rb := hreg b hb8
  have n0 : (0 : Int) ≤ n := by omega
  have n1 : (n : Int) < 3 := by omega
  have hgc := sgives hC1 (show n < l.gives.length by rw [HL.out.gives]; exact hn)
  have hgf := hC1.gives.frozen n
  have ta : ∃ y, w1.drew.cell? ⟨p.p3, n, none⟩ = some y := ⟨_, hgc⟩
  have tf : w1.drew.frozen? ⟨p.p3, n, none⟩ = false := hgf
  have HB1 := Lib.hid hb1
  clear hreg hrf hC1 hR1 hb1 hw1 HC HR HL HS x3
  go_still_tail 15, (by kernel_rfl)
  change wpList _ _ _ _ _ w1.drew
  have HD := Lib.hid HB1.out.drew
  generalize w1.drew = w2 at *
  obtain ⟨ty, ta⟩ := ta
  go_wp2_with (fail)
  go_end0
  exact END.out w2 HD.out

set_option maxHeartbeats 2000000 in
theorem sp_10 (w : World) (B pr cb : Nat) (mv : Value) (p : Ps) (par : Nat) (a b c n : Nat) (l : Lc) (s : Cm) (sv : Value) (hR : RunAt B w pr cb mv none s sv) (hC : SCall w pr cb sv p par l) (hl : LcOk par slo l) (hs : CmOk s) (ha : a < 8) (hb8 : b < 8) :
    Calls Tryd.prog 110 #[.pointer (some ⟨pr, 0, none⟩), .agg #[.int .i64 10, .int .i64 (a : Int), .int .i64 (b : Int), .int .i64 (c : Int), .int .i64 (n : Int)], .pointer (some ⟨p.p0, 0, none⟩)] w
      (SPost B pr cb mv p par ⟨10, a, b, c, n⟩ l s sv w) := by
  have hr := hl.regs
  have END := Lib.hid (fun w' (hb : Below w.heap.size w w') => sEnd_reg (x := ⟨10, a, b, c, n⟩) (a := a) (v := if l.reg b = 0 then 1 else 0) hR hC hb rfl rfl)
  obtain ⟨v, hv⟩ : ∃ v : Nat, v = if l.reg b = 0 then 1 else 0 := ⟨_, rfl⟩
  rw [← hv] at END
  have hv2 : v = if ((l.reg b : Int) == 0) = true then 1 else 0 := by rw [hv]; simp
  have HK := Lib.hid (fun w' => struth_any w' _ v hv2)
  clear hv hv2
  have HC := Lib.hid hC
  have HR := Lib.hid hR
  have HL := Lib.hid hl
  have HS := Lib.hid hs
  clear hC hR hl hs
  go_enter Tryd.func110, Tryd.ntmps110
  go_wp2_with (fail)
  generalize hw1 : w.alloc _ = w1
  obtain ⟨hb1, x1, x2, x3, x4⟩ := boxed hw1
  have hC1 := HC.out.below hb1
  have hR1 := HR.out.below hb1
  obtain ⟨s0, s1, s2, s3, s4⟩ := scCells hC1
  obtain ⟨hreg, hrf⟩ := sregs hC1 hr
  have a0 : (0 : Int) ≤ a := by omega
  have a1 : (a : Int) < 8 := by omega
  have b0 : (0 : Int) ≤ b := by omega
  have b1 : (b : Int) < 8 := by omega
  have ra := hreg a ha
  have rb := hreg b hb8
  have ta : ∃ y, w1.drew.cell? ⟨p.p1, a, none⟩ = some y := ⟨_, ra⟩
  have tf : w1.drew.frozen? ⟨p.p1, a, none⟩ = false := hrf a
  have HB1 := Lib.hid hb1
  clear hreg hrf hC1 hR1 hb1 hw1 HC HR HL HS x3
  go_still_tail 17, (by kernel_rfl)
  still_call (HK.out _)
  repeat still_step
  refine wpStill_nil ?_
  change wpList _ _ _ _ _ w1.drew
  have HD := Lib.hid HB1.out.drew
  generalize w1.drew = w2 at *
  obtain ⟨ty, ta⟩ := ta
  go_wp2_with (fail)
  go_end0
  exact END.out w2 HD.out

end Go.Proofs.YtbdbmmdnidonjaaDoor
