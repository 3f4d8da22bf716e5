/- An instruction that goes on behind it: spec's plain, those that set a cell by loads. An instruction that goes on behind it: spec's plain, the rest, and all. An instruction that goes on behind it: spec's plain, arithmetic, and all. -/
import Derived.Test.YtbdbmmdnidonjaaDoorUJc
import Derived.Test.YtbdbmmdnidonjaaDoorUJe
set_option linter.unusedVariables false
set_option linter.unusedSimpArgs false
set_option maxRecDepth 100000
namespace Go.Proofs.YtbdbmmdnidonjaaDoor
open Go.RowKit
def SPost (B pr cb : Nat) (mv : Value) (p : Ps) (par : Nat) (x : Ni) (l : Lc) (s : Cm) (sv : Value) (w : World) (e : Ending) (w' : World) : Prop :=
 match plainOp x l s with
 |.inl (l2, s2) => e = .returned (.tuple #[]) ∧ ∃ sv', RunAt B w' pr cb mv none s2 sv' ∧ SCall w' pr cb sv' p par l2 ∧ Fr ([pr, cb] ++ [p.p0, p.p1, p.p2, p.p3]) sv w sv' w'
 |.inr en => e = .returned (.tuple #[]) ∧ RunAt B w' pr cb mv (some en) s sv ∧ Fr [pr, cb] sv w sv w'
section
variable {B pr cb : Nat} {mv : Value} {p : Ps} {par : Nat} {x : Ni} {l : Lc} {s : Cm} {sv : Value} {w w' : World}
theorem sEnd_reg (hR : RunAt B w pr cb mv none s sv) (hC : SCall w pr cb sv p par l) (hb : Below w.heap.size w w') {a v : Nat} (hp : plainOp x l s = .inl (l.put a v, s)) {u : Value} (hu : u = .int .i64 (v : Int)) :
  SPost B pr cb mv p par x l s sv w (.returned (.tuple #[])) (w'.setCell ⟨p.p1, a, none⟩ u) := by
 unfold SPost
 rw [hp]
 subst hu
 have hf := hC.far p.p1 (.inr (.inl rfl))
 exact ⟨rfl, sv, (hR.below hb).other hf.1 hf.2.1 hf.2.2 _, (hC.below hb).setReg a v, (Fr.below hb).setIn (by simp) _⟩
theorem sEnd_slot (hR : RunAt B w pr cb mv none s sv) (hC : SCall w pr cb sv p par l) (hb : Below w.heap.size w w') {a v : Nat} (hp : plainOp x l s = .inl ({ l with slots := l.slots.set a v }, s)) :
  SPost B pr cb mv p par x l s sv w (.returned (.tuple #[])) (w'.setCell ⟨p.p2, a, none⟩ (.int .i64 (v : Int))) := by
 unfold SPost
 rw [hp]
 have hf := hC.far p.p2 (.inr (.inr (.inl rfl)))
 exact ⟨rfl, sv, (hR.below hb).other hf.1 hf.2.1 hf.2.2 _, (hC.below hb).setSlot a v, (Fr.below hb).setIn (by simp) _⟩
theorem sEnd_give (hR : RunAt B w pr cb mv none s sv) (hC : SCall w pr cb sv p par l) (hb : Below w.heap.size w w') {a v : Nat} (hp : plainOp x l s = .inl ({ l with gives := l.gives.set a v }, s)) :
  SPost B pr cb mv p par x l s sv w (.returned (.tuple #[])) (w'.setCell ⟨p.p3, a, none⟩ (.int .i64 (v : Int))) := by
 unfold SPost
 rw [hp]
 have hf := hC.far p.p3 (.inr (.inr (.inr (.inl rfl))))
 exact ⟨rfl, sv, (hR.below hb).other hf.1 hf.2.1 hf.2.2 _, (hC.below hb).setGive a v, (Fr.below hb).setIn (by simp) _⟩
theorem sEnd_cell (hR : RunAt B w pr cb mv none s sv) (hC : SCall w pr cb sv p par l) (hb : Below w.heap.size w w') {a v : Nat} (hp : plainOp x l s = .inl (l, { s with cells := s.cells.set a v })) :
  SPost B pr cb mv p par x l s sv w (.returned (.tuple #[])) (w'.setCell ⟨cb, a, none⟩ (.int .i64 (v : Int))) := by
 unfold SPost
 rw [hp]
 exact ⟨rfl, sv, (hR.below hb).setCell a v, (hC.below hb).keep ((Fr.refl _ _ _).setIn (by simp) _), (Fr.below hb).setIn (by simp) _⟩
theorem sEnd_stop (hR : RunAt B w pr cb mv none s sv) (hb : Below w.heap.size w w') {en : Nat} (hp : plainOp x l s = .inr en) :
  SPost B pr cb mv p par x l s sv w (.returned (.tuple #[])) ((w'.setCell ⟨pr, 2, none⟩ (.int .i64 (en : Int))).setCell ⟨pr, 6, none⟩ (.bool true)) := by
 unfold SPost
 rw [hp]
 exact ⟨rfl, (hR.below hb).stop en, ((Fr.below hb).setIn (by simp) _).setIn (by simp) _⟩
end
theorem sregs {w : World} {pr cb : Nat} {sv : Value} {p : Ps} {par : Nat} {l : Lc} (h : SCall w pr cb sv p par l) (hr : l.regs.length = 8) : (∀ a, a < 8 → w.cell? ⟨p.p1, a, none⟩ = some (.int .i64 (l.reg a : Int))) ∧ (∀ a, w.frozen? ⟨p.p1, a, none⟩ = false) :=
 ⟨fun a ha => by rw [h.regs.cell, nats_get (by omega)]; rfl, h.regs.frozen⟩
theorem sslots {w : World} {pr cb : Nat} {sv : Value} {p : Ps} {par : Nat} {l : Lc} (h : SCall w pr cb sv p par l) {j : Nat} (hj : j < l.slots.length) : w.cell? ⟨p.p2, j, none⟩ = some (.int .i64 ((l.slots.getD j 0 : Nat) : Int)) := by
 rw [h.slots.cell, nats_get hj]
theorem sgives {w : World} {pr cb : Nat} {sv : Value} {p : Ps} {par : Nat} {l : Lc} (h : SCall w pr cb sv p par l) {j : Nat} (hj : j < l.gives.length) : w.cell? ⟨p.p3, j, none⟩ = some (.int .i64 ((l.gives.getD j 0 : Nat) : Int)) := by
 rw [h.gives.cell, nats_get hj]
theorem sargs {w : World} {pr cb : Nat} {sv : Value} {p : Ps} {par : Nat} {l : Lc} (h : SCall w pr cb sv p par l) {j : Nat} (hj : j < par) (h3 : par ≤ 3) : w.cell? ⟨p.p4, j, none⟩ = some (.int .i64 ((l.args.getD j 0 : Nat) : Int)) := by
 obtain ⟨A, hA, hl, ha⟩ := h.args
 rw [hA.cell, nats_get (by omega), ha j hj]
theorem srcells {B : Nat} {w : World} {pr cb : Nat} {mv : Value} {en : Option Nat} {s : Cm} {sv : Value} (h : RunAt B w pr cb mv en s sv) (hs : s.cells.length = 16) {i : Nat} (hi : i < 16) : w.cell? ⟨cb, i, none⟩ = some (.int .i64 ((s.cells.getD i 0 : Nat) : Int)) := by
 rw [h.cells.cell, nats_get (by omega)]
variable {slo : Nat}
set_option maxHeartbeats 2000000 in
theorem sp_1 (w : World) (B pr cb : Nat) (mv : Value) (p : Ps) (par : Nat) (a b c n : Nat) (l : Lc) (s : Cm) (sv : Value) (hR : RunAt B w pr cb mv none s sv) (hC : SCall w pr cb sv p par l) (hl : LcOk par slo l) (hs : CmOk s) (ha : a < 8) (hb8 : b < 8) :
  Calls Tryd.prog 110 #[.pointer (some ⟨pr, 0, none⟩), .agg #[.int .i64 1, .int .i64 (a : Int), .int .i64 (b : Int), .int .i64 (c : Int), .int .i64 (n : Int)], .pointer (some ⟨p.p0, 0, none⟩)] w
   (SPost B pr cb mv p par ⟨1, a, b, c, n⟩ l s sv w) := by
 have hr := hl.regs
 have END := Lib.hid (fun w' (hb : Below w.heap.size w w') => sEnd_reg (x := ⟨1, a, b, c, n⟩) (a := a) (v := n) hR hC hb rfl rfl)
 have HC := Lib.hid hC
 have HR := Lib.hid hR
 have HL := Lib.hid hl
 have HS := Lib.hid hs
 clear hC hR hl hs
 go_enter Tryd.func110, Tryd.ntmps110
 go_wp2_with (fail)
 generalize hw1 : w.alloc _ = w1
 obtain ⟨hb1, x1, x2, x3, x4⟩ := boxed hw1
 have hC1 := HC.out.below hb1
 have hR1 := HR.out.below hb1
 obtain ⟨s0, s1, s2, s3, s4⟩ := scCells hC1
 obtain ⟨hreg, hrf⟩ := sregs hC1 hr
 have a0 : (0 : Int) ≤ a := by omega
 have a1 : (a : Int) < 8 := by omega
 have b0 : (0 : Int) ≤ b := by omega
 have b1 : (b : Int) < 8 := by omega
 have ra := hreg a ha
 have rb := hreg b hb8
 have ta : ∃ y, w1.drew.cell? ⟨p.p1, a, none⟩ = some y := ⟨_, ra⟩
 have tf : w1.drew.frozen? ⟨p.p1, a, none⟩ = false := hrf a
 have HB1 := Lib.hid hb1
 clear hreg hrf hC1 hR1 hb1 hw1 HC HR HL HS x3
 go_still_tail 9, (by kernel_rfl)
 change wpList _ _ _ _ _ w1.drew
 have HD := Lib.hid HB1.out.drew
 generalize w1.drew = w2 at *
 obtain ⟨ty, ta⟩ := ta
 go_wp2_with (fail)
 go_end0
 exact END.out w2 HD.out
set_option maxHeartbeats 2000000 in
theorem sp_2 (w : World) (B pr cb : Nat) (mv : Value) (p : Ps) (par : Nat) (a b c n : Nat) (l : Lc) (s : Cm) (sv : Value) (hR : RunAt B w pr cb mv none s sv) (hC : SCall w pr cb sv p par l) (hl : LcOk par slo l) (hs : CmOk s) (ha : a < 8) (hb8 : b < 8) :
  Calls Tryd.prog 110 #[.pointer (some ⟨pr, 0, none⟩), .agg #[.int .i64 2, .int .i64 (a : Int), .int .i64 (b : Int), .int .i64 (c : Int), .int .i64 (n : Int)], .pointer (some ⟨p.p0, 0, none⟩)] w
   (SPost B pr cb mv p par ⟨2, a, b, c, n⟩ l s sv w) := by
 have hr := hl.regs
 have END := Lib.hid (fun w' (hb : Below w.heap.size w w') => sEnd_reg (x := ⟨2, a, b, c, n⟩) (a := a) (v := l.reg b) hR hC hb rfl rfl)
 have HC := Lib.hid hC
 have HR := Lib.hid hR
 have HL := Lib.hid hl
 have HS := Lib.hid hs
 clear hC hR hl hs
 go_enter Tryd.func110, Tryd.ntmps110
 go_wp2_with (fail)
 generalize hw1 : w.alloc _ = w1
 obtain ⟨hb1, x1, x2, x3, x4⟩ := boxed hw1
 have hC1 := HC.out.below hb1
 have hR1 := HR.out.below hb1
 obtain ⟨s0, s1, s2, s3, s4⟩ := scCells hC1
 obtain ⟨hreg, hrf⟩ := sregs hC1 hr
 have a0 : (0 : Int) ≤ a := by omega
 have a1 : (a : Int) < 8 := by omega
 have b0 : (0 : Int) ≤ b := by omega
 have b1 : (b : Int) < 8 := by omega
 have ra := hreg a ha
 have rb := hreg b hb8
 have ta : ∃ y, w1.drew.cell? ⟨p.p1, a, none⟩ = some y := ⟨_, ra⟩
 have tf : w1.drew.frozen? ⟨p.p1, a, none⟩ = false := hrf a
 have HB1 := Lib.hid hb1
 clear hreg hrf hC1 hR1 hb1 hw1 HC HR HL HS x3
 go_still_tail 15, (by kernel_rfl)
 change wpList _ _ _ _ _ w1.drew
 have HD := Lib.hid HB1.out.drew
 generalize w1.drew = w2 at *
 obtain ⟨ty, ta⟩ := ta
 go_wp2_with (fail)
 go_end0
 exact END.out w2 HD.out
set_option maxHeartbeats 2000000 in
theorem sp_19 (w : World) (B pr cb : Nat) (mv : Value) (p : Ps) (par : Nat) (a b c n : Nat) (l : Lc) (s : Cm) (sv : Value) (hR : RunAt B w pr cb mv none s sv) (hC : SCall w pr cb sv p par l) (hl : LcOk par slo l) (hs : CmOk s) (ha : a < 8) (hb8 : b < 8) :
  Calls Tryd.prog 110 #[.pointer (some ⟨pr, 0, none⟩), .agg #[.int .i64 19, .int .i64 (a : Int), .int .i64 (b : Int), .int .i64 (c : Int), .int .i64 (n : Int)], .pointer (some ⟨p.p0, 0, none⟩)] w
   (SPost B pr cb mv p par ⟨19, a, b, c, n⟩ l s sv w) := by
 have hr := hl.regs
 have END := Lib.hid (fun w' (hb : Below w.heap.size w w') => sEnd_reg (x := ⟨19, a, b, c, n⟩) (a := a) (v := l.res) hR hC hb rfl rfl)
 have HC := Lib.hid hC
 have HR := Lib.hid hR
 have HL := Lib.hid hl
 have HS := Lib.hid hs
 clear hC hR hl hs
 go_enter Tryd.func110, Tryd.ntmps110
 go_wp2_with (fail)
 generalize hw1 : w.alloc _ = w1
 obtain ⟨hb1, x1, x2, x3, x4⟩ := boxed hw1
 have hC1 := HC.out.below hb1
 have hR1 := HR.out.below hb1
 obtain ⟨s0, s1, s2, s3, s4⟩ := scCells hC1
 obtain ⟨hreg, hrf⟩ := sregs hC1 hr
 have a0 : (0 : Int) ≤ a := by omega
 have a1 : (a : Int) < 8 := by omega
 have b0 : (0 : Int) ≤ b := by omega
 have b1 : (b : Int) < 8 := by omega
 have ra := hreg a ha
 have rb := hreg b hb8
 have ta : ∃ y, w1.drew.cell? ⟨p.p1, a, none⟩ = some y := ⟨_, ra⟩
 have tf : w1.drew.frozen? ⟨p.p1, a, none⟩ = false := hrf a
 have HB1 := Lib.hid hb1
 clear hreg hrf hC1 hR1 hb1 hw1 HC HR HL HS x3
 go_still_tail 11, (by kernel_rfl)
 change wpList _ _ _ _ _ w1.drew
 have HD := Lib.hid HB1.out.drew
 generalize w1.drew = w2 at *
 obtain ⟨ty, ta⟩ := ta
 go_wp2_with (fail)
 go_end0
 exact END.out w2 HD.out
set_option maxHeartbeats 2000000 in
theorem sp_16 (w : World) (B pr cb : Nat) (mv : Value) (p : Ps) (par : Nat) (a b c n : Nat) (l : Lc) (s : Cm) (sv : Value) (hR : RunAt B w pr cb mv none s sv) (hC : SCall w pr cb sv p par l) (hl : LcOk par slo l) (hs : CmOk s) (ha : a < 8) (hb8 : b < 8) (hn : n < slo) :
  Calls Tryd.prog 110 #[.pointer (some ⟨pr, 0, none⟩), .agg #[.int .i64 16, .int .i64 (a : Int), .int .i64 (b : Int), .int .i64 (c : Int), .int .i64 (n : Int)], .pointer (some ⟨p.p0, 0, none⟩)] w
   (SPost B pr cb mv p par ⟨16, a, b, c, n⟩ l s sv w) := by
 have hr := hl.regs
 have END := Lib.hid (fun w' (hb : Below w.heap.size w w') => sEnd_reg (x := ⟨16, a, b, c, n⟩) (a := a) (v := l.slots.getD n 0) hR hC hb rfl rfl)
 have HC := Lib.hid hC
 have HR := Lib.hid hR
 have HL := Lib.hid hl
 have HS := Lib.hid hs
 clear hC hR hl hs
 go_enter Tryd.func110, Tryd.ntmps110
 go_wp2_with (fail)
 generalize hw1 : w.alloc _ = w1
 obtain ⟨hb1, x1, x2, x3, x4⟩ := boxed hw1
 have hC1 := HC.out.below hb1
 have hR1 := HR.out.below hb1
 obtain ⟨s0, s1, s2, s3, s4⟩ := scCells hC1
 obtain ⟨hreg, hrf⟩ := sregs hC1 hr
 have a0 : (0 : Int) ≤ a := by omega
 have a1 : (a : Int) < 8 := by omega
 have b0 : (0 : Int) ≤ b := by omega
 have b1 : (b : Int) < 8 := by omega
 have ra := hreg a ha
 have rb := hreg b hb8
 have n0 : (0 : Int) ≤ n := by omega
 have n1 : (n : Int) < l.slots.length := by rw [HL.out.slots]; omega
 have hsc := sslots hC1 (show n < l.slots.length by rw [HL.out.slots]; exact hn)
 generalize l.slots.length = sz at *
 generalize l.slots.getD n 0 = z at *
 have ta : ∃ y, w1.drew.cell? ⟨p.p1, a, none⟩ = some y := ⟨_, ra⟩
 have tf : w1.drew.frozen? ⟨p.p1, a, none⟩ = false := hrf a
 have HB1 := Lib.hid hb1
 clear hreg hrf hC1 hR1 hb1 hw1 HC HR HL HS x3
 go_still_tail 15, (by kernel_rfl)
 change wpList _ _ _ _ _ w1.drew
 have HD := Lib.hid HB1.out.drew
 generalize w1.drew = w2 at *
 obtain ⟨ty, ta⟩ := ta
 go_wp2_with (fail)
 go_end0
 exact END.out w2 HD.out
set_option maxHeartbeats 2000000 in
theorem sp_15 (w : World) (B pr cb : Nat) (mv : Value) (p : Ps) (par : Nat) (a b c n : Nat) (l : Lc) (s : Cm) (sv : Value) (hR : RunAt B w pr cb mv none s sv) (hC : SCall w pr cb sv p par l) (hl : LcOk par slo l) (hs : CmOk s) (ha : a < 8) (hb8 : b < 8) (hn : n < slo) :
  Calls Tryd.prog 110 #[.pointer (some ⟨pr, 0, none⟩), .agg #[.int .i64 15, .int .i64 (a : Int), .int .i64 (b : Int), .int .i64 (c : Int), .int .i64 (n : Int)], .pointer (some ⟨p.p0, 0, none⟩)] w
   (SPost B pr cb mv p par ⟨15, a, b, c, n⟩ l s sv w) := by
 have hr := hl.regs
 have END := Lib.hid (fun w' (hb : Below w.heap.size w w') => sEnd_slot (x := ⟨15, a, b, c, n⟩) (a := n) (v := l.reg a) hR hC hb rfl)
 have HC := Lib.hid hC
 have HR := Lib.hid hR
 have HL := Lib.hid hl
 have HS := Lib.hid hs
 clear hC hR hl hs
 go_enter Tryd.func110, Tryd.ntmps110
 go_wp2_with (fail)
 generalize hw1 : w.alloc _ = w1
 obtain ⟨hb1, x1, x2, x3, x4⟩ := boxed hw1
 have hC1 := HC.out.below hb1
 have hR1 := HR.out.below hb1
 obtain ⟨s0, s1, s2, s3, s4⟩ := scCells hC1
 obtain ⟨hreg, hrf⟩ := sregs hC1 hr
 have a0 : (0 : Int) ≤ a := by omega
 have a1 : (a : Int) < 8 := by omega
 have b0 : (0 : Int) ≤ b := by omega
 have b1 : (b : Int) < 8 := by omega
 have ra := hreg a ha
 have rb := hreg b hb8
 have n0 : (0 : Int) ≤ n := by omega
 have n1 : (n : Int) < l.slots.length := by rw [HL.out.slots]; omega
 have hsc := sslots hC1 (show n < l.slots.length by rw [HL.out.slots]; exact hn)
 have hsf := hC1.slots.frozen n
 generalize l.slots.length = sz at *
 generalize l.slots.getD n 0 = z at *
 have ta : ∃ y, w1.drew.cell? ⟨p.p2, n, none⟩ = some y := ⟨_, hsc⟩
 have tf : w1.drew.frozen? ⟨p.p2, n, none⟩ = false := hsf
 have HB1 := Lib.hid hb1
 clear hreg hrf hC1 hR1 hb1 hw1 HC HR HL HS x3
 go_still_tail 15, (by kernel_rfl)
 change wpList _ _ _ _ _ w1.drew
 have HD := Lib.hid HB1.out.drew
 generalize w1.drew = w2 at *
 obtain ⟨ty, ta⟩ := ta
 go_wp2_with (fail)
 go_end0
 exact END.out w2 HD.out
set_option maxHeartbeats 2000000 in
theorem sp_18 (w : World) (B pr cb : Nat) (mv : Value) (p : Ps) (par : Nat) (a b c n : Nat) (l : Lc) (s : Cm) (sv : Value) (hR : RunAt B w pr cb mv none s sv) (hC : SCall w pr cb sv p par l) (hl : LcOk par slo l) (hs : CmOk s) (ha : a < 8) (hb8 : b < 8) (hn : n < par) (h3 : par ≤ 3) :
  Calls Tryd.prog 110 #[.pointer (some ⟨pr, 0, none⟩), .agg #[.int .i64 18, .int .i64 (a : Int), .int .i64 (b : Int), .int .i64 (c : Int), .int .i64 (n : Int)], .pointer (some ⟨p.p0, 0, none⟩)] w
   (SPost B pr cb mv p par ⟨18, a, b, c, n⟩ l s sv w) := by
 have hr := hl.regs
 have END := Lib.hid (fun w' (hb : Below w.heap.size w w') => sEnd_reg (x := ⟨18, a, b, c, n⟩) (a := a) (v := l.args.getD n 0) hR hC hb rfl rfl)
 have HC := Lib.hid hC
 have HR := Lib.hid hR
 have HL := Lib.hid hl
 have HS := Lib.hid hs
 clear hC hR hl hs
 go_enter Tryd.func110, Tryd.ntmps110
 go_wp2_with (fail)
 generalize hw1 : w.alloc _ = w1
 obtain ⟨hb1, x1, x2, x3, x4⟩ := boxed hw1
 have hC1 := HC.out.below hb1
 have hR1 := HR.out.below hb1
 obtain ⟨s0, s1, s2, s3, s4⟩ := scCells hC1
 obtain ⟨hreg, hrf⟩ := sregs hC1 hr
 have a0 : (0 : Int) ≤ a := by omega
 have a1 : (a : Int) < 8 := by omega
 have b0 : (0 : Int) ≤ b := by omega
 have b1 : (b : Int) < 8 := by omega
 have ra := hreg a ha
 have rb := hreg b hb8
 have n0 : (0 : Int) ≤ n := by omega
 have n1 : (n : Int) < 3 := by omega
 have hac := sargs hC1 hn h3
 generalize l.args.getD n 0 = z at *
 have ta : ∃ y, w1.drew.cell? ⟨p.p1, a, none⟩ = some y := ⟨_, ra⟩
 have tf : w1.drew.frozen? ⟨p.p1, a, none⟩ = false := hrf a
 have HB1 := Lib.hid hb1
 clear hreg hrf hC1 hR1 hb1 hw1 HC HR HL HS x3
 go_still_tail 15, (by kernel_rfl)
 change wpList _ _ _ _ _ w1.drew
 have HD := Lib.hid HB1.out.drew
 generalize w1.drew = w2 at *
 obtain ⟨ty, ta⟩ := ta
 go_wp2_with (fail)
 go_end0
 exact END.out w2 HD.out
set_option maxHeartbeats 2000000 in
theorem sp_17 (w : World) (B pr cb : Nat) (mv : Value) (p : Ps) (par : Nat) (a b c n : Nat) (l : Lc) (s : Cm) (sv : Value) (hR : RunAt B w pr cb mv none s sv) (hC : SCall w pr cb sv p par l) (hl : LcOk par slo l) (hs : CmOk s) (ha : a < 8) (hb8 : b < 8) (hn : n < 3) :
  Calls Tryd.prog 110 #[.pointer (some ⟨pr, 0, none⟩), .agg #[.int .i64 17, .int .i64 (a : Int), .int .i64 (b : Int), .int .i64 (c : Int), .int .i64 (n : Int)], .pointer (some ⟨p.p0, 0, none⟩)] w
   (SPost B pr cb mv p par ⟨17, a, b, c, n⟩ l s sv w) := by
 have hr := hl.regs
 have END := Lib.hid (fun w' (hb : Below w.heap.size w w') => sEnd_give (x := ⟨17, a, b, c, n⟩) (a := n) (v := l.reg a) hR hC hb rfl)
 have HC := Lib.hid hC
 have HR := Lib.hid hR
 have HL := Lib.hid hl
 have HS := Lib.hid hs
 clear hC hR hl hs
 go_enter Tryd.func110, Tryd.ntmps110
 go_wp2_with (fail)
 generalize hw1 : w.alloc _ = w1
 obtain ⟨hb1, x1, x2, x3, x4⟩ := boxed hw1
 have hC1 := HC.out.below hb1
 have hR1 := HR.out.below hb1
 obtain ⟨s0, s1, s2, s3, s4⟩ := scCells hC1
 obtain ⟨hreg, hrf⟩ := sregs hC1 hr
 have a0 : (0 : Int) ≤ a := by omega
 have a1 : (a : Int) < 8 := by omega
 have b0 : (0 : Int) ≤ b := by omega
 have b1 : (b : Int) < 8 := by omega
 have ra := hreg a ha
 have rb := hreg b hb8
 have n0 : (0 : Int) ≤ n := by omega
 have n1 : (n : Int) < 3 := by omega
 have hgc := sgives hC1 (show n < l.gives.length by rw [HL.out.gives]; exact hn)
 have hgf := hC1.gives.frozen n
 have ta : ∃ y, w1.drew.cell? ⟨p.p3, n, none⟩ = some y := ⟨_, hgc⟩
 have tf : w1.drew.frozen? ⟨p.p3, n, none⟩ = false := hgf
 have HB1 := Lib.hid hb1
 clear hreg hrf hC1 hR1 hb1 hw1 HC HR HL HS x3
 go_still_tail 15, (by kernel_rfl)
 change wpList _ _ _ _ _ w1.drew
 have HD := Lib.hid HB1.out.drew
 generalize w1.drew = w2 at *
 obtain ⟨ty, ta⟩ := ta
 go_wp2_with (fail)
 go_end0
 exact END.out w2 HD.out
set_option maxHeartbeats 2000000 in
theorem sp_10 (w : World) (B pr cb : Nat) (mv : Value) (p : Ps) (par : Nat) (a b c n : Nat) (l : Lc) (s : Cm) (sv : Value) (hR : RunAt B w pr cb mv none s sv) (hC : SCall w pr cb sv p par l) (hl : LcOk par slo l) (hs : CmOk s) (ha : a < 8) (hb8 : b < 8) :
  Calls Tryd.prog 110 #[.pointer (some ⟨pr, 0, none⟩), .agg #[.int .i64 10, .int .i64 (a : Int), .int .i64 (b : Int), .int .i64 (c : Int), .int .i64 (n : Int)], .pointer (some ⟨p.p0, 0, none⟩)] w
   (SPost B pr cb mv p par ⟨10, a, b, c, n⟩ l s sv w) := by
 have hr := hl.regs
 have END := Lib.hid (fun w' (hb : Below w.heap.size w w') => sEnd_reg (x := ⟨10, a, b, c, n⟩) (a := a) (v := if l.reg b = 0 then 1 else 0) hR hC hb rfl rfl)
 obtain ⟨v, hv⟩ : ∃ v : Nat, v = if l.reg b = 0 then 1 else 0 := ⟨_, rfl⟩
 rw [← hv] at END
 have hv2 : v = if ((l.reg b : Int) == 0) = true then 1 else 0 := by rw [hv]; simp
 have HK := Lib.hid (fun w' => struth_any w' _ v hv2)
 clear hv hv2
 have HC := Lib.hid hC
 have HR := Lib.hid hR
 have HL := Lib.hid hl
 have HS := Lib.hid hs
 clear hC hR hl hs
 go_enter Tryd.func110, Tryd.ntmps110
 go_wp2_with (fail)
 generalize hw1 : w.alloc _ = w1
 obtain ⟨hb1, x1, x2, x3, x4⟩ := boxed hw1
 have hC1 := HC.out.below hb1
 have hR1 := HR.out.below hb1
 obtain ⟨s0, s1, s2, s3, s4⟩ := scCells hC1
 obtain ⟨hreg, hrf⟩ := sregs hC1 hr
 have a0 : (0 : Int) ≤ a := by omega
 have a1 : (a : Int) < 8 := by omega
 have b0 : (0 : Int) ≤ b := by omega
 have b1 : (b : Int) < 8 := by omega
 have ra := hreg a ha
 have rb := hreg b hb8
 have ta : ∃ y, w1.drew.cell? ⟨p.p1, a, none⟩ = some y := ⟨_, ra⟩
 have tf : w1.drew.frozen? ⟨p.p1, a, none⟩ = false := hrf a
 have HB1 := Lib.hid hb1
 clear hreg hrf hC1 hR1 hb1 hw1 HC HR HL HS x3
 go_still_tail 17, (by kernel_rfl)
 still_call (HK.out _)
 repeat still_step
 refine wpStill_nil ?_
 change wpList _ _ _ _ _ w1.drew
 have HD := Lib.hid HB1.out.drew
 generalize w1.drew = w2 at *
 obtain ⟨ty, ta⟩ := ta
 go_wp2_with (fail)
 go_end0
 exact END.out w2 HD.out
end Go.Proofs.YtbdbmmdnidonjaaDoor
set_option maxRecDepth 100000
namespace Go.Proofs.YtbdbmmdnidonjaaDoor
open Go.RowKit
theorem sEnd_say {B pr cb : Nat} {mv : Value} {p : Ps} {par : Nat} {x : Ni} {l : Lc} {s : Cm} {sv : Value} {w wa w' : World} (hR : RunAt B w pr cb mv none s sv) (hC : SCall w pr cb sv p par l) (hb : Below w.heap.size w wa)
  {g cap v : Nat} (hown : w'.ownsRow B 3 1 (.slice (some ⟨g, 0, none⟩) (s.said.length + 1) cap) (s.said.length + 1) (nats s.said ++ [.int .i64 (v : Int)])) (hg : wa.grownBy w' sv.ownBlock) (hat : sv.ownBlock = some g ∨ w.heap.size ≤ g)
  (hp : plainOp x l s = .inl (l, { s with said := s.said ++ [v] })) :
  SPost B pr cb mv p par x l s sv w (.returned (.tuple #[])) (w'.setCell ⟨pr, 1, none⟩ (.slice (some ⟨g, 0, none⟩) (s.said.length + 1) cap)) := by
 have hlr := hR.blk.lt
 have hlc := hR.cells.lt
 have hgp : g ≠ pr := by
  rcases hat with h | h
  ·intro e; exact hR.sp (by rw [h, e])
  ·omega
 have hgc : g ≠ cb := by
  rcases hat with h | h
  ·intro e; exact hR.sc (by rw [h, e])
  ·omega
 have hfr : Fr [pr, cb] sv w (.slice (some ⟨g, 0, none⟩) (s.said.length + 1) cap) (w'.setCell ⟨pr, 1, none⟩ (.slice (some ⟨g, 0, none⟩) (s.said.length + 1) cap)) := by
  refine ⟨?_, ?_⟩
  ·refine Only.setCell ?_ (by simp) _
   refine (Only.of_below hb _).trans ?_
   refine ⟨hg.os, hg.tape, hg.output, hg.size, fun k hk hn => hg.block k hk (fun e => hn (List.mem_append_right _ (by rw [← e]; simp)))⟩
  ·rcases hat with h | h
   ·exact .inl (by rw [h]; rfl)
   ·exact .inr fun k hk => by simp [Value.ownBlock] at hk; omega
 unfold SPost
 rw [hp]
 refine ⟨rfl, _, ⟨?_, ?_, ?_, hR.ne, ?_, ?_, hR.gp, hR.gc⟩, hC.keep hfr, hfr.mono (fun x hx => List.mem_append_left _ hx)⟩
 ·exact ((hR.blk.below hb).grown hg hR.sp).set 1 _
 ·exact ((hR.cells.below hb).grown hg hR.sc).other (fun e => hR.ne e.symm) _
 ·show Said _ _ _ (s.said ++ [v])
  unfold Said
  rw [List.length_append, List.length_singleton, show nats (s.said ++ [v]) = nats s.said ++ [.int .i64 (v : Int)] by simp [nats]]
  exact ownsRow_same hown (fun k hk => Below.heap_setCell _ _ _ _ (by simp [Value.ownBlock] at hk; simp only []; omega))
 ·intro e; simp [Value.ownBlock] at e; exact hgp e
 ·intro e; simp [Value.ownBlock] at e; exact hgc e
theorem sEnd_arith {B pr cb : Nat} {mv : Value} {p : Ps} {par : Nat} {l : Lc} {s : Cm} {sv : Value} {w w' : World} {op a b c n : Nat} (h3 : 3 ≤ op) (h9 : op ≤ 9) (hR : RunAt B w pr cb mv none s sv) (hC : SCall w pr cb sv p par l) (hb : Below w.heap.size w w') {v : Nat} (hv : arithN op (l.reg b) (l.reg c) = some v) :
  SPost B pr cb mv p par ⟨op, a, b, c, n⟩ l s sv w (.returned (.tuple #[])) (w'.setCell ⟨p.p1, a, none⟩ (.int .i64 (v : Int))) := by
 refine sEnd_reg hR hC hb ?_ rfl
 unfold plainOp
 simp only [hv]
 repeat rw [if_neg (by omega)]
theorem sEnd_arith0 {B pr cb : Nat} {mv : Value} {p : Ps} {par : Nat} {l : Lc} {s : Cm} {sv : Value} {w w' : World} {op a b c n : Nat} (h3 : 3 ≤ op) (h9 : op ≤ 9) (hR : RunAt B w pr cb mv none s sv) (hb : Below w.heap.size w w') (hv : arithN op (l.reg b) (l.reg c) = none) :
  SPost B pr cb mv p par ⟨op, a, b, c, n⟩ l s sv w (.returned (.tuple #[])) ((w'.setCell ⟨pr, 2, none⟩ (.int .i64 ((1 : Nat) : Int))).setCell ⟨pr, 6, none⟩ (.bool true)) := by
 refine sEnd_stop hR hb ?_
 unfold plainOp
 simp only [hv]
 repeat rw [if_neg (by omega)]
variable {slo : Nat}
set_option maxHeartbeats 2000000 in
theorem sp_11 (w : World) (B pr cb : Nat) (mv : Value) (p : Ps) (par : Nat) (a b c n : Nat) (l : Lc) (s : Cm) (sv : Value) (hR : RunAt B w pr cb mv none s sv) (hC : SCall w pr cb sv p par l) (hl : LcOk par slo l) (hs : CmOk s) (ha : a < 8) (hb8 : b < 8) (hcell : l.reg b < 16) :
  Calls Tryd.prog 110 #[.pointer (some ⟨pr, 0, none⟩), .agg #[.int .i64 11, .int .i64 (a : Int), .int .i64 (b : Int), .int .i64 (c : Int), .int .i64 (n : Int)], .pointer (some ⟨p.p0, 0, none⟩)] w
   (SPost B pr cb mv p par ⟨11, a, b, c, n⟩ l s sv w) := by
 have hr := hl.regs
 have END := Lib.hid (fun w' (hb : Below w.heap.size w w') => sEnd_reg (x := ⟨11, a, b, c, n⟩) (a := a) (v := s.cells.getD (l.reg b) 0) hR hC hb (by unfold plainOp; simp; omega) rfl)
 have HK := Lib.hid (fun w' => scell_yes w' pr (l.reg b) hcell)
 have HC := Lib.hid hC
 have HR := Lib.hid hR
 have HL := Lib.hid hl
 have HS := Lib.hid hs
 clear hC hR hl hs
 go_enter Tryd.func110, Tryd.ntmps110
 go_wp2_with (fail)
 generalize hw1 : w.alloc _ = w1
 obtain ⟨hb1, x1, x2, x3, x4⟩ := boxed hw1
 have hC1 := HC.out.below hb1
 have hR1 := HR.out.below hb1
 obtain ⟨s0, s1, s2, s3, s4⟩ := scCells hC1
 obtain ⟨hreg, hrf⟩ := sregs hC1 hr
 have a0 : (0 : Int) ≤ a := by omega
 have a1 : (a : Int) < 8 := by omega
 have b0 : (0 : Int) ≤ b := by omega
 have b1 : (b : Int) < 8 := by omega
 have ra := hreg a ha
 have rb := hreg b hb8
 have c1 := srcells hR1 HS.out.cells hcell
 have cf := hR1.cells.frozen (l.reg b)
 obtain ⟨_, _, _, _, q4, _, _, _⟩ := runCells hR1
 have hc0 : (0 : Int) ≤ (l.reg b : Int) := by omega
 have hc1 : (l.reg b : Int) < 16 := by omega
 have taf := hrf a
 have HB1 := Lib.hid hb1
 clear hreg hrf hC1 hR1 hb1 hw1 HC HR HL HS x3
 go_still_tail 9, (by kernel_rfl)
 change wpList _ _ _ _ _ w1.drew
 have HD := Lib.hid HB1.out.drew
 go_wp2_with (fail)
 go_at_call 134
 refine (HK.out _).mono ?_
 rintro e _ ⟨rfl, rfl⟩
 have y1 : w1.drew.cell? ⟨w.heap.size, 1, none⟩ = some (.int .i64 (a : Int)) := x1
 have y2 : w1.drew.cell? ⟨w.heap.size, 2, none⟩ = some (.int .i64 (b : Int)) := x2
 have y3 : w1.drew.cell? ⟨p.p0, 0, none⟩ = some (.slice (some ⟨p.p1, 0, none⟩) 8 8) := s0
 have y4 : w1.drew.cell? ⟨p.p1, a, none⟩ = some (.int .i64 (l.reg a : Int)) := ra
 have y5 : w1.drew.cell? ⟨p.p1, b, none⟩ = some (.int .i64 (l.reg b : Int)) := rb
 have y6 : w1.drew.cell? ⟨cb, l.reg b, none⟩ = some (.int .i64 ((s.cells.getD (l.reg b) 0 : Nat) : Int)) := c1
 have y7 : w1.drew.cell? ⟨pr, 4, none⟩ = some (.slice (some ⟨cb, 0, none⟩) 16 16) := q4
 have yf : w1.drew.frozen? ⟨p.p1, a, none⟩ = false := taf
 have yc : w1.drew.frozen? ⟨cb, l.reg b, none⟩ = false := cf
 clear x1 x2 x4 s0 s1 s2 s3 s4 ra rb c1 q4 taf cf HB1
 generalize w1.drew = wd at *
 go_wp2_with (fail)
 go_still_tail 22, (by kernel_rfl)
 change wpList _ _ _ _ _ wd.drew
 have ta : wd.drew.cell? ⟨p.p1, a, none⟩ = some (.int .i64 (l.reg a : Int)) := y4
 have tf : wd.drew.frozen? ⟨p.p1, a, none⟩ = false := yf
 have HD2 := Lib.hid HD.out.drew
 generalize wd.drew = w2 at *
 go_wp2_with (fail)
 go_end0
 exact END.out w2 HD2.out
set_option maxHeartbeats 2000000 in
theorem sp_11n (w : World) (B pr cb : Nat) (mv : Value) (p : Ps) (par : Nat) (a b c n : Nat) (l : Lc) (s : Cm) (sv : Value) (hR : RunAt B w pr cb mv none s sv) (hC : SCall w pr cb sv p par l) (hl : LcOk par slo l) (hs : CmOk s) (ha : a < 8) (hb8 : b < 8) (hcell : 16 ≤ l.reg b) :
  Calls Tryd.prog 110 #[.pointer (some ⟨pr, 0, none⟩), .agg #[.int .i64 11, .int .i64 (a : Int), .int .i64 (b : Int), .int .i64 (c : Int), .int .i64 (n : Int)], .pointer (some ⟨p.p0, 0, none⟩)] w
   (SPost B pr cb mv p par ⟨11, a, b, c, n⟩ l s sv w) := by
 have hr := hl.regs
 have END := Lib.hid (fun w' (hb : Below w.heap.size w w') => sEnd_stop (p := p) (par := par) (l := l) (x := ⟨11, a, b, c, n⟩) hR hb (en := 2) (by unfold plainOp; simp; omega))
 have HC := Lib.hid hC
 have HR := Lib.hid hR
 have HL := Lib.hid hl
 have HS := Lib.hid hs
 clear hC hR hl hs
 go_enter Tryd.func110, Tryd.ntmps110
 go_wp2_with (fail)
 generalize hw1 : w.alloc _ = w1
 obtain ⟨hb1, x1, x2, x3, x4⟩ := boxed hw1
 have hC1 := HC.out.below hb1
 have hR1 := HR.out.below hb1
 obtain ⟨s0, s1, s2, s3, s4⟩ := scCells hC1
 obtain ⟨hreg, hrf⟩ := sregs hC1 hr
 have a0 : (0 : Int) ≤ a := by omega
 have a1 : (a : Int) < 8 := by omega
 have b0 : (0 : Int) ≤ b := by omega
 have b1 : (b : Int) < 8 := by omega
 have ra := hreg a ha
 have rb := hreg b hb8
 obtain ⟨_, _, q2, _, _, _, q6, qf⟩ := runCells hR1
 have HK := Lib.hid (scell_no w1.drew pr (l.reg b) hcell _ q2 q6 qf)
 clear q2 q6 qf
 have HB1 := Lib.hid hb1
 clear hreg hrf hC1 hR1 hb1 hw1 HC HR HL HS x3
 go_still_tail 9, (by kernel_rfl)
 change wpList _ _ _ _ _ w1.drew
 have HD := Lib.hid HB1.out.drew
 go_wp2_with (fail)
 go_at_call 134
 refine HK.out.mono ?_
 rintro e w2 ⟨rfl, hw2⟩
 have hE := END.out w1.drew HD.out
 rw [← hw2] at hE
 have HE := Lib.hid hE
 clear hw2 hE HK
 go_wp2_with (fail)
 go_end0
 exact HE.out
set_option maxHeartbeats 2000000 in
theorem sp_12 (w : World) (B pr cb : Nat) (mv : Value) (p : Ps) (par : Nat) (a b c n : Nat) (l : Lc) (s : Cm) (sv : Value) (hR : RunAt B w pr cb mv none s sv) (hC : SCall w pr cb sv p par l) (hl : LcOk par slo l) (hs : CmOk s) (ha : a < 8) (hb8 : b < 8) (hcell : l.reg a < 16) :
  Calls Tryd.prog 110 #[.pointer (some ⟨pr, 0, none⟩), .agg #[.int .i64 12, .int .i64 (a : Int), .int .i64 (b : Int), .int .i64 (c : Int), .int .i64 (n : Int)], .pointer (some ⟨p.p0, 0, none⟩)] w
   (SPost B pr cb mv p par ⟨12, a, b, c, n⟩ l s sv w) := by
 have hr := hl.regs
 have END := Lib.hid (fun w' (hb : Below w.heap.size w w') => sEnd_cell (x := ⟨12, a, b, c, n⟩) (a := l.reg a) (v := l.reg b) hR hC hb (by unfold plainOp; simp; omega))
 have HK := Lib.hid (fun w' => scell_yes w' pr (l.reg a) hcell)
 have HC := Lib.hid hC
 have HR := Lib.hid hR
 have HL := Lib.hid hl
 have HS := Lib.hid hs
 clear hC hR hl hs
 go_enter Tryd.func110, Tryd.ntmps110
 go_wp2_with (fail)
 generalize hw1 : w.alloc _ = w1
 obtain ⟨hb1, x1, x2, x3, x4⟩ := boxed hw1
 have hC1 := HC.out.below hb1
 have hR1 := HR.out.below hb1
 obtain ⟨s0, s1, s2, s3, s4⟩ := scCells hC1
 obtain ⟨hreg, hrf⟩ := sregs hC1 hr
 have a0 : (0 : Int) ≤ a := by omega
 have a1 : (a : Int) < 8 := by omega
 have b0 : (0 : Int) ≤ b := by omega
 have b1 : (b : Int) < 8 := by omega
 have ra := hreg a ha
 have rb := hreg b hb8
 have c1 := srcells hR1 HS.out.cells hcell
 have cf := hR1.cells.frozen (l.reg a)
 obtain ⟨_, _, _, _, q4, _, _, _⟩ := runCells hR1
 have hc0 : (0 : Int) ≤ (l.reg a : Int) := by omega
 have hc1 : (l.reg a : Int) < 16 := by omega
 have taf := hrf a
 have HB1 := Lib.hid hb1
 clear hreg hrf hC1 hR1 hb1 hw1 HC HR HL HS x3
 go_still_tail 9, (by kernel_rfl)
 change wpList _ _ _ _ _ w1.drew
 have HD := Lib.hid HB1.out.drew
 go_wp2_with (fail)
 go_at_call 134
 refine (HK.out _).mono ?_
 rintro e _ ⟨rfl, rfl⟩
 have y1 : w1.drew.cell? ⟨w.heap.size, 1, none⟩ = some (.int .i64 (a : Int)) := x1
 have y2 : w1.drew.cell? ⟨w.heap.size, 2, none⟩ = some (.int .i64 (b : Int)) := x2
 have y3 : w1.drew.cell? ⟨p.p0, 0, none⟩ = some (.slice (some ⟨p.p1, 0, none⟩) 8 8) := s0
 have y4 : w1.drew.cell? ⟨p.p1, a, none⟩ = some (.int .i64 (l.reg a : Int)) := ra
 have y5 : w1.drew.cell? ⟨p.p1, b, none⟩ = some (.int .i64 (l.reg b : Int)) := rb
 have y6 : w1.drew.cell? ⟨cb, l.reg a, none⟩ = some (.int .i64 ((s.cells.getD (l.reg a) 0 : Nat) : Int)) := c1
 have y7 : w1.drew.cell? ⟨pr, 4, none⟩ = some (.slice (some ⟨cb, 0, none⟩) 16 16) := q4
 have yf : w1.drew.frozen? ⟨p.p1, a, none⟩ = false := taf
 have yc : w1.drew.frozen? ⟨cb, l.reg a, none⟩ = false := cf
 clear x1 x2 x4 s0 s1 s2 s3 s4 ra rb c1 q4 taf cf HB1
 generalize w1.drew = wd at *
 go_wp2_with (fail)
 go_still_tail 22, (by kernel_rfl)
 change wpList _ _ _ _ _ wd.drew
 have ta : wd.drew.cell? ⟨cb, l.reg a, none⟩ = some (.int .i64 ((s.cells.getD (l.reg a) 0 : Nat) : Int)) := y6
 have tf : wd.drew.frozen? ⟨cb, l.reg a, none⟩ = false := yc
 have HD2 := Lib.hid HD.out.drew
 generalize wd.drew = w2 at *
 go_wp2_with (fail)
 go_end0
 exact END.out w2 HD2.out
set_option maxHeartbeats 2000000 in
theorem sp_12n (w : World) (B pr cb : Nat) (mv : Value) (p : Ps) (par : Nat) (a b c n : Nat) (l : Lc) (s : Cm) (sv : Value) (hR : RunAt B w pr cb mv none s sv) (hC : SCall w pr cb sv p par l) (hl : LcOk par slo l) (hs : CmOk s) (ha : a < 8) (hb8 : b < 8) (hcell : 16 ≤ l.reg a) :
  Calls Tryd.prog 110 #[.pointer (some ⟨pr, 0, none⟩), .agg #[.int .i64 12, .int .i64 (a : Int), .int .i64 (b : Int), .int .i64 (c : Int), .int .i64 (n : Int)], .pointer (some ⟨p.p0, 0, none⟩)] w
   (SPost B pr cb mv p par ⟨12, a, b, c, n⟩ l s sv w) := by
 have hr := hl.regs
 have END := Lib.hid (fun w' (hb : Below w.heap.size w w') => sEnd_stop (p := p) (par := par) (l := l) (x := ⟨12, a, b, c, n⟩) hR hb (en := 2) (by unfold plainOp; simp; omega))
 have HC := Lib.hid hC
 have HR := Lib.hid hR
 have HL := Lib.hid hl
 have HS := Lib.hid hs
 clear hC hR hl hs
 go_enter Tryd.func110, Tryd.ntmps110
 go_wp2_with (fail)
 generalize hw1 : w.alloc _ = w1
 obtain ⟨hb1, x1, x2, x3, x4⟩ := boxed hw1
 have hC1 := HC.out.below hb1
 have hR1 := HR.out.below hb1
 obtain ⟨s0, s1, s2, s3, s4⟩ := scCells hC1
 obtain ⟨hreg, hrf⟩ := sregs hC1 hr
 have a0 : (0 : Int) ≤ a := by omega
 have a1 : (a : Int) < 8 := by omega
 have b0 : (0 : Int) ≤ b := by omega
 have b1 : (b : Int) < 8 := by omega
 have ra := hreg a ha
 have rb := hreg b hb8
 obtain ⟨_, _, q2, _, _, _, q6, qf⟩ := runCells hR1
 have HK := Lib.hid (scell_no w1.drew pr (l.reg a) hcell _ q2 q6 qf)
 clear q2 q6 qf
 have HB1 := Lib.hid hb1
 clear hreg hrf hC1 hR1 hb1 hw1 HC HR HL HS x3
 go_still_tail 9, (by kernel_rfl)
 change wpList _ _ _ _ _ w1.drew
 have HD := Lib.hid HB1.out.drew
 go_wp2_with (fail)
 go_at_call 134
 refine HK.out.mono ?_
 rintro e w2 ⟨rfl, hw2⟩
 have hE := END.out w1.drew HD.out
 rw [← hw2] at hE
 have HE := Lib.hid hE
 clear hw2 hE HK
 go_wp2_with (fail)
 go_end0
 exact HE.out
set_option maxHeartbeats 2000000 in
theorem sp_13 (w : World) (B pr cb : Nat) (mv : Value) (p : Ps) (par : Nat) (a b c n : Nat) (l : Lc) (s : Cm) (sv : Value) (hR : RunAt B w pr cb mv none s sv) (hC : SCall w pr cb sv p par l) (hl : LcOk par slo l) (hs : CmOk s) (ha : a < 8) (hb8 : b < 8) (hT : s.said.length ≤ 1000000) (hB : B ≤ w.heap.size) :
  Calls Tryd.prog 110 #[.pointer (some ⟨pr, 0, none⟩), .agg #[.int .i64 13, .int .i64 (a : Int), .int .i64 (b : Int), .int .i64 (c : Int), .int .i64 (n : Int)], .pointer (some ⟨p.p0, 0, none⟩)] w
   (SPost B pr cb mv p par ⟨13, a, b, c, n⟩ l s sv w) := by
 have hr := hl.regs
 have END := Lib.hid (fun wa w' (hb : Below w.heap.size w wa) (g cap : Nat) h1 h2 h3 => @sEnd_say B pr cb mv p par ⟨13, a, b, c, n⟩ l s sv w wa w' hR hC hb g cap (l.reg a) h1 h2 h3 rfl)
 obtain ⟨i0, hi, hz0, hz1, hz2⟩ := info_parts info_int
 have HC := Lib.hid hC
 have HR := Lib.hid hR
 have HL := Lib.hid hl
 have HS := Lib.hid hs
 clear hC hR hl hs
 go_enter Tryd.func110, Tryd.ntmps110
 go_wp2_with (fail)
 generalize hw1 : w.alloc _ = w1
 obtain ⟨hb1, x1, x2, x3, x4⟩ := boxed hw1
 have hC1 := HC.out.below hb1
 have hR1 := HR.out.below hb1
 obtain ⟨s0, s1, s2, s3, s4⟩ := scCells hC1
 obtain ⟨hreg, hrf⟩ := sregs hC1 hr
 have a0 : (0 : Int) ≤ a := by omega
 have a1 : (a : Int) < 8 := by omega
 have b0 : (0 : Int) ≤ b := by omega
 have b1 : (b : Int) < 8 := by omega
 have ra := hreg a ha
 have rb := hreg b hb8
 have HSD : Hid (Said w1 B sv s.said) := Lib.hid hR1.said
 obtain ⟨_, q1, _, _, _, _, _, qf⟩ := runCells hR1
 have qf1 := qf 1
 have hsz1 : w.heap.size ≤ w1.heap.size := hb1.size
 have hlr := hR1.blk.lt
 have hsp := HR.out.sp
 have hs0 := (HC.out.far p.p0 (.inl rfl)).2.2
 have hs1 := (HC.out.far p.p1 (.inr (.inl rfl))).2.2
 have hsx : sv.ownBlock ≠ some w.heap.size := fun e => by have := (HR.out.said.lt e).2; omega
 have HKC : Hid (∀ W, Keep w1 sv W → W.cell? ⟨pr, 1, none⟩ = some sv ∧ W.cell? ⟨p.p0, 0, none⟩ = some (.slice (some ⟨p.p1, 0, none⟩) 8 8) ∧ W.cell? ⟨w.heap.size, 1, none⟩ = some (.int .i64 (a : Int)) ∧ W.cell? ⟨p.p1, a, none⟩ = some (.int .i64 (l.reg a : Int))) :=
  Lib.hid fun W hk => ⟨hk.cell q1 hsp, hk.cell s0 hs0, hk.cell x1 hsx, hk.cell ra hs1⟩
 have HMF : Hid (∀ W, Keep w1 sv W → W.cell? ⟨pr, 1, none⟩ = some sv ∧ W.frozen? ⟨pr, 1, none⟩ = false) := Lib.hid fun W hk => ⟨hk.cell q1 hsp, hk.frozen qf1 hlr hsp⟩
 have HB1 := Lib.hid hb1
 clear hreg hrf hC1 hR1 hb1 hw1 HC HR HL HS x3 q1 qf qf1 hlr hsp hs0 hs1 hsx
 obtain ⟨sd, hsd⟩ : ∃ sd, sd = s.said := ⟨_, rfl⟩
 rw [← hsd] at HSD hT
 refine wp_region_held (Keep w1 sv) [(0, false), (1, false), (2, false), (3, false), (4, false), (5, true), (6, false), (7, false), (8, false), (9, true), (10, false), (11, true), (12, false), (13, true)] [14, 15, 16, 17, 18, 19] 19 (by kernel_rfl) (by kernel_rfl) (fun d v c a w h => by cases d <;> exact h) (Keep.refl w1 sv) ?_
 simp only [pickO, List.map_cons, List.map_nil, List.getD_cons_zero, List.getD_cons_succ]
 refine heldO_stepY (v := ?_) rfl ?_ ?_
 rotate_left
 ·intro W
  go_simp
  try rfl
 simp only [Act.put, List.setIfInBounds_toArray, List.set_cons_zero, List.set_cons_succ]
 refine heldO_stepY (v := ?_) rfl ?_ ?_
 rotate_left
 ·intro W
  go_simp
  try rfl
 simp only [Act.put, List.setIfInBounds_toArray, List.set_cons_zero, List.set_cons_succ]
 refine heldO_stepY (v := ?_) rfl ?_ ?_
 rotate_left
 ·intro W
  go_simp
  try rfl
 simp only [Act.put, List.setIfInBounds_toArray, List.set_cons_zero, List.set_cons_succ]
 refine heldO_stepY (v := ?_) rfl ?_ ?_
 rotate_left
 ·intro W
  go_simp
  try rfl
 simp only [Act.put, List.setIfInBounds_toArray, List.set_cons_zero, List.set_cons_succ]
 refine heldO_stepY (v := ?_) rfl ?_ ?_
 rotate_left
 ·intro W
  go_simp
  try rfl
 simp only [Act.put, List.setIfInBounds_toArray, List.set_cons_zero, List.set_cons_succ]
 refine heldO_step (v := ?_) rfl ?_ ?_
 rotate_left
 ·intro W hS
  obtain ⟨k1, k2, k3, k4⟩ := HKC.out W hS
  go_simp
  try rfl
 simp only [Act.put, List.setIfInBounds_toArray, List.set_cons_zero, List.set_cons_succ]
 refine heldO_stepY (v := ?_) rfl ?_ ?_
 rotate_left
 ·intro W
  go_simp
  try rfl
 simp only [Act.put, List.setIfInBounds_toArray, List.set_cons_zero, List.set_cons_succ]
 refine heldO_stepY (v := ?_) rfl ?_ ?_
 rotate_left
 ·intro W
  go_simp
  try rfl
 simp only [Act.put, List.setIfInBounds_toArray, List.set_cons_zero, List.set_cons_succ]
 refine heldO_stepY (v := ?_) rfl ?_ ?_
 rotate_left
 ·intro W
  go_simp
  try rfl
 simp only [Act.put, List.setIfInBounds_toArray, List.set_cons_zero, List.set_cons_succ]
 refine heldO_step (v := ?_) rfl ?_ ?_
 rotate_left
 ·intro W hS
  obtain ⟨k1, k2, k3, k4⟩ := HKC.out W hS
  go_simp
  try rfl
 simp only [Act.put, List.setIfInBounds_toArray, List.set_cons_zero, List.set_cons_succ]
 refine heldO_stepY (v := ?_) rfl ?_ ?_
 rotate_left
 ·intro W
  go_simp
  try rfl
 simp only [Act.put, List.setIfInBounds_toArray, List.set_cons_zero, List.set_cons_succ]
 refine heldO_step (v := ?_) rfl ?_ ?_
 rotate_left
 ·intro W hS
  obtain ⟨k1, k2, k3, k4⟩ := HKC.out W hS
  go_simp
  try rfl
 simp only [Act.put, List.setIfInBounds_toArray, List.set_cons_zero, List.set_cons_succ]
 refine heldO_stepY (v := ?_) rfl ?_ ?_
 rotate_left
 ·intro W
  go_simp
  try rfl
 simp only [Act.put, List.setIfInBounds_toArray, List.set_cons_zero, List.set_cons_succ]
 refine heldO_step (v := ?_) rfl ?_ ?_
 rotate_left
 ·intro W hS
  obtain ⟨k1, k2, k3, k4⟩ := HKC.out W hS
  go_simp
  try rfl
 simp only [Act.put, List.setIfInBounds_toArray, List.set_cons_zero, List.set_cons_succ]
 refine heldO_nil ?_
 refine tailO_step rfl (fun K hK => ?_)
 go_simp
 refine hK _ _ (.inr ((Keep.refl w1 sv).alloc _)) ?_
 clear hK K
 refine tailO_step rfl (fun K hK => ?_)
 refine wp_append_lies _ (.tmp 167) (.tmp 176) 26 rfl B 3 i0 (.int .i64 0) 1 8 Tryd.underlying26 hi hz0 hz1 hz2 rfl (by decide) sv sd.length (nats sd) (by rfl) (HSD.out.alloc _) ⟨w1.heap.size, 0, none⟩ 1 1 [.int .i64 (l.reg a : Int)] (by rfl) rfl (World.news_of_block (heap_alloc_new _ _)) (by simp [Value.oneCell']) (by decide) (by unfold maxLen; omega) (by omega) (by simp; omega) _ rfl ?_
 intro g cap w3 hown hgrow hat hgl
 have hkeep : Keep w1 sv w3 := ((Keep.refl w1 sv).alloc (.cells #[.int .i64 (l.reg a : Int)] 3)).drew.grown hgrow
 obtain ⟨c2, f2⟩ := HMF.out w3 hkeep
 have HOWN := Lib.hid hown
 have HGR := Lib.hid hgrow
 have HAT := Lib.hid hat
 refine hK _ _ (.inr hkeep) ?_
 clear hK K hown hgrow hat
 simp only [Act.put, List.setIfInBounds_toArray, List.set_cons_zero, List.set_cons_succ]
 refine tailO_step rfl (fun K hK => ?_)
 go_simp
 refine hK _ _ (.inr hkeep) ?_
 clear hK K
 refine tailO_step rfl (fun K hK => ?_)
 go_simp
 refine hK _ _ (.inr hkeep) ?_
 clear hK K
 refine tailO_step rfl (fun K hK => ?_)
 go_simp
 refine hK _ _ (.inr hkeep) ?_
 clear hK K
 refine tailO_step rfl (fun K hK => ?_)
 go_simp
 refine hK _ _ (.inl rfl) (tailO_nil ?_)
 clear hK K hkeep
 go_wp2_with (fail)
 go_end0
 subst hsd
 refine END.out (w1.alloc (.cells #[.int .i64 (l.reg a : Int)] 3)).drew w3 (HB1.out.alloc hsz1 _).drew g cap HOWN.out HGR.out ?_
 rcases HAT.out with h | h
 ·exact .inl h
 ·right; rw [h]; simp; omega
end Go.Proofs.YtbdbmmdnidonjaaDoor
set_option maxRecDepth 100000
namespace Go.Proofs.YtbdbmmdnidonjaaDoor
open Go.RowKit
variable {slo : Nat}
theorem two_same (w : World) (op a b : Nat) (v : Value) (h1 : 3 ≤ op) (h2 : op ≤ 9) (ha : a < 256) (hb : b < 256) (hv : twoR (arithN op a b) = v) :
  Calls Tryd.prog 135 #[.int .i64 (op : Int), .int .i64 (a : Int), .int .i64 (b : Int)] w fun e w' => e = .returned v ∧ w' = w := by
 rw [← hv]; exact two_any w op a b h1 h2 ha hb
set_option maxHeartbeats 2000000 in
theorem sp_ar (w : World) (B pr cb : Nat) (mv : Value) (p : Ps) (par : Nat) (op a b c n : Nat) (l : Lc) (s : Cm) (sv : Value) (hR : RunAt B w pr cb mv none s sv) (hC : SCall w pr cb sv p par l) (hl : LcOk par slo l) (h3 : 3 ≤ op) (h9 : op ≤ 9) (ha : a < 8) (hb8 : b < 8) (hc8 : c < 8) :
  Calls Tryd.prog 110 #[.pointer (some ⟨pr, 0, none⟩), .agg #[.int .i64 (op : Int), .int .i64 (a : Int), .int .i64 (b : Int), .int .i64 (c : Int), .int .i64 (n : Int)], .pointer (some ⟨p.p0, 0, none⟩)] w
   (SPost B pr cb mv p par ⟨op, a, b, c, n⟩ l s sv w) := by
 have hr := hl.regs
 have END := Lib.hid (fun w' (hb : Below w.heap.size w w') v hv => sEnd_arith (n := n) (a := a) (b := b) (c := c) h3 h9 hR hC hb (v := v) hv)
 have END0 := Lib.hid (fun w' (hb : Below w.heap.size w w') hv => sEnd_arith0 (l := l) (p := p) (par := par) (n := n) (a := a) (b := b) (c := c) h3 h9 hR hb hv)
 have HK := Lib.hid (fun w' v hv => two_same w' op (l.reg b) (l.reg c) v h3 h9 (hl.reg b) (hl.reg c) hv)
 have HC := Lib.hid hC
 have HR := Lib.hid hR
 obtain ⟨r, hres⟩ : ∃ r, arithN op (l.reg b) (l.reg c) = r := ⟨_, rfl⟩
 have hV : twoR (arithN op (l.reg b) (l.reg c)) = twoR r := by rw [hres]
 have HK2 := Lib.hid (fun w' => HK.out w' _ hV)
 have HRES := Lib.hid hres
 have e1 : ((op : Int) == 1) = false := by simp; omega
 have e2 : ((op : Int) == 2) = false := by simp; omega
 have e10 : ((op : Int) == 10) = false := by simp; omega
 have e11 : ((op : Int) == 11) = false := by simp; omega
 have e12 : ((op : Int) == 12) = false := by simp; omega
 have e13 : ((op : Int) == 13) = false := by simp; omega
 have e14 : ((op : Int) == 14) = false := by simp; omega
 have e15 : ((op : Int) == 15) = false := by simp; omega
 have e16 : ((op : Int) == 16) = false := by simp; omega
 have e17 : ((op : Int) == 17) = false := by simp; omega
 have e18 : ((op : Int) == 18) = false := by simp; omega
 have e19 : ((op : Int) == 19) = false := by simp; omega
 clear hC hR hV hres HK hl
 go_enter Tryd.func110, Tryd.ntmps110
 go_wp2_with (fail)
 generalize hw1 : w.alloc _ = w1
 have x0 := boxed0 hw1
 obtain ⟨hb1, x1, x2, x3, x4⟩ := boxed hw1
 have hC1 := HC.out.below hb1
 have hR1 := HR.out.below hb1
 obtain ⟨s0, _, _, _, _⟩ := scCells hC1
 obtain ⟨hreg, hrf⟩ := sregs hC1 hr
 obtain ⟨_, _, q2, _, _, _, q6, qf⟩ := runCells hR1
 have a0 : (0 : Int) ≤ a := by omega
 have a1 : (a : Int) < 8 := by omega
 have b0 : (0 : Int) ≤ b := by omega
 have b1 : (b : Int) < 8 := by omega
 have c0 : (0 : Int) ≤ c := by omega
 have c1 : (c : Int) < 8 := by omega
 have HS := Lib.hid (fun m => sstop_any (w1.drewN m) pr 1 _ q2 q6 qf)
 have ra : ∀ m, (w1.drewN m).cell? ⟨p.p1, a, none⟩ = some (.int .i64 (l.reg a : Int)) := fun _ => hreg a ha
 have rb : ∀ m, (w1.drewN m).cell? ⟨p.p1, b, none⟩ = some (.int .i64 (l.reg b : Int)) := fun _ => hreg b hb8
 have rc : ∀ m, (w1.drewN m).cell? ⟨p.p1, c, none⟩ = some (.int .i64 (l.reg c : Int)) := fun _ => hreg c hc8
 have rs : ∀ m, (w1.drewN m).cell? ⟨p.p0, 0, none⟩ = some (.slice (some ⟨p.p1, 0, none⟩) 8 8) := fun _ => s0
 have rf : ∀ m, (w1.drewN m).frozen? ⟨p.p1, a, none⟩ = false := fun _ => hrf a
 have y0 : ∀ m, (w1.drewN m).cell? ⟨w.heap.size, 0, none⟩ = some (.int .i64 (op : Int)) := fun _ => x0
 have y1 : ∀ m, (w1.drewN m).cell? ⟨w.heap.size, 1, none⟩ = some (.int .i64 (a : Int)) := fun _ => x1
 have y2 : ∀ m, (w1.drewN m).cell? ⟨w.heap.size, 2, none⟩ = some (.int .i64 (b : Int)) := fun _ => x2
 have y3 : ∀ m, (w1.drewN m).cell? ⟨w.heap.size, 3, none⟩ = some (.int .i64 (c : Int)) := fun _ => x3
 have HB1 := Lib.hid hb1
 clear hreg hrf hC1 hR1 q2 q6 qf hb1 hw1 HC HR x0 x1 x2 x3 x4 s0
 cases r with
 |none =>
  simp only [twoR] at HK2
  go_wp2_with (fail)
  go_quiet ((go_at_call 135; refine Calls.quiet_of_same (HK2.out _)))
  have HST := Lib.hid (HS.out nq)
  have HE := Lib.hid (END0.out (w1.drewN nq) (belowDr HB1.out _) HRES.out)
  clear ra rb rc rs rf y0 y1 y2 y3 HS
  go_wp2_with (fail)
  go_at_call 109
  refine HST.out.mono ?_
  rintro e w2 ⟨rfl, hw2⟩
  have hE := HE.out
  rw [← hw2] at hE
  have HE2 := Lib.hid hE
  clear hw2 hE HE HST
  go_wp2_with (fail)
  go_end0
  exact HE2.out
 |some v =>
  simp only [twoR] at HK2
  go_wp2_with (fail)
  go_quiet ((go_at_call 135; refine Calls.quiet_of_same (HK2.out _)))
  have HB2 := Lib.hid (belowDr HB1.out nq)
  have z1 := y1 nq
  have zs := rs nq
  have z2 : ∃ y, (w1.drewN nq).drew.cell? ⟨p.p1, a, none⟩ = some y := ⟨_, ra nq⟩
  have z3 : (w1.drewN nq).drew.frozen? ⟨p.p1, a, none⟩ = false := rf nq
  clear ra rb rc rs rf y0 y1 y2 y3 HS
  go_wp2_with (fail)
  generalize w1.drewN nq = w2 at *
  go_still_tail 8, (by kernel_rfl)
  change wpList _ _ _ _ _ w2.drew
  have HD := Lib.hid HB2.out.drew
  generalize w2.drew = w3 at *
  obtain ⟨ty, z2⟩ := z2
  go_wp2_with (fail)
  go_end0
  exact END.out w3 HD.out v HRES.out
/-- all of them -/
theorem plain22_any (w : World) (B pr cb : Nat) (mv : Value) (p : Ps) (par k : Nat) (x : Ni) (l : Lc) (s : Cm) (sv : Value) (hR : RunAt B w pr cb mv none s sv) (hC : SCall w pr cb sv p par l) (hl : LcOk par slo l) (hs : CmOk s) (hx : NiOk k par slo x)
  (h14 : x.op ≠ 14) (h20 : x.op < 20) (h3 : par ≤ 3) (hT : s.said.length ≤ 1000000) (hB : B ≤ w.heap.size) :
  Calls Tryd.prog 110 #[.pointer (some ⟨pr, 0, none⟩), x.mi.val, .pointer (some ⟨p.p0, 0, none⟩)] w (SPost B pr cb mv p par x l s sv w) := by
 obtain ⟨op, a, b, c, n⟩ := x
 have ha := hx.a; have hb := hx.b; have hc := hx.c; have ho := hx.op
 have hset := hx.set; have hslot := hx.slot; have hgive := hx.give; have hfetch := hx.fetch
 simp only [] at ha hb hc ho hset hslot hgive hfetch h14 h20
 show Calls Tryd.prog 110 #[.pointer (some ⟨pr, 0, none⟩), .agg #[.int .i64 (op : Int), .int .i64 (a : Int), .int .i64 (b : Int), .int .i64 (c : Int), .int .i64 (n : Int)], .pointer (some ⟨p.p0, 0, none⟩)] w _
 have hcs : op = 1 ∨ op = 2 ∨ (3 ≤ op ∧ op ≤ 9) ∨ op = 10 ∨ op = 11 ∨ op = 12 ∨ op = 13 ∨ op = 15 ∨ op = 16 ∨ op = 17 ∨ op = 18 ∨ op = 19 := by omega
 rcases hcs with rfl | rfl | ⟨h3', h9⟩ | rfl | rfl | rfl | rfl | rfl | rfl | rfl | rfl | rfl
 ·exact sp_1 w B pr cb mv p par a b c n l s sv hR hC hl hs ha hb
 ·exact sp_2 w B pr cb mv p par a b c n l s sv hR hC hl hs ha hb
 ·exact sp_ar w B pr cb mv p par op a b c n l s sv hR hC hl h3' h9 ha hb hc
 ·exact sp_10 w B pr cb mv p par a b c n l s sv hR hC hl hs ha hb
 ·rcases Nat.lt_or_ge (l.reg b) 16 with h | h
  ·exact sp_11 w B pr cb mv p par a b c n l s sv hR hC hl hs ha hb h
  ·exact sp_11n w B pr cb mv p par a b c n l s sv hR hC hl hs ha hb h
 ·rcases Nat.lt_or_ge (l.reg a) 16 with h | h
  ·exact sp_12 w B pr cb mv p par a b c n l s sv hR hC hl hs ha hb h
  ·exact sp_12n w B pr cb mv p par a b c n l s sv hR hC hl hs ha hb h
 ·exact sp_13 w B pr cb mv p par a b c n l s sv hR hC hl hs ha hb hT hB
 ·exact sp_15 w B pr cb mv p par a b c n l s sv hR hC hl hs ha hb (hslot (.inl rfl))
 ·exact sp_16 w B pr cb mv p par a b c n l s sv hR hC hl hs ha hb (hslot (.inr rfl))
 ·exact sp_17 w B pr cb mv p par a b c n l s sv hR hC hl hs ha hb (hgive rfl)
 ·exact sp_18 w B pr cb mv p par a b c n l s sv hR hC hl hs ha hb (hfetch rfl) h3
 ·exact sp_19 w B pr cb mv p par a b c n l s sv hR hC hl hs ha hb
end Go.Proofs.YtbdbmmdnidonjaaDoor
