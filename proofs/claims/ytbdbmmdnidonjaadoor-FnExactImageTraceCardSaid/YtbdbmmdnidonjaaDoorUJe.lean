/- An instruction that goes on behind it: impl's do, those that set a register. An instruction that goes on behind it: impl's do, those that call, store or say. An instruction that goes on behind it: impl's do: stops, say, arithmetic; and all of them. An instruction that goes on behind it: impl's do, arithmetic; and all of them. -/
import Derived.Test.YtbdbmmdnidonjaaDoorUJc
import Derived.Deep.RegionLaw
import Derived.BigRegion
import Derived.Test.YtbdbmmdnidonjaaDoorUJd
import Derived.Deep.AppendLies
set_option linter.unusedVariables false
set_option linter.unusedSimpArgs false
set_option maxRecDepth 100000
namespace Go.Proofs.YtbdbmmdnidonjaaDoor
open Go.RowKit
def DoPost (K : Nat → Prop) (B pm : Nat) (rest : List Value) (T pc pl par : Nat) (x : Ni) (l : Lc) (s : Cm) (sv : Value) (w : World) (e : Ending) (w' : World) : Prop :=
 match plainOp x l s with
 |.inl (l2, s2) => e = .returned (.tuple #[]) ∧ ∃ sv', MacAt B w' pm rest T s2 sv' ∧ CallAt K w' pm sv' pc pl par l2 ∧ Fr ([pm] ++ [pc, pl]) sv w sv' w'
 |.inr en => e = .panicked (endChain en) ∧ MacAt B w' pm rest T s sv ∧ Fr [pm] sv w sv w'
variable {K : Nat → Prop}
section
variable {B pm : Nat} {rest : List Value} {T pc pl par : Nat} {x : Ni} {l : Lc} {s : Cm} {sv : Value} {w w' : World}
theorem doPost_reg (hM : MacAt B w pm rest T s sv) (hC : CallAt K w pm sv pc pl par l) (hb : Below w.heap.size w w') {a : Nat} (ha : a < l.regs.length) {v : Nat} (hp : plainOp x l s = .inl (l.put a v, s)) {u : Value} (hu : u = .int .i64 (v : Int)) :
  DoPost K B pm rest T pc pl par x l s sv w (.returned (.tuple #[])) (w'.setCell ⟨pc, 1 + a, none⟩ u) := by
 unfold DoPost
 rw [hp]
 subst hu
 exact ⟨rfl, sv, (hM.below hb).other hC.cm hC.sc _, (hC.below hb).setReg ha v, (Fr.below hb).setIn (by simp) _⟩
theorem doPost_stop (hM : MacAt B w pm rest T s sv) (hb : Below w.heap.size w w') {en : Nat} (hp : plainOp x l s = .inr en) :
  DoPost K B pm rest T pc pl par x l s sv w (.panicked (endChain en)) w' := by
 unfold DoPost
 rw [hp]
 exact ⟨rfl, hM.below hb, Fr.below hb⟩
end
/-- what the walk of an instruction looks at, in a world with new blocks -/
theorem callCells {w : World} {pm : Nat} {sv : Value} {pc pl par : Nat} {l : Lc} (hC : CallAt K w pm sv pc pl par l) (hr : l.regs.length = 8) :
  (∀ a, a < 8 → w.cell? ⟨pc, 1 + a, none⟩ = some (.int .i64 ((l.reg a : Nat) : Int))) ∧ w.cell? ⟨pc, 0, none⟩ = some (.pointer (some ⟨pm, 0, none⟩)) ∧
  w.cell? ⟨pc, 9, none⟩ = some (.slice (some ⟨pl, 0, none⟩) l.slots.length l.slots.length) ∧ (∀ j, w.frozen? ⟨pc, j, none⟩ = false) := by
 obtain ⟨⟨inv, hb, hi⟩, hsl, h1, h2, h3, h4, h5⟩ := hC
 refine ⟨fun a ha => ?_, ?_, ?_, hb.frozen⟩
 ·rw [hb.cell, mkCall_reg (by omega)]; rfl
 ·rw [hb.cell]; rfl
 ·rw [hb.cell, mkCall_slots hr]
theorem callRes {w : World} {pm : Nat} {sv : Value} {pc pl par : Nat} {l : Lc} (hC : CallAt K w pm sv pc pl par l) (hr : l.regs.length = 8) (hg : l.gives.length = 3) : w.cell? ⟨pc, 14, none⟩ = some (.int .i64 (l.res : Int)) := by
 obtain ⟨⟨inv, hb, hi⟩, _⟩ := hC
 rw [hb.cell, mkCall_res hr hg]
theorem callGive {w : World} {pm : Nat} {sv : Value} {pc pl par : Nat} {l : Lc} (hC : CallAt K w pm sv pc pl par l) (hr : l.regs.length = 8) {j : Nat} (hj : j < l.gives.length) : w.cell? ⟨pc, 11 + j, none⟩ = some (.int .i64 ((l.gives.getD j 0 : Nat) : Int)) := by
 obtain ⟨⟨inv, hb, hi⟩, _⟩ := hC
 rw [hb.cell, mkCall_give hr hj]
theorem callSlot {w : World} {pm : Nat} {sv : Value} {pc pl par : Nat} {l : Lc} (hC : CallAt K w pm sv pc pl par l) {j : Nat} (hj : j < l.slots.length) : w.cell? ⟨pl, j, none⟩ = some (.int .i64 ((l.slots.getD j 0 : Nat) : Int)) := by
 rw [hC.slots.cell, nats_get hj]
theorem callIn {w : World} {pm : Nat} {sv : Value} {pc pl par : Nat} {l : Lc} (hC : CallAt K w pm sv pc pl par l) (hr : l.regs.length = 8) (ha : par ≤ l.args.length) {j : Nat} (hj : j < par) :
  ∃ pi cap, w.cell? ⟨pc, 10, none⟩ = some (.slice (some ⟨pi, 0, none⟩) par cap) ∧ w.cell? ⟨pi, j, none⟩ = some (.int .i64 ((l.args.getD j 0 : Nat) : Int)) := by
 obtain ⟨⟨inv, hb, a, cap, hv, hi⟩, _⟩ := hC
 have hlen : (l.args.take par).length = par := by simp; omega
 rcases hi with hi | ⟨pi, rest, ha2, hbi, _⟩
 ·rw [hi] at hlen; simp at hlen; omega
 ·refine ⟨pi, cap, ?_, ?_⟩
  ·rw [hb.cell, mkCall_in hr, hv, ha2, hlen]
  ·rw [hbi.cell, List.getElem?_append_left (by rw [nats_len]; omega), nats_get (by omega)]
   simp [List.getD_eq_getElem?_getD, hj]
/-- the world in which the instruction lies boxed -/
theorem boxed {w w1 : World} {v0 v1 v2 v3 v4 : Value} {t : TypeId} (h : w.alloc (.cells #[v0, v1, v2, v3, v4] t) = w1) :
  Below w.heap.size w w1 ∧ w1.cell? ⟨w.heap.size, 1, none⟩ = some v1 ∧ w1.cell? ⟨w.heap.size, 2, none⟩ = some v2 ∧ w1.cell? ⟨w.heap.size, 3, none⟩ = some v3 ∧ w1.cell? ⟨w.heap.size, 4, none⟩ = some v4 := by
 subst h
 have hB := Blk.new w #[v0, v1, v2, v3, v4] t
 refine ⟨below1 _ _, ?_, ?_, ?_, ?_⟩
 all_goals rw [hB.cell]; rfl
variable {slo : Nat}
variable {slo : Nat}
variable {slo : Nat}
variable {slo : Nat}
variable {slo : Nat}
variable {slo : Nat}
variable {slo : Nat}
variable {slo : Nat}
variable {slo : Nat}
variable {slo : Nat}
variable {slo : Nat}
variable {slo : Nat}
variable {slo : Nat}
variable {slo : Nat}
variable {slo : Nat}
set_option maxHeartbeats 2000000 in
theorem do_1 (w : World) (B pm : Nat) (rest : List Value) (T pc pl par : Nat) (a b c n : Nat) (l : Lc) (s : Cm) (sv : Value) (hM : MacAt B w pm rest T s sv) (hC : CallAt K w pm sv pc pl par l) (hl : LcOk par slo l) (hs : CmOk s) (ha : a < 8) (hb8 : b < 8) :
  Calls Tryd.prog 107 #[.pointer (some ⟨pc, 0, none⟩), .agg #[.int .i64 1, .int .i64 (a : Int), .int .i64 (b : Int), .int .i64 (c : Int), .int .i64 (n : Int)]] w
   (DoPost K B pm rest T pc pl par ⟨1, a, b, c, n⟩ l s sv w) := by
 have hr := hl.regs
 have END := Lib.hid (fun w' (hb : Below w.heap.size w w') => doPost_reg (x := ⟨1, a, b, c, n⟩) (a := a) (v := n) hM hC hb (by omega) rfl rfl)
 have HC := Lib.hid hC
 have HM := Lib.hid hM
 have HL := Lib.hid hl
 have HS := Lib.hid hs
 clear hC hM hl hs
 go_enter Tryd.func107, Tryd.ntmps107
 go_wp2_with (fail)
 generalize hw1 : w.alloc _ = w1
 obtain ⟨hb1, x1, x2, x3, x4⟩ := boxed hw1
 obtain ⟨hreg, hm, hsl, hf⟩ := callCells (HC.out.below hb1) hr
 have a0 : (0 : Int) ≤ a := by omega
 have a1 : (a : Int) < 8 := by omega
 have b0 : (0 : Int) ≤ b := by omega
 have b1 : (b : Int) < 8 := by omega
 have ra := hreg a ha
 have rb := hreg b hb8
 have ta : ∃ y, w1.drew.cell? ⟨pc, 1 + a, none⟩ = some y := ⟨_, ra⟩
 have tf : w1.drew.frozen? ⟨pc, 1 + a, none⟩ = false := hf (1 + a)
 have HB1 := Lib.hid hb1
 clear hreg hm hsl hf hb1 hw1 HC HM HL HS x3
 go_still_tail 7, (by kernel_rfl)
 change wpList _ _ _ _ _ w1.drew
 have HD := Lib.hid HB1.out.drew
 generalize w1.drew = w2 at *
 obtain ⟨ty, ta⟩ := ta
 go_wp2_with (fail)
 go_end0
 exact END.out w2 HD.out
set_option maxHeartbeats 2000000 in
theorem do_2 (w : World) (B pm : Nat) (rest : List Value) (T pc pl par : Nat) (a b c n : Nat) (l : Lc) (s : Cm) (sv : Value) (hM : MacAt B w pm rest T s sv) (hC : CallAt K w pm sv pc pl par l) (hl : LcOk par slo l) (hs : CmOk s) (ha : a < 8) (hb8 : b < 8) :
  Calls Tryd.prog 107 #[.pointer (some ⟨pc, 0, none⟩), .agg #[.int .i64 2, .int .i64 (a : Int), .int .i64 (b : Int), .int .i64 (c : Int), .int .i64 (n : Int)]] w
   (DoPost K B pm rest T pc pl par ⟨2, a, b, c, n⟩ l s sv w) := by
 have hr := hl.regs
 have END := Lib.hid (fun w' (hb : Below w.heap.size w w') => doPost_reg (x := ⟨2, a, b, c, n⟩) (a := a) (v := l.reg b) hM hC hb (by omega) rfl rfl)
 have HC := Lib.hid hC
 have HM := Lib.hid hM
 have HL := Lib.hid hl
 have HS := Lib.hid hs
 clear hC hM hl hs
 go_enter Tryd.func107, Tryd.ntmps107
 go_wp2_with (fail)
 generalize hw1 : w.alloc _ = w1
 obtain ⟨hb1, x1, x2, x3, x4⟩ := boxed hw1
 obtain ⟨hreg, hm, hsl, hf⟩ := callCells (HC.out.below hb1) hr
 have a0 : (0 : Int) ≤ a := by omega
 have a1 : (a : Int) < 8 := by omega
 have b0 : (0 : Int) ≤ b := by omega
 have b1 : (b : Int) < 8 := by omega
 have ra := hreg a ha
 have rb := hreg b hb8
 have ta : ∃ y, w1.drew.cell? ⟨pc, 1 + a, none⟩ = some y := ⟨_, ra⟩
 have tf : w1.drew.frozen? ⟨pc, 1 + a, none⟩ = false := hf (1 + a)
 have HB1 := Lib.hid hb1
 clear hreg hm hsl hf hb1 hw1 HC HM HL HS x3
 go_still_tail 11, (by kernel_rfl)
 change wpList _ _ _ _ _ w1.drew
 have HD := Lib.hid HB1.out.drew
 generalize w1.drew = w2 at *
 obtain ⟨ty, ta⟩ := ta
 go_wp2_with (fail)
 go_end0
 exact END.out w2 HD.out
set_option maxHeartbeats 2000000 in
theorem do_19 (w : World) (B pm : Nat) (rest : List Value) (T pc pl par : Nat) (a b c n : Nat) (l : Lc) (s : Cm) (sv : Value) (hM : MacAt B w pm rest T s sv) (hC : CallAt K w pm sv pc pl par l) (hl : LcOk par slo l) (hs : CmOk s) (ha : a < 8) (hb8 : b < 8) :
  Calls Tryd.prog 107 #[.pointer (some ⟨pc, 0, none⟩), .agg #[.int .i64 19, .int .i64 (a : Int), .int .i64 (b : Int), .int .i64 (c : Int), .int .i64 (n : Int)]] w
   (DoPost K B pm rest T pc pl par ⟨19, a, b, c, n⟩ l s sv w) := by
 have hr := hl.regs
 have END := Lib.hid (fun w' (hb : Below w.heap.size w w') => doPost_reg (x := ⟨19, a, b, c, n⟩) (a := a) (v := l.res) hM hC hb (by omega) rfl rfl)
 have HC := Lib.hid hC
 have HM := Lib.hid hM
 have HL := Lib.hid hl
 have HS := Lib.hid hs
 clear hC hM hl hs
 go_enter Tryd.func107, Tryd.ntmps107
 go_wp2_with (fail)
 generalize hw1 : w.alloc _ = w1
 obtain ⟨hb1, x1, x2, x3, x4⟩ := boxed hw1
 obtain ⟨hreg, hm, hsl, hf⟩ := callCells (HC.out.below hb1) hr
 have a0 : (0 : Int) ≤ a := by omega
 have a1 : (a : Int) < 8 := by omega
 have b0 : (0 : Int) ≤ b := by omega
 have b1 : (b : Int) < 8 := by omega
 have ra := hreg a ha
 have rb := hreg b hb8
 have hres := callRes (HC.out.below hb1) hr HL.out.gives
 have ta : ∃ y, w1.drew.cell? ⟨pc, 1 + a, none⟩ = some y := ⟨_, ra⟩
 have tf : w1.drew.frozen? ⟨pc, 1 + a, none⟩ = false := hf (1 + a)
 have HB1 := Lib.hid hb1
 clear hreg hm hsl hf hb1 hw1 HC HM HL HS x3
 go_still_tail 9, (by kernel_rfl)
 change wpList _ _ _ _ _ w1.drew
 have HD := Lib.hid HB1.out.drew
 generalize w1.drew = w2 at *
 obtain ⟨ty, ta⟩ := ta
 go_wp2_with (fail)
 go_end0
 exact END.out w2 HD.out
set_option maxHeartbeats 2000000 in
theorem do_16 (w : World) (B pm : Nat) (rest : List Value) (T pc pl par : Nat) (a b c n : Nat) (l : Lc) (s : Cm) (sv : Value) (hM : MacAt B w pm rest T s sv) (hC : CallAt K w pm sv pc pl par l) (hl : LcOk par slo l) (hs : CmOk s) (ha : a < 8) (hb8 : b < 8) (hn : n < slo) :
  Calls Tryd.prog 107 #[.pointer (some ⟨pc, 0, none⟩), .agg #[.int .i64 16, .int .i64 (a : Int), .int .i64 (b : Int), .int .i64 (c : Int), .int .i64 (n : Int)]] w
   (DoPost K B pm rest T pc pl par ⟨16, a, b, c, n⟩ l s sv w) := by
 have hr := hl.regs
 have END := Lib.hid (fun w' (hb : Below w.heap.size w w') => doPost_reg (x := ⟨16, a, b, c, n⟩) (a := a) (v := l.slots.getD n 0) hM hC hb (by omega) rfl rfl)
 have HC := Lib.hid hC
 have HM := Lib.hid hM
 have HL := Lib.hid hl
 have HS := Lib.hid hs
 clear hC hM hl hs
 go_enter Tryd.func107, Tryd.ntmps107
 go_wp2_with (fail)
 generalize hw1 : w.alloc _ = w1
 obtain ⟨hb1, x1, x2, x3, x4⟩ := boxed hw1
 obtain ⟨hreg, hm, hsl, hf⟩ := callCells (HC.out.below hb1) hr
 have a0 : (0 : Int) ≤ a := by omega
 have a1 : (a : Int) < 8 := by omega
 have b0 : (0 : Int) ≤ b := by omega
 have b1 : (b : Int) < 8 := by omega
 have ra := hreg a ha
 have rb := hreg b hb8
 have n0 : (0 : Int) ≤ n := by omega
 have n1 : (n : Int) < l.slots.length := by rw [HL.out.slots]; omega
 have hsc := callSlot (HC.out.below hb1) (show n < l.slots.length by rw [HL.out.slots]; exact hn)
 have hsl' := hsl
 generalize l.slots.length = sz at *
 generalize l.slots.getD n 0 = z at *
 have ta : ∃ y, w1.drew.cell? ⟨pc, 1 + a, none⟩ = some y := ⟨_, ra⟩
 have tf : w1.drew.frozen? ⟨pc, 1 + a, none⟩ = false := hf (1 + a)
 have HB1 := Lib.hid hb1
 clear hreg hm hsl hf hb1 hw1 HC HM HL HS x3
 go_still_tail 13, (by kernel_rfl)
 change wpList _ _ _ _ _ w1.drew
 have HD := Lib.hid HB1.out.drew
 generalize w1.drew = w2 at *
 obtain ⟨ty, ta⟩ := ta
 go_wp2_with (fail)
 go_end0
 exact END.out w2 HD.out
set_option maxHeartbeats 2000000 in
theorem do_18 (w : World) (B pm : Nat) (rest : List Value) (T pc pl par : Nat) (a b c n : Nat) (l : Lc) (s : Cm) (sv : Value) (hM : MacAt B w pm rest T s sv) (hC : CallAt K w pm sv pc pl par l) (hl : LcOk par slo l) (hs : CmOk s) (ha : a < 8) (hb8 : b < 8) (hn : n < par) :
  Calls Tryd.prog 107 #[.pointer (some ⟨pc, 0, none⟩), .agg #[.int .i64 18, .int .i64 (a : Int), .int .i64 (b : Int), .int .i64 (c : Int), .int .i64 (n : Int)]] w
   (DoPost K B pm rest T pc pl par ⟨18, a, b, c, n⟩ l s sv w) := by
 have hr := hl.regs
 have END := Lib.hid (fun w' (hb : Below w.heap.size w w') => doPost_reg (x := ⟨18, a, b, c, n⟩) (a := a) (v := l.args.getD n 0) hM hC hb (by omega) rfl rfl)
 have HC := Lib.hid hC
 have HM := Lib.hid hM
 have HL := Lib.hid hl
 have HS := Lib.hid hs
 clear hC hM hl hs
 go_enter Tryd.func107, Tryd.ntmps107
 go_wp2_with (fail)
 generalize hw1 : w.alloc _ = w1
 obtain ⟨hb1, x1, x2, x3, x4⟩ := boxed hw1
 obtain ⟨hreg, hm, hsl, hf⟩ := callCells (HC.out.below hb1) hr
 have a0 : (0 : Int) ≤ a := by omega
 have a1 : (a : Int) < 8 := by omega
 have b0 : (0 : Int) ≤ b := by omega
 have b1 : (b : Int) < 8 := by omega
 have ra := hreg a ha
 have rb := hreg b hb8
 have n0 : (0 : Int) ≤ n := by omega
 obtain ⟨pi, icap, hin, hic⟩ := callIn (HC.out.below hb1) hr HL.out.args hn
 have n1 : (n : Int) < par := by omega
 generalize l.args.getD n 0 = z at *
 have ta : ∃ y, w1.drew.cell? ⟨pc, 1 + a, none⟩ = some y := ⟨_, ra⟩
 have tf : w1.drew.frozen? ⟨pc, 1 + a, none⟩ = false := hf (1 + a)
 have HB1 := Lib.hid hb1
 clear hreg hm hsl hf hb1 hw1 HC HM HL HS x3
 go_still_tail 13, (by kernel_rfl)
 change wpList _ _ _ _ _ w1.drew
 have HD := Lib.hid HB1.out.drew
 generalize w1.drew = w2 at *
 obtain ⟨ty, ta⟩ := ta
 go_wp2_with (fail)
 go_end0
 exact END.out w2 HD.out
end Go.Proofs.YtbdbmmdnidonjaaDoor
set_option maxRecDepth 100000
namespace Go.Proofs.YtbdbmmdnidonjaaDoor
open Go.RowKit
variable {K : Nat → Prop}
section
variable {B pm : Nat} {rest : List Value} {T pc pl par : Nat} {x : Ni} {l : Lc} {s : Cm} {sv : Value} {w w' : World}
theorem doPost_slot (hM : MacAt B w pm rest T s sv) (hC : CallAt K w pm sv pc pl par l) (hb : Below w.heap.size w w') {j v : Nat} (hp : plainOp x l s = .inl ({ l with slots := l.slots.set j v }, s)) :
  DoPost K B pm rest T pc pl par x l s sv w (.returned (.tuple #[])) (w'.setCell ⟨pl, j, none⟩ (.int .i64 (v : Int))) := by
 unfold DoPost
 rw [hp]
 exact ⟨rfl, sv, (hM.below hb).other hC.lm hC.sl _, (hC.below hb).setSlot j v, (Fr.below hb).setIn (by simp) _⟩
theorem doPost_give (hM : MacAt B w pm rest T s sv) (hC : CallAt K w pm sv pc pl par l) (hr : l.regs.length = 8) (hb : Below w.heap.size w w') {j v : Nat} (hj : j < l.gives.length) (hp : plainOp x l s = .inl ({ l with gives := l.gives.set j v }, s)) :
  DoPost K B pm rest T pc pl par x l s sv w (.returned (.tuple #[])) (w'.setCell ⟨pc, 11 + j, none⟩ (.int .i64 (v : Int))) := by
 unfold DoPost
 rw [hp]
 exact ⟨rfl, sv, (hM.below hb).other hC.cm hC.sc _, (hC.below hb).setGive hr hj v, (Fr.below hb).setIn (by simp) _⟩
theorem doPost_cell (hM : MacAt B w pm rest T s sv) (hC : CallAt K w pm sv pc pl par l) (hb : Below w.heap.size w w') {i v : Nat} (hi : i < s.cells.length) (hp : plainOp x l s = .inl (l, { s with cells := s.cells.set i v })) :
  DoPost K B pm rest T pc pl par x l s sv w (.returned (.tuple #[])) (w'.setCell ⟨pm, 3 + i, none⟩ (.int .i64 (v : Int))) := by
 unfold DoPost
 rw [hp]
 exact ⟨rfl, sv, (hM.below hb).setCell hi v, (hC.below hb).other _ _, (Fr.below hb).setIn (by simp) _⟩
end
/-- what the machine's block shows -/
theorem macCells {B : Nat} {w : World} {pm : Nat} {rest : List Value} {T : Nat} {s : Cm} {sv : Value} (hM : MacAt B w pm rest T s sv) (hs : s.cells.length = 16) :
  (∀ i, i < 16 → w.cell? ⟨pm, 3 + i, none⟩ = some (.int .i64 ((s.cells.getD i 0 : Nat) : Int))) ∧ w.cell? ⟨pm, 0, none⟩ = some (.int .i64 (T : Int)) ∧ w.cell? ⟨pm, 1, none⟩ = some (.int .i64 ((T - s.left : Nat) : Int)) ∧
  w.cell? ⟨pm, 2, none⟩ = some sv ∧ (∀ j, w.frozen? ⟨pm, j, none⟩ = false) := by
 refine ⟨fun i hi => ?_, ?_, ?_, ?_, hM.blk.frozen⟩
 ·rw [hM.blk.cell, mkMac_cell (by omega)]
 all_goals rw [hM.blk.cell]; rfl
theorem arith_same (w : World) (op a b : Nat) (v : Value) (h1 : 3 ≤ op) (h2 : op ≤ 9) (ha : a < 256) (hb : b < 256) (hv : arithV op a b = v) :
  Calls Tryd.prog 128 #[.int .i64 (op : Int), .int .i64 (a : Int), .int .i64 (b : Int)] w fun e w' => e = .returned v ∧ w' = w := by
 rw [← hv]
 exact (arith_any w op a b h1 h2 ha hb).mono fun _ _ h => ⟨h.1, h.2.symm⟩
theorem cell_same (w : World) (pm i : Nat) (hi : i < 16) :
  Calls Tryd.prog 129 #[.pointer (some ⟨pm, 0, none⟩), .int .i64 (i : Int)] w fun e w' => e = .returned (.pointer (some ⟨pm, 3 + i, none⟩)) ∧ w' = w :=
 (cell_yes w pm i hi).mono fun _ _ h => ⟨h.1, h.2.symm⟩
set_option maxHeartbeats 1000000 in
/-- not -/
theorem arith_not (w : World) (a v : Nat) (hv : v = if a = 0 then 1 else 0) :
  Calls Tryd.prog 128 #[.int .i64 11, .int .i64 (a : Int), .int .i64 0] w fun e w' => e = .returned (.tuple #[.int .i64 (v : Int), .bool true]) ∧ w' = w := by
 have HT := Lib.hid (fun w' p v hv => truth_named w' p v hv)
 have hv2 : v = if ((a : Int) == 0) = true then 1 else 0 := by
  rw [hv]; simp
 have HV := Lib.hid hv2
 clear hv hv2
 go_enter Tryd.func128, Tryd.ntmps128
 go_wp2_with (fail)
 refine (HT.out _ _ v HV.out).mono ?_
 rintro e _ ⟨rfl, rfl⟩
 go_wp2_with (fail)
 refine bodyPost_ret (v := .tuple #[.int .i64 (v : Int), .bool true]) (by simp [results, Tryd.results128, go_sem]) rfl ⟨rfl, rfl⟩
variable {slo : Nat}
set_option maxHeartbeats 2000000 in
theorem do_15 (w : World) (B pm : Nat) (rest : List Value) (T pc pl par : Nat) (a b c n : Nat) (l : Lc) (s : Cm) (sv : Value) (hM : MacAt B w pm rest T s sv) (hC : CallAt K w pm sv pc pl par l) (hl : LcOk par slo l) (hs : CmOk s) (ha : a < 8) (hb8 : b < 8) (hn : n < slo) :
  Calls Tryd.prog 107 #[.pointer (some ⟨pc, 0, none⟩), .agg #[.int .i64 15, .int .i64 (a : Int), .int .i64 (b : Int), .int .i64 (c : Int), .int .i64 (n : Int)]] w
   (DoPost K B pm rest T pc pl par ⟨15, a, b, c, n⟩ l s sv w) := by
 have hr := hl.regs
 have END := Lib.hid (fun w' (hb : Below w.heap.size w w') => doPost_slot (x := ⟨15, a, b, c, n⟩) (j := n) (v := l.reg a) hM hC hb rfl)
 have HC := Lib.hid hC
 have HM := Lib.hid hM
 have HL := Lib.hid hl
 have HS := Lib.hid hs
 clear hC hM hl hs
 go_enter Tryd.func107, Tryd.ntmps107
 go_wp2_with (fail)
 generalize hw1 : w.alloc _ = w1
 obtain ⟨hb1, x1, x2, x3, x4⟩ := boxed hw1
 obtain ⟨hreg, hm, hsl, hf⟩ := callCells (HC.out.below hb1) hr
 have a0 : (0 : Int) ≤ a := by omega
 have a1 : (a : Int) < 8 := by omega
 have b0 : (0 : Int) ≤ b := by omega
 have b1 : (b : Int) < 8 := by omega
 have ra := hreg a ha
 have rb := hreg b hb8
 have n0 : (0 : Int) ≤ n := by omega
 have n1 : (n : Int) < l.slots.length := by rw [HL.out.slots]; omega
 have hsc := callSlot (HC.out.below hb1) (show n < l.slots.length by rw [HL.out.slots]; exact hn)
 have hsf := (HC.out.below hb1).slots.frozen n
 have hsl' := hsl
 generalize l.slots.length = sz at *
 generalize l.slots.getD n 0 = z at *
 have ta : ∃ y, w1.drew.cell? ⟨pl, n, none⟩ = some y := ⟨_, hsc⟩
 have tf : w1.drew.frozen? ⟨pl, n, none⟩ = false := hsf
 have HB1 := Lib.hid hb1
 clear hreg hm hsl hf hb1 hw1 HC HM HL HS x3
 go_still_tail 13, (by kernel_rfl)
 change wpList _ _ _ _ _ w1.drew
 have HD := Lib.hid HB1.out.drew
 generalize w1.drew = w2 at *
 obtain ⟨ty, ta⟩ := ta
 go_wp2_with (fail)
 go_end0
 exact END.out w2 HD.out
set_option maxHeartbeats 2000000 in
theorem do_17 (w : World) (B pm : Nat) (rest : List Value) (T pc pl par : Nat) (a b c n : Nat) (l : Lc) (s : Cm) (sv : Value) (hM : MacAt B w pm rest T s sv) (hC : CallAt K w pm sv pc pl par l) (hl : LcOk par slo l) (hs : CmOk s) (ha : a < 8) (hb8 : b < 8) (hn : n < 3) :
  Calls Tryd.prog 107 #[.pointer (some ⟨pc, 0, none⟩), .agg #[.int .i64 17, .int .i64 (a : Int), .int .i64 (b : Int), .int .i64 (c : Int), .int .i64 (n : Int)]] w
   (DoPost K B pm rest T pc pl par ⟨17, a, b, c, n⟩ l s sv w) := by
 have hr := hl.regs
 have END := Lib.hid (fun w' (hb : Below w.heap.size w w') => doPost_give (x := ⟨17, a, b, c, n⟩) (j := n) (v := l.reg a) hM hC hl.regs hb (by rw [hl.gives]; omega) rfl)
 have HC := Lib.hid hC
 have HM := Lib.hid hM
 have HL := Lib.hid hl
 have HS := Lib.hid hs
 clear hC hM hl hs
 go_enter Tryd.func107, Tryd.ntmps107
 go_wp2_with (fail)
 generalize hw1 : w.alloc _ = w1
 obtain ⟨hb1, x1, x2, x3, x4⟩ := boxed hw1
 obtain ⟨hreg, hm, hsl, hf⟩ := callCells (HC.out.below hb1) hr
 have a0 : (0 : Int) ≤ a := by omega
 have a1 : (a : Int) < 8 := by omega
 have b0 : (0 : Int) ≤ b := by omega
 have b1 : (b : Int) < 8 := by omega
 have ra := hreg a ha
 have rb := hreg b hb8
 have n0 : (0 : Int) ≤ n := by omega
 have n1 : (n : Int) < 3 := by omega
 have hgv := callGive (HC.out.below hb1) hr (show n < l.gives.length by rw [HL.out.gives]; exact hn)
 have ta : ∃ y, w1.drew.cell? ⟨pc, 11 + n, none⟩ = some y := ⟨_, hgv⟩
 have tf : w1.drew.frozen? ⟨pc, 11 + n, none⟩ = false := hf (11 + n)
 have HB1 := Lib.hid hb1
 clear hreg hm hsl hf hb1 hw1 HC HM HL HS x3
 go_still_tail 12, (by kernel_rfl)
 change wpList _ _ _ _ _ w1.drew
 have HD := Lib.hid HB1.out.drew
 generalize w1.drew = w2 at *
 obtain ⟨ty, ta⟩ := ta
 go_wp2_with (fail)
 go_end0
 exact END.out w2 HD.out
set_option maxHeartbeats 2000000 in
theorem do_10 (w : World) (B pm : Nat) (rest : List Value) (T pc pl par : Nat) (a b c n : Nat) (l : Lc) (s : Cm) (sv : Value) (hM : MacAt B w pm rest T s sv) (hC : CallAt K w pm sv pc pl par l) (hl : LcOk par slo l) (hs : CmOk s) (ha : a < 8) (hb8 : b < 8) :
  Calls Tryd.prog 107 #[.pointer (some ⟨pc, 0, none⟩), .agg #[.int .i64 10, .int .i64 (a : Int), .int .i64 (b : Int), .int .i64 (c : Int), .int .i64 (n : Int)]] w
   (DoPost K B pm rest T pc pl par ⟨10, a, b, c, n⟩ l s sv w) := by
 have hr := hl.regs
 have END := Lib.hid (fun w' (hb : Below w.heap.size w w') => doPost_reg (x := ⟨10, a, b, c, n⟩) (a := a) (v := if l.reg b = 0 then 1 else 0) hM hC hb (by omega) rfl rfl)
 obtain ⟨v, hv⟩ : ∃ v : Nat, v = if l.reg b = 0 then 1 else 0 := ⟨_, rfl⟩
 rw [← hv] at END
 have HK := Lib.hid (fun w' => arith_not w' (l.reg b) v hv)
 clear hv
 have HC := Lib.hid hC
 have HM := Lib.hid hM
 have HL := Lib.hid hl
 have HS := Lib.hid hs
 clear hC hM hl hs
 go_enter Tryd.func107, Tryd.ntmps107
 go_wp2_with (fail)
 generalize hw1 : w.alloc _ = w1
 obtain ⟨hb1, x1, x2, x3, x4⟩ := boxed hw1
 obtain ⟨hreg, hm, hsl, hf⟩ := callCells (HC.out.below hb1) hr
 have a0 : (0 : Int) ≤ a := by omega
 have a1 : (a : Int) < 8 := by omega
 have b0 : (0 : Int) ≤ b := by omega
 have b1 : (b : Int) < 8 := by omega
 have ra := hreg a ha
 have rb := hreg b hb8
 have HB1 := Lib.hid hb1
 have hfa := hf (1 + a)
 have hpm := (callCells HC.out hr).2.1
 clear hreg hm hsl hf hb1 hw1 HC HM HL HS x3
 have hne : ¬ pc = w.heap.size := by have := World.block_lt_of_cell? _ _ hpm; simp only [] at this; omega
 have fa := hfa
 go_region_law (first | (go_simp; go_at_call 128; refine (HK.out _).mono ?_; rintro e w' ⟨rfl, rfl⟩))
 all_goals go_wp2_with (fail)
 all_goals go_end0
 all_goals exact END.out w1.drew HB1.out.drew
set_option maxHeartbeats 2000000 in
theorem do_11 (w : World) (B pm : Nat) (rest : List Value) (T pc pl par : Nat) (a b c n : Nat) (l : Lc) (s : Cm) (sv : Value) (hM : MacAt B w pm rest T s sv) (hC : CallAt K w pm sv pc pl par l) (hl : LcOk par slo l) (hs : CmOk s) (ha : a < 8) (hb8 : b < 8) (hcell : l.reg b < 16) :
  Calls Tryd.prog 107 #[.pointer (some ⟨pc, 0, none⟩), .agg #[.int .i64 11, .int .i64 (a : Int), .int .i64 (b : Int), .int .i64 (c : Int), .int .i64 (n : Int)]] w
   (DoPost K B pm rest T pc pl par ⟨11, a, b, c, n⟩ l s sv w) := by
 have hr := hl.regs
 have END := Lib.hid (fun w' (hb : Below w.heap.size w w') => doPost_reg (x := ⟨11, a, b, c, n⟩) (a := a) (v := s.cells.getD (l.reg b) 0) hM hC hb (by omega) (by unfold plainOp; simp; omega) rfl)
 have HK := Lib.hid (fun w' => cell_same w' pm (l.reg b) hcell)
 have HC := Lib.hid hC
 have HM := Lib.hid hM
 have HL := Lib.hid hl
 have HS := Lib.hid hs
 clear hC hM hl hs
 go_enter Tryd.func107, Tryd.ntmps107
 go_wp2_with (fail)
 generalize hw1 : w.alloc _ = w1
 obtain ⟨hb1, x1, x2, x3, x4⟩ := boxed hw1
 obtain ⟨hreg, hm, hsl, hf⟩ := callCells (HC.out.below hb1) hr
 have a0 : (0 : Int) ≤ a := by omega
 have a1 : (a : Int) < 8 := by omega
 have b0 : (0 : Int) ≤ b := by omega
 have b1 : (b : Int) < 8 := by omega
 have ra := hreg a ha
 have rb := hreg b hb8
 obtain ⟨hcl, _, _, _, _⟩ := macCells (HM.out.below hb1) HS.out.cells
 have hc1 := hcl _ hcell
 have hm2 := hm
 clear hcl
 have ta : ∃ y, w1.drew.cell? ⟨pc, 1 + a, none⟩ = some y := ⟨_, ra⟩
 have tf : w1.drew.frozen? ⟨pc, 1 + a, none⟩ = false := hf (1 + a)
 have HB1 := Lib.hid hb1
 clear hreg hm hsl hf hb1 hw1 HC HM HL HS x3
 go_still_tail 18, (by kernel_rfl)
 still_call (HK.out _)
 repeat still_step
 refine wpStill_nil ?_
 change wpList _ _ _ _ _ w1.drew
 have HD := Lib.hid HB1.out.drew
 generalize w1.drew = w2 at *
 obtain ⟨ty, ta⟩ := ta
 go_wp2_with (fail)
 go_end0
 exact END.out w2 HD.out
set_option maxHeartbeats 2000000 in
theorem do_12 (w : World) (B pm : Nat) (rest : List Value) (T pc pl par : Nat) (a b c n : Nat) (l : Lc) (s : Cm) (sv : Value) (hM : MacAt B w pm rest T s sv) (hC : CallAt K w pm sv pc pl par l) (hl : LcOk par slo l) (hs : CmOk s) (ha : a < 8) (hb8 : b < 8) (hcell : l.reg a < 16) :
  Calls Tryd.prog 107 #[.pointer (some ⟨pc, 0, none⟩), .agg #[.int .i64 12, .int .i64 (a : Int), .int .i64 (b : Int), .int .i64 (c : Int), .int .i64 (n : Int)]] w
   (DoPost K B pm rest T pc pl par ⟨12, a, b, c, n⟩ l s sv w) := by
 have hr := hl.regs
 have END := Lib.hid (fun w' (hb : Below w.heap.size w w') => doPost_cell (x := ⟨12, a, b, c, n⟩) (i := l.reg a) (v := l.reg b) hM hC hb (by rw [hs.cells]; exact hcell) (by unfold plainOp; simp; omega))
 have HK := Lib.hid (fun w' => cell_same w' pm (l.reg a) hcell)
 have HC := Lib.hid hC
 have HM := Lib.hid hM
 have HL := Lib.hid hl
 have HS := Lib.hid hs
 clear hC hM hl hs
 go_enter Tryd.func107, Tryd.ntmps107
 go_wp2_with (fail)
 generalize hw1 : w.alloc _ = w1
 obtain ⟨hb1, x1, x2, x3, x4⟩ := boxed hw1
 obtain ⟨hreg, hm, hsl, hf⟩ := callCells (HC.out.below hb1) hr
 have a0 : (0 : Int) ≤ a := by omega
 have a1 : (a : Int) < 8 := by omega
 have b0 : (0 : Int) ≤ b := by omega
 have b1 : (b : Int) < 8 := by omega
 have ra := hreg a ha
 have rb := hreg b hb8
 obtain ⟨hcl, _, _, _, hmf⟩ := macCells (HM.out.below hb1) HS.out.cells
 have hc1 := hcl _ hcell
 have hmf1 := hmf (3 + l.reg a)
 have hm2 := hm
 clear hcl hmf
 have ta : ∃ y, w1.drew.cell? ⟨pm, 3 + l.reg a, none⟩ = some y := ⟨_, hc1⟩
 have tf : w1.drew.frozen? ⟨pm, 3 + l.reg a, none⟩ = false := hmf1
 have HB1 := Lib.hid hb1
 clear hreg hm hsl hf hb1 hw1 HC HM HL HS x3
 go_still_tail 18, (by kernel_rfl)
 still_call (HK.out _)
 repeat still_step
 refine wpStill_nil ?_
 change wpList _ _ _ _ _ w1.drew
 have HD := Lib.hid HB1.out.drew
 generalize w1.drew = w2 at *
 obtain ⟨ty, ta⟩ := ta
 go_wp2_with (fail)
 go_end0
 exact END.out w2 HD.out
end Go.Proofs.YtbdbmmdnidonjaaDoor
set_option maxRecDepth 100000
namespace Go.Proofs.YtbdbmmdnidonjaaDoor
open Go.RowKit
variable {K : Nat → Prop}
variable {slo : Nat}
theorem doPost_say {B pm : Nat} {rest : List Value} {T pc pl par : Nat} {x : Ni} {l : Lc} {s : Cm} {sv : Value} {w wa w' : World} (hM : MacAt B w pm rest T s sv) (hC : CallAt K w pm sv pc pl par l) (hb : Below w.heap.size w wa)
  {g cap v : Nat} (hown : w'.ownsRow B 3 1 (.slice (some ⟨g, 0, none⟩) (s.said.length + 1) cap) (s.said.length + 1) (nats s.said ++ [.int .i64 (v : Int)])) (hg : wa.grownBy w' sv.ownBlock) (hat : sv.ownBlock = some g ∨ w.heap.size ≤ g)
  (hp : plainOp x l s = .inl (l, { s with said := s.said ++ [v] })) :
  DoPost K B pm rest T pc pl par x l s sv w (.returned (.tuple #[])) (w'.setCell ⟨pm, 2, none⟩ (.slice (some ⟨g, 0, none⟩) (s.said.length + 1) cap)) := by
 have hlt := hM.blk.lt
 have hgp : g ≠ pm := by
  rcases hat with h | h
  ·intro e; exact hM.sep (by rw [h, e])
  ·omega
 have hfr : Fr [pm] sv w (.slice (some ⟨g, 0, none⟩) (s.said.length + 1) cap) (w'.setCell ⟨pm, 2, none⟩ (.slice (some ⟨g, 0, none⟩) (s.said.length + 1) cap)) := by
  refine ⟨?_, ?_⟩
  ·refine Only.setCell ?_ (by simp) _
   refine (Only.of_below hb _).trans ?_
   refine ⟨hg.os, hg.tape, hg.output, hg.size, fun k hk hn => hg.block k hk (fun e => hn (List.mem_append_right _ (by rw [← e]; simp)))⟩
  ·rcases hat with h | h
   ·exact .inl (by rw [h]; rfl)
   ·exact .inr fun k hk => by simp [Value.ownBlock] at hk; omega
 unfold DoPost
 rw [hp]
 refine ⟨rfl, _, ⟨?_, ?_, ?_, hM.left, hM.ge⟩, hC.keep hfr, hfr.mono (fun x hx => List.mem_append_left _ hx)⟩
 ·rw [← mkMac_said]
  exact ((hM.blk.below hb).grown hg hM.sep).set 2 _
 ·show Said _ _ _ (s.said ++ [v])
  unfold Said
  rw [List.length_append, List.length_singleton, show nats (s.said ++ [v]) = nats s.said ++ [.int .i64 (v : Int)] by simp [nats]]
  exact ownsRow_same hown (fun k hk => Below.heap_setCell _ _ _ _ (by simp [Value.ownBlock] at hk; simp only []; omega))
 ·intro e; injection e with e; exact hgp e
/-- blocks that stood at w, but for the said row's, are as they were -/
def Keep (w : World) (sv : Value) (W : World) : Prop := w.heap.size ≤ W.heap.size ∧ ∀ q, q < w.heap.size → sv.ownBlock ≠ some q → W.heap[q]? = w.heap[q]?
theorem Keep.cell {w : World} {sv : Value} {W : World} (h : Keep w sv W) {b j : Nat} {v : Value} (hv : w.cell? ⟨b, j, none⟩ = some v) (hs : sv.ownBlock ≠ some b) : W.cell? ⟨b, j, none⟩ = some v :=
 (World.cell?_of_block (a := ⟨b, j, none⟩) (h.2 b (World.block_lt_of_cell? _ _ hv) hs)).trans hv
theorem Keep.frozen {w : World} {sv : Value} {W : World} (h : Keep w sv W) {b j : Nat} {f : Bool} (hv : w.frozen? ⟨b, j, none⟩ = f) (hlt : b < w.heap.size) (hs : sv.ownBlock ≠ some b) : W.frozen? ⟨b, j, none⟩ = f :=
 (World.frozen?_of_block (a := ⟨b, j, none⟩) (h.2 b hlt hs)).trans hv
theorem Keep.refl (w : World) (sv : Value) : Keep w sv w := ⟨Nat.le_refl _, fun _ _ _ => rfl⟩
theorem Keep.drew {w : World} {sv : Value} {W : World} (h : Keep w sv W) : Keep w sv W.drew := h
theorem Keep.alloc {w : World} {sv : Value} {W : World} (h : Keep w sv W) (o : Obj) : Keep w sv (W.alloc o) :=
 ⟨by have := h.1; simp; omega, fun q hq hs => by rw [Below.heap_alloc _ _ _ (by have := h.1; omega)]; exact h.2 q hq hs⟩
theorem Keep.grown {w : World} {sv : Value} {W W' : World} (h : Keep w sv W) (hg : W.grownBy W' sv.ownBlock) : Keep w sv W' :=
 ⟨Nat.le_trans h.1 hg.size, fun q hq hs => by rw [hg.block q (by have := h.1; omega) (fun e => hs e.symm)]; exact h.2 q hq hs⟩
theorem doPost_arith {B pm : Nat} {rest : List Value} {T pc pl par : Nat} {l : Lc} {s : Cm} {sv : Value} {w w' : World} {op a b c n : Nat} (h3 : 3 ≤ op) (h9 : op ≤ 9) (hM : MacAt B w pm rest T s sv) (hC : CallAt K w pm sv pc pl par l) (hb : Below w.heap.size w w') (ha : a < l.regs.length) {v : Nat} (hv : arithN op (l.reg b) (l.reg c) = some v) :
  DoPost K B pm rest T pc pl par ⟨op, a, b, c, n⟩ l s sv w (.returned (.tuple #[])) (w'.setCell ⟨pc, 1 + a, none⟩ (.int .i64 (v : Int))) := by
 refine doPost_reg hM hC hb ha ?_ rfl
 unfold plainOp
 simp only [hv]
 repeat rw [if_neg (by omega)]
theorem doPost_arith0 {B pm : Nat} {rest : List Value} {T pc pl par : Nat} {l : Lc} {s : Cm} {sv : Value} {w w' : World} {op a b c n : Nat} (h3 : 3 ≤ op) (h9 : op ≤ 9) (hM : MacAt B w pm rest T s sv) (hb : Below w.heap.size w w') (hv : arithN op (l.reg b) (l.reg c) = none) :
  DoPost K B pm rest T pc pl par ⟨op, a, b, c, n⟩ l s sv w (.panicked (endChain 1)) w' := by
 refine doPost_stop hM hb ?_
 unfold plainOp
 simp only [hv]
 repeat rw [if_neg (by omega)]
set_option maxHeartbeats 2000000 in
theorem do_11n (w : World) (B pm : Nat) (rest : List Value) (T pc pl par : Nat) (a b c n : Nat) (l : Lc) (s : Cm) (sv : Value) (hM : MacAt B w pm rest T s sv) (hC : CallAt K w pm sv pc pl par l) (hl : LcOk par slo l) (hs : CmOk s) (ha : a < 8) (hb8 : b < 8) (hcell : 16 ≤ l.reg b) :
  Calls Tryd.prog 107 #[.pointer (some ⟨pc, 0, none⟩), .agg #[.int .i64 11, .int .i64 (a : Int), .int .i64 (b : Int), .int .i64 (c : Int), .int .i64 (n : Int)]] w
   (DoPost K B pm rest T pc pl par ⟨11, a, b, c, n⟩ l s sv w) := by
 have hr := hl.regs
 have END := Lib.hid (fun w' (hb : Below w.heap.size w w') => doPost_stop (K := K) (pc := pc) (pl := pl) (par := par) (x := ⟨11, a, b, c, n⟩) hM hb (en := 2) (by unfold plainOp; simp; omega))
 have HK := Lib.hid (fun w' => cell_no w' pm (l.reg b) hcell)
 have HC := Lib.hid hC
 have HM := Lib.hid hM
 have HL := Lib.hid hl
 have HS := Lib.hid hs
 clear hC hM hl hs
 go_enter Tryd.func107, Tryd.ntmps107
 go_wp2_with (fail)
 generalize hw1 : w.alloc _ = w1
 obtain ⟨hb1, x1, x2, x3, x4⟩ := boxed hw1
 obtain ⟨hreg, hm, hsl, hf⟩ := callCells (HC.out.below hb1) hr
 have a0 : (0 : Int) ≤ a := by omega
 have a1 : (a : Int) < 8 := by omega
 have b0 : (0 : Int) ≤ b := by omega
 have b1 : (b : Int) < 8 := by omega
 have ra := hreg a ha
 have rb := hreg b hb8
 have hpc0 := hm
 have hsc := HC.out.sc
 have hsx : sv.ownBlock ≠ some w.heap.size := fun e => by have := (HM.out.said.lt e).2; omega
 have HKC : Hid (∀ W, Keep w1 sv W → W.cell? ⟨pc, 0, none⟩ = some (.pointer (some ⟨pm, 0, none⟩)) ∧ W.cell? ⟨w.heap.size, 1, none⟩ = some (.int .i64 (a : Int)) ∧ W.cell? ⟨w.heap.size, 2, none⟩ = some (.int .i64 (b : Int)) ∧ W.cell? ⟨pc, 1 + a, none⟩ = some (.int .i64 (l.reg a : Int)) ∧ W.cell? ⟨pc, 1 + b, none⟩ = some (.int .i64 (l.reg b : Int))) :=
  Lib.hid fun W hk => ⟨hk.cell hpc0 hsc, hk.cell x1 hsx, hk.cell x2 hsx, hk.cell ra hsc, hk.cell rb hsc⟩
 have HB1 := Lib.hid hb1
 clear hreg hm hsl hf hb1 hw1 HC HM HL HS x3
 refine wp_region_held (Keep w1 sv) [(0, false), (1, false), (2, true), (3, false), (4, false), (5, false), (6, true), (7, false), (8, false), (9, true), (10, false), (11, false), (12, true), (16, false)] [13, 14, 15, 17, 18] 18 (by kernel_rfl) (by kernel_rfl) (fun d v c a w h => by cases d <;> exact h) (Keep.refl w1 sv) ?_
 simp only [pickO, List.map_cons, List.map_nil, List.getD_cons_zero, List.getD_cons_succ]
 refine heldO_stepY (v := ?_) rfl ?_ ?_
 rotate_left
 ·intro W
  go_simp
  try rfl
 simp only [Act.put, List.setIfInBounds_toArray, List.set_cons_zero, List.set_cons_succ]
 refine heldO_stepY (v := ?_) rfl ?_ ?_
 rotate_left
 ·intro W
  go_simp
  try rfl
 simp only [Act.put, List.setIfInBounds_toArray, List.set_cons_zero, List.set_cons_succ]
 refine heldO_step (v := ?_) rfl ?_ ?_
 rotate_left
 ·intro W hS
  obtain ⟨k1, k2, k3, k4, k5⟩ := HKC.out W hS
  go_simp
  try rfl
 simp only [Act.put, List.setIfInBounds_toArray, List.set_cons_zero, List.set_cons_succ]
 refine heldO_stepY (v := ?_) rfl ?_ ?_
 rotate_left
 ·intro W
  go_simp
  try rfl
 simp only [Act.put, List.setIfInBounds_toArray, List.set_cons_zero, List.set_cons_succ]
 refine heldO_stepY (v := ?_) rfl ?_ ?_
 rotate_left
 ·intro W
  go_simp
  try rfl
 simp only [Act.put, List.setIfInBounds_toArray, List.set_cons_zero, List.set_cons_succ]
 refine heldO_stepY (v := ?_) rfl ?_ ?_
 rotate_left
 ·intro W
  go_simp
  try rfl
 simp only [Act.put, List.setIfInBounds_toArray, List.set_cons_zero, List.set_cons_succ]
 refine heldO_step (v := ?_) rfl ?_ ?_
 rotate_left
 ·intro W hS
  obtain ⟨k1, k2, k3, k4, k5⟩ := HKC.out W hS
  go_simp
  try rfl
 simp only [Act.put, List.setIfInBounds_toArray, List.set_cons_zero, List.set_cons_succ]
 refine heldO_stepY (v := ?_) rfl ?_ ?_
 rotate_left
 ·intro W
  go_simp
  try rfl
 simp only [Act.put, List.setIfInBounds_toArray, List.set_cons_zero, List.set_cons_succ]
 refine heldO_stepY (v := ?_) rfl ?_ ?_
 rotate_left
 ·intro W
  go_simp
  try rfl
 simp only [Act.put, List.setIfInBounds_toArray, List.set_cons_zero, List.set_cons_succ]
 refine heldO_step (v := ?_) rfl ?_ ?_
 rotate_left
 ·intro W hS
  obtain ⟨k1, k2, k3, k4, k5⟩ := HKC.out W hS
  go_simp
  try rfl
 simp only [Act.put, List.setIfInBounds_toArray, List.set_cons_zero, List.set_cons_succ]
 refine heldO_stepY (v := ?_) rfl ?_ ?_
 rotate_left
 ·intro W
  go_simp
  try rfl
 simp only [Act.put, List.setIfInBounds_toArray, List.set_cons_zero, List.set_cons_succ]
 refine heldO_stepY (v := ?_) rfl ?_ ?_
 rotate_left
 ·intro W
  go_simp
  try rfl
 simp only [Act.put, List.setIfInBounds_toArray, List.set_cons_zero, List.set_cons_succ]
 refine heldO_step (v := ?_) rfl ?_ ?_
 rotate_left
 ·intro W hS
  obtain ⟨k1, k2, k3, k4, k5⟩ := HKC.out W hS
  go_simp
  try rfl
 simp only [Act.put, List.setIfInBounds_toArray, List.set_cons_zero, List.set_cons_succ]
 refine heldO_stepY (v := ?_) rfl ?_ ?_
 rotate_left
 ·intro W
  go_simp
  try rfl
 simp only [Act.put, List.setIfInBounds_toArray, List.set_cons_zero, List.set_cons_succ]
 refine heldO_nil ?_
 refine tailO_step rfl (fun K hK => ?_)
 go_simp
 refine (HK.out _).mono ?_
 rintro e w' ⟨rfl, rfl⟩
 exact ⟨rfl, END.out _ HB1.out.drew⟩
set_option maxHeartbeats 2000000 in
theorem do_12n (w : World) (B pm : Nat) (rest : List Value) (T pc pl par : Nat) (a b c n : Nat) (l : Lc) (s : Cm) (sv : Value) (hM : MacAt B w pm rest T s sv) (hC : CallAt K w pm sv pc pl par l) (hl : LcOk par slo l) (hs : CmOk s) (ha : a < 8) (hb8 : b < 8) (hcell : 16 ≤ l.reg a) :
  Calls Tryd.prog 107 #[.pointer (some ⟨pc, 0, none⟩), .agg #[.int .i64 12, .int .i64 (a : Int), .int .i64 (b : Int), .int .i64 (c : Int), .int .i64 (n : Int)]] w
   (DoPost K B pm rest T pc pl par ⟨12, a, b, c, n⟩ l s sv w) := by
 have hr := hl.regs
 have END := Lib.hid (fun w' (hb : Below w.heap.size w w') => doPost_stop (K := K) (pc := pc) (pl := pl) (par := par) (x := ⟨12, a, b, c, n⟩) hM hb (en := 2) (by unfold plainOp; simp; omega))
 have HK := Lib.hid (fun w' => cell_no w' pm (l.reg a) hcell)
 have HC := Lib.hid hC
 have HM := Lib.hid hM
 have HL := Lib.hid hl
 have HS := Lib.hid hs
 clear hC hM hl hs
 go_enter Tryd.func107, Tryd.ntmps107
 go_wp2_with (fail)
 generalize hw1 : w.alloc _ = w1
 obtain ⟨hb1, x1, x2, x3, x4⟩ := boxed hw1
 obtain ⟨hreg, hm, hsl, hf⟩ := callCells (HC.out.below hb1) hr
 have a0 : (0 : Int) ≤ a := by omega
 have a1 : (a : Int) < 8 := by omega
 have b0 : (0 : Int) ≤ b := by omega
 have b1 : (b : Int) < 8 := by omega
 have ra := hreg a ha
 have rb := hreg b hb8
 have hpc0 := hm
 have hsc := HC.out.sc
 have hsx : sv.ownBlock ≠ some w.heap.size := fun e => by have := (HM.out.said.lt e).2; omega
 have HKC : Hid (∀ W, Keep w1 sv W → W.cell? ⟨pc, 0, none⟩ = some (.pointer (some ⟨pm, 0, none⟩)) ∧ W.cell? ⟨w.heap.size, 1, none⟩ = some (.int .i64 (a : Int)) ∧ W.cell? ⟨w.heap.size, 2, none⟩ = some (.int .i64 (b : Int)) ∧ W.cell? ⟨pc, 1 + a, none⟩ = some (.int .i64 (l.reg a : Int)) ∧ W.cell? ⟨pc, 1 + b, none⟩ = some (.int .i64 (l.reg b : Int))) :=
  Lib.hid fun W hk => ⟨hk.cell hpc0 hsc, hk.cell x1 hsx, hk.cell x2 hsx, hk.cell ra hsc, hk.cell rb hsc⟩
 have HB1 := Lib.hid hb1
 clear hreg hm hsl hf hb1 hw1 HC HM HL HS x3
 refine wp_region_held (Keep w1 sv) [(0, false), (1, false), (2, false), (3, true), (4, false), (5, false), (6, true), (7, false), (8, false), (9, true), (11, false), (12, false), (13, true), (14, false), (15, false), (16, true)] [10, 17, 18] 18 (by kernel_rfl) (by kernel_rfl) (fun d v c a w h => by cases d <;> exact h) (Keep.refl w1 sv) ?_
 simp only [pickO, List.map_cons, List.map_nil, List.getD_cons_zero, List.getD_cons_succ]
 refine heldO_stepY (v := ?_) rfl ?_ ?_
 rotate_left
 ·intro W
  go_simp
  try rfl
 simp only [Act.put, List.setIfInBounds_toArray, List.set_cons_zero, List.set_cons_succ]
 refine heldO_stepY (v := ?_) rfl ?_ ?_
 rotate_left
 ·intro W
  go_simp
  try rfl
 simp only [Act.put, List.setIfInBounds_toArray, List.set_cons_zero, List.set_cons_succ]
 refine heldO_stepY (v := ?_) rfl ?_ ?_
 rotate_left
 ·intro W
  go_simp
  try rfl
 simp only [Act.put, List.setIfInBounds_toArray, List.set_cons_zero, List.set_cons_succ]
 refine heldO_step (v := ?_) rfl ?_ ?_
 rotate_left
 ·intro W hS
  obtain ⟨k1, k2, k3, k4, k5⟩ := HKC.out W hS
  go_simp
  try rfl
 simp only [Act.put, List.setIfInBounds_toArray, List.set_cons_zero, List.set_cons_succ]
 refine heldO_stepY (v := ?_) rfl ?_ ?_
 rotate_left
 ·intro W
  go_simp
  try rfl
 simp only [Act.put, List.setIfInBounds_toArray, List.set_cons_zero, List.set_cons_succ]
 refine heldO_stepY (v := ?_) rfl ?_ ?_
 rotate_left
 ·intro W
  go_simp
  try rfl
 simp only [Act.put, List.setIfInBounds_toArray, List.set_cons_zero, List.set_cons_succ]
 refine heldO_step (v := ?_) rfl ?_ ?_
 rotate_left
 ·intro W hS
  obtain ⟨k1, k2, k3, k4, k5⟩ := HKC.out W hS
  go_simp
  try rfl
 simp only [Act.put, List.setIfInBounds_toArray, List.set_cons_zero, List.set_cons_succ]
 refine heldO_stepY (v := ?_) rfl ?_ ?_
 rotate_left
 ·intro W
  go_simp
  try rfl
 simp only [Act.put, List.setIfInBounds_toArray, List.set_cons_zero, List.set_cons_succ]
 refine heldO_stepY (v := ?_) rfl ?_ ?_
 rotate_left
 ·intro W
  go_simp
  try rfl
 simp only [Act.put, List.setIfInBounds_toArray, List.set_cons_zero, List.set_cons_succ]
 refine heldO_step (v := ?_) rfl ?_ ?_
 rotate_left
 ·intro W hS
  obtain ⟨k1, k2, k3, k4, k5⟩ := HKC.out W hS
  go_simp
  try rfl
 simp only [Act.put, List.setIfInBounds_toArray, List.set_cons_zero, List.set_cons_succ]
 refine heldO_stepY (v := ?_) rfl ?_ ?_
 rotate_left
 ·intro W
  go_simp
  try rfl
 simp only [Act.put, List.setIfInBounds_toArray, List.set_cons_zero, List.set_cons_succ]
 refine heldO_stepY (v := ?_) rfl ?_ ?_
 rotate_left
 ·intro W
  go_simp
  try rfl
 simp only [Act.put, List.setIfInBounds_toArray, List.set_cons_zero, List.set_cons_succ]
 refine heldO_step (v := ?_) rfl ?_ ?_
 rotate_left
 ·intro W hS
  obtain ⟨k1, k2, k3, k4, k5⟩ := HKC.out W hS
  go_simp
  try rfl
 simp only [Act.put, List.setIfInBounds_toArray, List.set_cons_zero, List.set_cons_succ]
 refine heldO_stepY (v := ?_) rfl ?_ ?_
 rotate_left
 ·intro W
  go_simp
  try rfl
 simp only [Act.put, List.setIfInBounds_toArray, List.set_cons_zero, List.set_cons_succ]
 refine heldO_stepY (v := ?_) rfl ?_ ?_
 rotate_left
 ·intro W
  go_simp
  try rfl
 simp only [Act.put, List.setIfInBounds_toArray, List.set_cons_zero, List.set_cons_succ]
 refine heldO_step (v := ?_) rfl ?_ ?_
 rotate_left
 ·intro W hS
  obtain ⟨k1, k2, k3, k4, k5⟩ := HKC.out W hS
  go_simp
  try rfl
 simp only [Act.put, List.setIfInBounds_toArray, List.set_cons_zero, List.set_cons_succ]
 refine heldO_nil ?_
 refine tailO_step rfl (fun K hK => ?_)
 go_simp
 refine (HK.out _).mono ?_
 rintro e w' ⟨rfl, rfl⟩
 exact ⟨rfl, END.out _ HB1.out.drew⟩
set_option maxHeartbeats 2000000 in
theorem do_13 (w : World) (B pm : Nat) (rest : List Value) (T pc pl par : Nat) (a b c n : Nat) (l : Lc) (s : Cm) (sv : Value) (hM : MacAt B w pm rest T s sv) (hC : CallAt K w pm sv pc pl par l) (hl : LcOk par slo l) (hs : CmOk s) (ha : a < 8) (hb8 : b < 8) (hT : s.said.length ≤ 1000000) (hB : B ≤ w.heap.size) :
  Calls Tryd.prog 107 #[.pointer (some ⟨pc, 0, none⟩), .agg #[.int .i64 13, .int .i64 (a : Int), .int .i64 (b : Int), .int .i64 (c : Int), .int .i64 (n : Int)]] w
   (DoPost K B pm rest T pc pl par ⟨13, a, b, c, n⟩ l s sv w) := by
 have hr := hl.regs
 have END := Lib.hid (fun wa w' (hb : Below w.heap.size w wa) (g cap : Nat) h1 h2 h3 => @doPost_say K B pm rest T pc pl par ⟨13, a, b, c, n⟩ l s sv w wa w' hM hC hb g cap (l.reg a) h1 h2 h3 rfl)
 obtain ⟨i0, hi, hz0, hz1, hz2⟩ := info_parts info_int
 have HC := Lib.hid hC
 have HM := Lib.hid hM
 have HL := Lib.hid hl
 have HS := Lib.hid hs
 clear hC hM hl hs
 go_enter Tryd.func107, Tryd.ntmps107
 go_wp2_with (fail)
 generalize hw1 : w.alloc _ = w1
 obtain ⟨hb1, x1, x2, x3, x4⟩ := boxed hw1
 obtain ⟨hreg, hm, hsl, hf⟩ := callCells (HC.out.below hb1) hr
 have a0 : (0 : Int) ≤ a := by omega
 have a1 : (a : Int) < 8 := by omega
 have b0 : (0 : Int) ≤ b := by omega
 have b1 : (b : Int) < 8 := by omega
 have ra := hreg a ha
 have rb := hreg b hb8
 have hpc0 := hm
 have hsc := HC.out.sc
 have hsx : sv.ownBlock ≠ some w.heap.size := fun e => by have := (HM.out.said.lt e).2; omega
 have HSD : Hid (Said w1 B sv s.said) := Lib.hid (HM.out.said.below hb1)
 obtain ⟨_, _, _, hm2, hmf⟩ := macCells (HM.out.below hb1) HS.out.cells
 have hmf2 := hmf 2
 have hsz1 : w.heap.size ≤ w1.heap.size := hb1.size
 have hpm1 := (HM.out.below hb1).blk.lt
 have hsep := HM.out.sep
 have HKC : Hid (∀ W, Keep w1 sv W → W.cell? ⟨pc, 0, none⟩ = some (.pointer (some ⟨pm, 0, none⟩)) ∧ W.cell? ⟨w.heap.size, 1, none⟩ = some (.int .i64 (a : Int)) ∧ W.cell? ⟨w.heap.size, 2, none⟩ = some (.int .i64 (b : Int)) ∧ W.cell? ⟨pc, 1 + a, none⟩ = some (.int .i64 (l.reg a : Int)) ∧ W.cell? ⟨pm, 2, none⟩ = some sv) :=
  Lib.hid fun W hk => ⟨hk.cell hpc0 hsc, hk.cell x1 hsx, hk.cell x2 hsx, hk.cell ra hsc, hk.cell hm2 hsep⟩
 have HMF : Hid (∀ W, Keep w1 sv W → W.cell? ⟨pm, 2, none⟩ = some sv ∧ W.frozen? ⟨pm, 2, none⟩ = false) := Lib.hid fun W hk => ⟨hk.cell hm2 hsep, hk.frozen hmf2 hpm1 hsep⟩
 clear hmf hmf2 hm2 hpc0 hsc hsx hsep hpm1 hf
 have HB1 := Lib.hid hb1
 clear hreg hm hsl hb1 hw1 HC HM HL HS x3
 obtain ⟨sd, hsd⟩ : ∃ sd, sd = s.said := ⟨_, rfl⟩
 rw [← hsd] at HSD hT
 refine wp_region_held (Keep w1 sv) [(0, false), (1, false), (2, false), (3, true), (4, false), (5, false), (6, false), (7, true), (8, false), (9, false), (10, true), (11, false), (12, false), (13, true), (14, false), (15, false), (16, true)] [17, 18, 19, 20, 21] 21 (by kernel_rfl) (by kernel_rfl) (fun d v c a w h => by cases d <;> exact h) (Keep.refl w1 sv) ?_
 simp only [pickO, List.map_cons, List.map_nil, List.getD_cons_zero, List.getD_cons_succ]
 refine heldO_stepY (v := ?_) rfl ?_ ?_
 rotate_left
 ·intro W
  go_simp
  try rfl
 simp only [Act.put, List.setIfInBounds_toArray, List.set_cons_zero, List.set_cons_succ]
 refine heldO_stepY (v := ?_) rfl ?_ ?_
 rotate_left
 ·intro W
  go_simp
  try rfl
 simp only [Act.put, List.setIfInBounds_toArray, List.set_cons_zero, List.set_cons_succ]
 refine heldO_stepY (v := ?_) rfl ?_ ?_
 rotate_left
 ·intro W
  go_simp
  try rfl
 simp only [Act.put, List.setIfInBounds_toArray, List.set_cons_zero, List.set_cons_succ]
 refine heldO_step (v := ?_) rfl ?_ ?_
 rotate_left
 ·intro W hS
  obtain ⟨k1, k2, k3, k4, k5⟩ := HKC.out W hS
  go_simp
  try rfl
 simp only [Act.put, List.setIfInBounds_toArray, List.set_cons_zero, List.set_cons_succ]
 refine heldO_stepY (v := ?_) rfl ?_ ?_
 rotate_left
 ·intro W
  go_simp
  try rfl
 simp only [Act.put, List.setIfInBounds_toArray, List.set_cons_zero, List.set_cons_succ]
 refine heldO_stepY (v := ?_) rfl ?_ ?_
 rotate_left
 ·intro W
  go_simp
  try rfl
 simp only [Act.put, List.setIfInBounds_toArray, List.set_cons_zero, List.set_cons_succ]
 refine heldO_stepY (v := ?_) rfl ?_ ?_
 rotate_left
 ·intro W
  go_simp
  try rfl
 simp only [Act.put, List.setIfInBounds_toArray, List.set_cons_zero, List.set_cons_succ]
 refine heldO_step (v := ?_) rfl ?_ ?_
 rotate_left
 ·intro W hS
  obtain ⟨k1, k2, k3, k4, k5⟩ := HKC.out W hS
  go_simp
  try rfl
 simp only [Act.put, List.setIfInBounds_toArray, List.set_cons_zero, List.set_cons_succ]
 refine heldO_stepY (v := ?_) rfl ?_ ?_
 rotate_left
 ·intro W
  go_simp
  try rfl
 simp only [Act.put, List.setIfInBounds_toArray, List.set_cons_zero, List.set_cons_succ]
 refine heldO_stepY (v := ?_) rfl ?_ ?_
 rotate_left
 ·intro W
  go_simp
  try rfl
 simp only [Act.put, List.setIfInBounds_toArray, List.set_cons_zero, List.set_cons_succ]
 refine heldO_step (v := ?_) rfl ?_ ?_
 rotate_left
 ·intro W hS
  obtain ⟨k1, k2, k3, k4, k5⟩ := HKC.out W hS
  go_simp
  try rfl
 simp only [Act.put, List.setIfInBounds_toArray, List.set_cons_zero, List.set_cons_succ]
 refine heldO_stepY (v := ?_) rfl ?_ ?_
 rotate_left
 ·intro W
  go_simp
  try rfl
 simp only [Act.put, List.setIfInBounds_toArray, List.set_cons_zero, List.set_cons_succ]
 refine heldO_stepY (v := ?_) rfl ?_ ?_
 rotate_left
 ·intro W
  go_simp
  try rfl
 simp only [Act.put, List.setIfInBounds_toArray, List.set_cons_zero, List.set_cons_succ]
 refine heldO_step (v := ?_) rfl ?_ ?_
 rotate_left
 ·intro W hS
  obtain ⟨k1, k2, k3, k4, k5⟩ := HKC.out W hS
  go_simp
  try rfl
 simp only [Act.put, List.setIfInBounds_toArray, List.set_cons_zero, List.set_cons_succ]
 refine heldO_stepY (v := ?_) rfl ?_ ?_
 rotate_left
 ·intro W
  go_simp
  try rfl
 simp only [Act.put, List.setIfInBounds_toArray, List.set_cons_zero, List.set_cons_succ]
 refine heldO_stepY (v := ?_) rfl ?_ ?_
 rotate_left
 ·intro W
  go_simp
  try rfl
 simp only [Act.put, List.setIfInBounds_toArray, List.set_cons_zero, List.set_cons_succ]
 refine heldO_step (v := ?_) rfl ?_ ?_
 rotate_left
 ·intro W hS
  obtain ⟨k1, k2, k3, k4, k5⟩ := HKC.out W hS
  go_simp
  try rfl
 simp only [Act.put, List.setIfInBounds_toArray, List.set_cons_zero, List.set_cons_succ]
 refine heldO_nil ?_
 refine tailO_step rfl (fun K hK => ?_)
 go_simp
 refine hK _ _ (.inr ((Keep.refl w1 sv).alloc _)) ?_
 clear hK K
 refine tailO_step rfl (fun K hK => ?_)
 refine wp_append_lies _ (.tmp 130) (.tmp 137) 26 rfl B 3 i0 (.int .i64 0) 1 8 Tryd.underlying26 hi hz0 hz1 hz2 rfl (by decide) sv sd.length (nats sd) (by rfl) (HSD.out.alloc _) ⟨w1.heap.size, 0, none⟩ 1 1 [.int .i64 (l.reg a : Int)] (by rfl) rfl (World.news_of_block (heap_alloc_new _ _)) (by simp [Value.oneCell']) (by decide) (by unfold maxLen; omega) (by omega) (by simp; omega) _ rfl ?_
 intro g cap w3 hown hgrow hat hgl
 have hkeep : Keep w1 sv w3 := ((Keep.refl w1 sv).alloc (.cells #[.int .i64 (l.reg a : Int)] 3)).drew.grown hgrow
 obtain ⟨c2, f2⟩ := HMF.out w3 hkeep
 have HOWN := Lib.hid hown
 have HGR := Lib.hid hgrow
 have HAT := Lib.hid hat
 refine hK _ _ (.inr hkeep) ?_
 clear hK K hown hgrow hat
 simp only [Act.put, List.setIfInBounds_toArray, List.set_cons_zero, List.set_cons_succ]
 refine tailO_step rfl (fun K hK => ?_)
 go_simp
 refine hK _ _ (.inr hkeep) ?_
 clear hK K
 refine tailO_step rfl (fun K hK => ?_)
 go_simp
 refine hK _ _ (.inr hkeep) ?_
 clear hK K hkeep
 refine tailO_step rfl (fun K hK => ?_)
 go_simp
 refine hK _ _ (.inl rfl) (tailO_nil ?_)
 clear hK K
 go_wp2_with (fail)
 go_end0
 subst hsd
 refine END.out (w1.alloc (.cells #[.int .i64 (l.reg a : Int)] 3)).drew w3 (HB1.out.alloc hsz1 _).drew g cap HOWN.out HGR.out ?_
 rcases HAT.out with h | h
 ·exact .inl h
 ·right; rw [h]; simp; omega
end Go.Proofs.YtbdbmmdnidonjaaDoor
set_option maxRecDepth 100000
namespace Go.Proofs.YtbdbmmdnidonjaaDoor
open Go.RowKit
variable {K : Nat → Prop}
variable {slo : Nat}
def arithR : Option Nat → Value
 |some v => .tuple #[.int .i64 (v : Int), .bool true]
 |none => .tuple #[.int .i64 0, .bool false]
theorem arithV_eq (op a b : Nat) : arithV op a b = arithR (arithN op a b) := by
 unfold arithV arithR
 cases arithN op a b <;> rfl
theorem belowDr {B : Nat} {a w : World} (h : Below B a w) (n : Nat) : Below B a (w.drewN n) := h.trans ⟨rfl, rfl, rfl, Nat.le_refl _, fun _ _ => rfl⟩
theorem boxed0 {w w1 : World} {v0 v1 v2 v3 v4 : Value} {t : TypeId} (h : w.alloc (.cells #[v0, v1, v2, v3, v4] t) = w1) : w1.cell? ⟨w.heap.size, 0, none⟩ = some v0 := by
 subst h
 rw [(Blk.new w #[v0, v1, v2, v3, v4] t).cell]; rfl
set_option maxHeartbeats 2000000 in
theorem do_ar (w : World) (B pm : Nat) (rest : List Value) (T pc pl par : Nat) (op a b c n : Nat) (l : Lc) (s : Cm) (sv : Value) (hM : MacAt B w pm rest T s sv) (hC : CallAt K w pm sv pc pl par l) (hl : LcOk par slo l) (h3 : 3 ≤ op) (h9 : op ≤ 9) (ha : a < 8) (hb8 : b < 8) (hc8 : c < 8) :
  Calls Tryd.prog 107 #[.pointer (some ⟨pc, 0, none⟩), .agg #[.int .i64 (op : Int), .int .i64 (a : Int), .int .i64 (b : Int), .int .i64 (c : Int), .int .i64 (n : Int)]] w
   (DoPost K B pm rest T pc pl par ⟨op, a, b, c, n⟩ l s sv w) := by
 have hr := hl.regs
 have END := Lib.hid (fun w' (hb : Below w.heap.size w w') v hv => doPost_arith (n := n) (a := a) (b := b) (c := c) h3 h9 hM hC hb (by omega) (v := v) hv)
 have END0 := Lib.hid (fun w' (hb : Below w.heap.size w w') hv => doPost_arith0 (K := K) (l := l) (pc := pc) (pl := pl) (par := par) (n := n) (a := a) (b := b) (c := c) h3 h9 hM hb hv)
 have HK := Lib.hid (fun w' v hv => arith_same w' op (l.reg b) (l.reg c) v h3 h9 (hl.reg b) (hl.reg c) hv)
 have HS := Lib.hid (fun w' => stop_any w' 1)
 have HC := Lib.hid hC
 obtain ⟨r, hres⟩ : ∃ r, arithN op (l.reg b) (l.reg c) = r := ⟨_, rfl⟩
 have hV : arithV op (l.reg b) (l.reg c) = arithR r := by rw [arithV_eq, hres]
 have HK2 := Lib.hid (fun w' => HK.out w' _ hV)
 have HRES := Lib.hid hres
 have e1 : ((op : Int) == 1) = false := by simp; omega
 have e2 : ((op : Int) == 2) = false := by simp; omega
 have e10 : ((op : Int) == 10) = false := by simp; omega
 have e11 : ((op : Int) == 11) = false := by simp; omega
 have e12 : ((op : Int) == 12) = false := by simp; omega
 have e13 : ((op : Int) == 13) = false := by simp; omega
 have e15 : ((op : Int) == 15) = false := by simp; omega
 have e16 : ((op : Int) == 16) = false := by simp; omega
 have e17 : ((op : Int) == 17) = false := by simp; omega
 have e18 : ((op : Int) == 18) = false := by simp; omega
 have e19 : ((op : Int) == 19) = false := by simp; omega
 clear hC hM hV hres HK hl
 go_enter Tryd.func107, Tryd.ntmps107
 go_wp2_with (fail)
 generalize hw1 : w.alloc _ = w1
 have x0 := boxed0 hw1
 obtain ⟨hb1, x1, x2, x3, x4⟩ := boxed hw1
 obtain ⟨hreg, hm, hsl, hf⟩ := callCells (HC.out.below hb1) hr
 have a0 : (0 : Int) ≤ a := by omega
 have a1 : (a : Int) < 8 := by omega
 have b0 : (0 : Int) ≤ b := by omega
 have b1 : (b : Int) < 8 := by omega
 have c0 : (0 : Int) ≤ c := by omega
 have c1 : (c : Int) < 8 := by omega
 have ra : ∀ m, (w1.drewN m).cell? ⟨pc, 1 + a, none⟩ = some (.int .i64 (l.reg a : Int)) := fun _ => hreg a ha
 have rb : ∀ m, (w1.drewN m).cell? ⟨pc, 1 + b, none⟩ = some (.int .i64 (l.reg b : Int)) := fun _ => hreg b hb8
 have rc : ∀ m, (w1.drewN m).cell? ⟨pc, 1 + c, none⟩ = some (.int .i64 (l.reg c : Int)) := fun _ => hreg c hc8
 have rf : ∀ m, (w1.drewN m).frozen? ⟨pc, 1 + a, none⟩ = false := fun _ => hf (1 + a)
 have y0 : ∀ m, (w1.drewN m).cell? ⟨w.heap.size, 0, none⟩ = some (.int .i64 (op : Int)) := fun _ => x0
 have y1 : ∀ m, (w1.drewN m).cell? ⟨w.heap.size, 1, none⟩ = some (.int .i64 (a : Int)) := fun _ => x1
 have y2 : ∀ m, (w1.drewN m).cell? ⟨w.heap.size, 2, none⟩ = some (.int .i64 (b : Int)) := fun _ => x2
 have y3 : ∀ m, (w1.drewN m).cell? ⟨w.heap.size, 3, none⟩ = some (.int .i64 (c : Int)) := fun _ => x3
 have HB1 := Lib.hid hb1
 clear hreg hm hsl hf hb1 hw1 HC x0 x1 x2 x3 x4
 cases r with
 |none =>
  simp only [arithR] at HK2
  go_wp2_with (fail)
  go_quiet ((go_at_call 128; refine Calls.quiet_of_same (HK2.out _)))
  go_wp2_with (fail)
  go_at_call 127
  refine (HS.out _).mono ?_
  rintro e _ ⟨rfl, rfl⟩
  go_wp2_with (fail)
  exact ⟨rfl, END0.out _ (belowDr HB1.out _) HRES.out⟩
 |some v =>
  simp only [arithR] at HK2
  go_wp2_with (fail)
  go_quiet ((go_at_call 128; refine Calls.quiet_of_same (HK2.out _)))
  have HB2 := Lib.hid (belowDr HB1.out nq)
  have z1 := y1 nq
  have z2 : ∃ y, (w1.drewN nq).drew.cell? ⟨pc, 1 + a, none⟩ = some y := ⟨_, ra nq⟩
  have z3 : (w1.drewN nq).drew.frozen? ⟨pc, 1 + a, none⟩ = false := rf nq
  clear ra rb rc rf y0 y1 y2 y3
  go_wp2_with (fail)
  generalize w1.drewN nq = w2 at *
  go_still_tail 6, (by kernel_rfl)
  change wpList _ _ _ _ _ w2.drew
  have HD := Lib.hid HB2.out.drew
  generalize w2.drew = w3 at *
  obtain ⟨ty, z2⟩ := z2
  go_wp2_with (fail)
  go_end0
  exact END.out w3 HD.out v HRES.out
/-- all of them -/
theorem do_any (w : World) (B pm : Nat) (rest : List Value) (T pc pl par k : Nat) (x : Ni) (l : Lc) (s : Cm) (sv : Value) (hM : MacAt B w pm rest T s sv) (hC : CallAt K w pm sv pc pl par l) (hl : LcOk par slo l) (hs : CmOk s) (hx : NiOk k par slo x)
  (h14 : x.op ≠ 14) (h20 : x.op < 20) (hT : s.said.length ≤ 1000000) (hB : B ≤ w.heap.size) :
  Calls Tryd.prog 107 #[.pointer (some ⟨pc, 0, none⟩), x.mi.val] w (DoPost K B pm rest T pc pl par x l s sv w) := by
 obtain ⟨op, a, b, c, n⟩ := x
 have ha := hx.a; have hb := hx.b; have hc := hx.c; have ho := hx.op
 have hset := hx.set; have hslot := hx.slot; have hgive := hx.give; have hfetch := hx.fetch
 simp only [] at ha hb hc ho hset hslot hgive hfetch h14 h20
 show Calls Tryd.prog 107 #[.pointer (some ⟨pc, 0, none⟩), .agg #[.int .i64 (op : Int), .int .i64 (a : Int), .int .i64 (b : Int), .int .i64 (c : Int), .int .i64 (n : Int)]] w _
 have hcs : op = 1 ∨ op = 2 ∨ (3 ≤ op ∧ op ≤ 9) ∨ op = 10 ∨ op = 11 ∨ op = 12 ∨ op = 13 ∨ op = 15 ∨ op = 16 ∨ op = 17 ∨ op = 18 ∨ op = 19 := by omega
 rcases hcs with rfl | rfl | ⟨h3, h9⟩ | rfl | rfl | rfl | rfl | rfl | rfl | rfl | rfl | rfl
 ·exact do_1 w B pm rest T pc pl par a b c n l s sv hM hC hl hs ha hb
 ·exact do_2 w B pm rest T pc pl par a b c n l s sv hM hC hl hs ha hb
 ·exact do_ar w B pm rest T pc pl par op a b c n l s sv hM hC hl h3 h9 ha hb hc
 ·exact do_10 w B pm rest T pc pl par a b c n l s sv hM hC hl hs ha hb
 ·rcases Nat.lt_or_ge (l.reg b) 16 with h | h
  ·exact do_11 w B pm rest T pc pl par a b c n l s sv hM hC hl hs ha hb h
  ·exact do_11n w B pm rest T pc pl par a b c n l s sv hM hC hl hs ha hb h
 ·rcases Nat.lt_or_ge (l.reg a) 16 with h | h
  ·exact do_12 w B pm rest T pc pl par a b c n l s sv hM hC hl hs ha hb h
  ·exact do_12n w B pm rest T pc pl par a b c n l s sv hM hC hl hs ha hb h
 ·exact do_13 w B pm rest T pc pl par a b c n l s sv hM hC hl hs ha hb hT hB
 ·exact do_15 w B pm rest T pc pl par a b c n l s sv hM hC hl hs ha hb (hslot (.inl rfl))
 ·exact do_16 w B pm rest T pc pl par a b c n l s sv hM hC hl hs ha hb (hslot (.inr rfl))
 ·exact do_17 w B pm rest T pc pl par a b c n l s sv hM hC hl hs ha hb (hgive rfl)
 ·exact do_18 w B pm rest T pc pl par a b c n l s sv hM hC hl hs ha hb (hfetch rfl)
 ·exact do_19 w B pm rest T pc pl par a b c n l s sv hM hC hl hs ha hb
end Go.Proofs.YtbdbmmdnidonjaaDoor
