/- An instruction that goes on behind it: impl's do, those that call, store or say. -/
import Derived.Test.YtbdbmmdnidonjaaDoorDa
import Derived.Deep.RegionLaw
import Derived.BigRegion
set_option maxRecDepth 100000
namespace Go.Proofs.YtbdbmmdnidonjaaDoor
open Go.RowKit

section
variable {B pm : Nat} {rest : List Value} {T pc pl par : Nat} {x : Ni} {l : Lc} {s : Cm} {sv : Value} {w w' : World}
theorem doPost_slot (hM : MacAt B w pm rest T s sv) (hC : CallAt w pm sv pc pl par l) (hb : Below w.heap.size w w') {j v : Nat} (hp : plainOp x l s = .inl ({ l with slots := l.slots.set j v }, s)) :
    DoPost B pm rest T pc pl par x l s sv w (.returned (.tuple #[])) (w'.setCell ⟨pl, j, none⟩ (.int .i64 (v : Int))) := by
  unfold DoPost
  rw [hp]
  exact ⟨rfl, sv, (hM.below hb).other hC.lm hC.sl _, (hC.below hb).setSlot j v, (Fr.below hb).setIn (by simp) _⟩
theorem doPost_give (hM : MacAt B w pm rest T s sv) (hC : CallAt w pm sv pc pl par l) (hr : l.regs.length = 8) (hb : Below w.heap.size w w') {j v : Nat} (hj : j < l.gives.length) (hp : plainOp x l s = .inl ({ l with gives := l.gives.set j v }, s)) :
    DoPost B pm rest T pc pl par x l s sv w (.returned (.tuple #[])) (w'.setCell ⟨pc, 11 + j, none⟩ (.int .i64 (v : Int))) := by
  unfold DoPost
  rw [hp]
  exact ⟨rfl, sv, (hM.below hb).other hC.cm hC.sc _, (hC.below hb).setGive hr hj v, (Fr.below hb).setIn (by simp) _⟩
theorem doPost_cell (hM : MacAt B w pm rest T s sv) (hC : CallAt w pm sv pc pl par l) (hb : Below w.heap.size w w') {i v : Nat} (hi : i < s.cells.length) (hp : plainOp x l s = .inl (l, { s with cells := s.cells.set i v })) :
    DoPost B pm rest T pc pl par x l s sv w (.returned (.tuple #[])) (w'.setCell ⟨pm, 3 + i, none⟩ (.int .i64 (v : Int))) := by
  unfold DoPost
  rw [hp]
  exact ⟨rfl, sv, (hM.below hb).setCell hi v, (hC.below hb).other _ _, (Fr.below hb).setIn (by simp) _⟩
end

/-- what the machine's block shows -/
theorem macCells {B : Nat} {w : World} {pm : Nat} {rest : List Value} {T : Nat} {s : Cm} {sv : Value} (hM : MacAt B w pm rest T s sv) (hs : s.cells.length = 16) :
    (∀ i, i < 16 → w.cell? ⟨pm, 3 + i, none⟩ = some (.int .i64 ((s.cells.getD i 0 : Nat) : Int))) ∧ w.cell? ⟨pm, 0, none⟩ = some (.int .i64 (T : Int)) ∧ w.cell? ⟨pm, 1, none⟩ = some (.int .i64 ((T - s.left : Nat) : Int)) ∧
    w.cell? ⟨pm, 2, none⟩ = some sv ∧ (∀ j, w.frozen? ⟨pm, j, none⟩ = false) := by
  refine ⟨fun i hi => ?_, ?_, ?_, ?_, hM.blk.frozen⟩
  · rw [hM.blk.cell, mkMac_cell (by omega)]
  all_goals rw [hM.blk.cell]; rfl

theorem arith_same (w : World) (op a b : Nat) (v : Value) (h1 : 3 ≤ op) (h2 : op ≤ 9) (ha : a < 256) (hb : b < 256) (hv : arithV op a b = v) :
    Calls Tryd.prog 128 #[.int .i64 (op : Int), .int .i64 (a : Int), .int .i64 (b : Int)] w fun e w' => e = .returned v ∧ w' = w := by
  rw [← hv]
  exact (arith_any w op a b h1 h2 ha hb).mono fun _ _ h => ⟨h.1, h.2.symm⟩
theorem cell_same (w : World) (pm i : Nat) (hi : i < 16) :
    Calls Tryd.prog 129 #[.pointer (some ⟨pm, 0, none⟩), .int .i64 (i : Int)] w fun e w' => e = .returned (.pointer (some ⟨pm, 3 + i, none⟩)) ∧ w' = w :=
  (cell_yes w pm i hi).mono fun _ _ h => ⟨h.1, h.2.symm⟩

set_option maxHeartbeats 1000000 in
/-- not -/
theorem arith_not (w : World) (a v : Nat) (hv : v = if a = 0 then 1 else 0) :
    Calls Tryd.prog 128 #[.int .i64 11, .int .i64 (a : Int), .int .i64 0] w fun e w' => e = .returned (.tuple #[.int .i64 (v : Int), .bool true]) ∧ w' = w := by
  have HT := Lib.hid (fun w' p v hv => truth_named w' p v hv)
  have hv2 : v = if ((a : Int) == 0) = true then 1 else 0 := by
    rw [hv]; simp
  have HV := Lib.hid hv2
  clear hv hv2
  go_enter Tryd.func128, Tryd.ntmps128
  go_wp2_with (fail)
  refine (HT.out _ _ v HV.out).mono ?_
  rintro e _ ⟨rfl, rfl⟩
  go_wp2_with (fail)
  refine bodyPost_ret (v := .tuple #[.int .i64 (v : Int), .bool true]) (by simp [results, Tryd.results128, go_sem]) rfl ⟨rfl, rfl⟩

variable {slo : Nat}

set_option maxHeartbeats 2000000 in
theorem do_15 (w : World) (B pm : Nat) (rest : List Value) (T pc pl par : Nat) (a b c n : Nat) (l : Lc) (s : Cm) (sv : Value) (hM : MacAt B w pm rest T s sv) (hC : CallAt w pm sv pc pl par l) (hl : LcOk par slo l) (hs : CmOk s) (ha : a < 8) (hb8 : b < 8) (hn : n < slo) :
    Calls Tryd.prog 107 #[.pointer (some ⟨pc, 0, none⟩), .agg #[.int .i64 15, .int .i64 (a : Int), .int .i64 (b : Int), .int .i64 (c : Int), .int .i64 (n : Int)]] w
      (DoPost B pm rest T pc pl par ⟨15, a, b, c, n⟩ l s sv w) := by
  have hr := hl.regs
  have END := Lib.hid (fun w' (hb : Below w.heap.size w w') => doPost_slot (x := ⟨15, a, b, c, n⟩) (j := n) (v := l.reg a) hM hC hb rfl)
  have HC := Lib.hid hC
  have HM := Lib.hid hM
  have HL := Lib.hid hl
  have HS := Lib.hid hs
  clear hC hM hl hs
  go_enter Tryd.func107, Tryd.ntmps107
  go_wp2_with (fail)
  generalize hw1 : w.alloc _ = w1
  obtain ⟨hb1, x1, x2, x3, x4⟩ := boxed hw1
  obtain ⟨hreg, hm, hsl, hf⟩ := callCells (HC.out.below hb1) hr
  have a0 : (0 : Int) ≤ a := by omega
  have a1 : (a : Int) < 8 := by omega
  have b0 : (0 : Int) ≤ b := by omega
  have b1 : (b : Int) < 8 := by omega
  have ra := hreg a ha
  have rb := hreg b hb8
  have n0 : (0 : Int) ≤ n := by omega
  have n1 : (n : Int) < l.slots.length := by rw [HL.out.slots]; omega
  have hsc := callSlot (HC.out.below hb1) (show n < l.slots.length by rw [HL.out.slots]; exact hn)
  have hsf := (HC.out.below hb1).slots.frozen n
  have hsl' := hsl
  generalize l.slots.length = sz at *
  generalize l.slots.getD n 0 = z at *
  have ta : ∃ y, w1.drew.cell? ⟨pl, n, none⟩ = some y := ⟨_, hsc⟩
  have tf : w1.drew.frozen? ⟨pl, n, none⟩ = false := hsf
  have HB1 := Lib.hid hb1
  clear hreg hm hsl hf hb1 hw1 HC HM HL HS x3
  go_still_tail 13, (by kernel_rfl)
  change wpList _ _ _ _ _ w1.drew
  have HD := Lib.hid HB1.out.drew
  generalize w1.drew = w2 at *
  obtain ⟨ty, ta⟩ := ta
  go_wp2_with (fail)
  go_end0
  exact END.out w2 HD.out

set_option maxHeartbeats 2000000 in
theorem do_17 (w : World) (B pm : Nat) (rest : List Value) (T pc pl par : Nat) (a b c n : Nat) (l : Lc) (s : Cm) (sv : Value) (hM : MacAt B w pm rest T s sv) (hC : CallAt w pm sv pc pl par l) (hl : LcOk par slo l) (hs : CmOk s) (ha : a < 8) (hb8 : b < 8) (hn : n < 3) :
    Calls Tryd.prog 107 #[.pointer (some ⟨pc, 0, none⟩), .agg #[.int .i64 17, .int .i64 (a : Int), .int .i64 (b : Int), .int .i64 (c : Int), .int .i64 (n : Int)]] w
      (DoPost B pm rest T pc pl par ⟨17, a, b, c, n⟩ l s sv w) := by
  have hr := hl.regs
  have END := Lib.hid (fun w' (hb : Below w.heap.size w w') => doPost_give (x := ⟨17, a, b, c, n⟩) (j := n) (v := l.reg a) hM hC hl.regs hb (by rw [hl.gives]; omega) rfl)
  have HC := Lib.hid hC
  have HM := Lib.hid hM
  have HL := Lib.hid hl
  have HS := Lib.hid hs
  clear hC hM hl hs
  go_enter Tryd.func107, Tryd.ntmps107
  go_wp2_with (fail)
  generalize hw1 : w.alloc _ = w1
  obtain ⟨hb1, x1, x2, x3, x4⟩ := boxed hw1
  obtain ⟨hreg, hm, hsl, hf⟩ := callCells (HC.out.below hb1) hr
  have a0 : (0 : Int) ≤ a := by omega
  have a1 : (a : Int) < 8 := by omega
  have b0 : (0 : Int) ≤ b := by omega
  have b1 : (b : Int) < 8 := by omega
  have ra := hreg a ha
  have rb := hreg b hb8
  have n0 : (0 : Int) ≤ n := by omega
  have n1 : (n : Int) < 3 := by omega
  have hgv := callGive (HC.out.below hb1) hr (show n < l.gives.length by rw [HL.out.gives]; exact hn)
  have ta : ∃ y, w1.drew.cell? ⟨pc, 11 + n, none⟩ = some y := ⟨_, hgv⟩
  have tf : w1.drew.frozen? ⟨pc, 11 + n, none⟩ = false := hf (11 + n)
  have HB1 := Lib.hid hb1
  clear hreg hm hsl hf hb1 hw1 HC HM HL HS x3
  go_still_tail 12, (by kernel_rfl)
  change wpList _ _ _ _ _ w1.drew
  have HD := Lib.hid HB1.out.drew
  generalize w1.drew = w2 at *
  obtain ⟨ty, ta⟩ := ta
  go_wp2_with (fail)
  go_end0
  exact END.out w2 HD.out

set_option maxHeartbeats 2000000 in
theorem do_10 (w : World) (B pm : Nat) (rest : List Value) (T pc pl par : Nat) (a b c n : Nat) (l : Lc) (s : Cm) (sv : Value) (hM : MacAt B w pm rest T s sv) (hC : CallAt w pm sv pc pl par l) (hl : LcOk par slo l) (hs : CmOk s) (ha : a < 8) (hb8 : b < 8) :
    Calls Tryd.prog 107 #[.pointer (some ⟨pc, 0, none⟩), .agg #[.int .i64 10, .int .i64 (a : Int), .int .i64 (b : Int), .int .i64 (c : Int), .int .i64 (n : Int)]] w
      (DoPost B pm rest T pc pl par ⟨10, a, b, c, n⟩ l s sv w) := by
  have hr := hl.regs
  have END := Lib.hid (fun w' (hb : Below w.heap.size w w') => doPost_reg (x := ⟨10, a, b, c, n⟩) (a := a) (v := if l.reg b = 0 then 1 else 0) hM hC hb (by omega) rfl rfl)
  obtain ⟨v, hv⟩ : ∃ v : Nat, v = if l.reg b = 0 then 1 else 0 := ⟨_, rfl⟩
  rw [← hv] at END
  have HK := Lib.hid (fun w' => arith_not w' (l.reg b) v hv)
  clear hv
  have HC := Lib.hid hC
  have HM := Lib.hid hM
  have HL := Lib.hid hl
  have HS := Lib.hid hs
  clear hC hM hl hs
  go_enter Tryd.func107, Tryd.ntmps107
  go_wp2_with (fail)
  generalize hw1 : w.alloc _ = w1
  obtain ⟨hb1, x1, x2, x3, x4⟩ := boxed hw1
  obtain ⟨hreg, hm, hsl, hf⟩ := callCells (HC.out.below hb1) hr
  have a0 : (0 : Int) ≤ a := by omega
  have a1 : (a : Int) < 8 := by omega
  have b0 : (0 : Int) ≤ b := by omega
  have b1 : (b : Int) < 8 := by omega
  have ra := hreg a ha
  have rb := hreg b hb8
  have HB1 := Lib.hid hb1
  have hfa := hf (1 + a)
  have hpm := (callCells HC.out hr).2.1
  clear hreg hm hsl hf hb1 hw1 HC HM HL HS x3
  have hne : ¬ pc = w.heap.size := by have := World.block_lt_of_cell? _ _ hpm; simp only [] at this; omega
  have fa := hfa
  go_region_law (first | (go_simp; go_at_call 128; refine (HK.out _).mono ?_; rintro e w' ⟨rfl, rfl⟩))
  all_goals go_wp2_with (fail)
  all_goals go_end0
  all_goals exact END.out w1.drew HB1.out.drew

set_option maxHeartbeats 2000000 in
theorem do_11 (w : World) (B pm : Nat) (rest : List Value) (T pc pl par : Nat) (a b c n : Nat) (l : Lc) (s : Cm) (sv : Value) (hM : MacAt B w pm rest T s sv) (hC : CallAt w pm sv pc pl par l) (hl : LcOk par slo l) (hs : CmOk s) (ha : a < 8) (hb8 : b < 8) (hcell : l.reg b < 16) :
    Calls Tryd.prog 107 #[.pointer (some ⟨pc, 0, none⟩), .agg #[.int .i64 11, .int .i64 (a : Int), .int .i64 (b : Int), .int .i64 (c : Int), .int .i64 (n : Int)]] w
      (DoPost B pm rest T pc pl par ⟨11, a, b, c, n⟩ l s sv w) := by
  have hr := hl.regs
  have END := Lib.hid (fun w' (hb : Below w.heap.size w w') => doPost_reg (x := ⟨11, a, b, c, n⟩) (a := a) (v := s.cells.getD (l.reg b) 0) hM hC hb (by omega) (by unfold plainOp; simp; omega) rfl)
  have HK := Lib.hid (fun w' => cell_same w' pm (l.reg b) hcell)
  have HC := Lib.hid hC
  have HM := Lib.hid hM
  have HL := Lib.hid hl
  have HS := Lib.hid hs
  clear hC hM hl hs
  go_enter Tryd.func107, Tryd.ntmps107
  go_wp2_with (fail)
  generalize hw1 : w.alloc _ = w1
  obtain ⟨hb1, x1, x2, x3, x4⟩ := boxed hw1
  obtain ⟨hreg, hm, hsl, hf⟩ := callCells (HC.out.below hb1) hr
  have a0 : (0 : Int) ≤ a := by omega
  have a1 : (a : Int) < 8 := by omega
  have b0 : (0 : Int) ≤ b := by omega
  have b1 : (b : Int) < 8 := by omega
  have ra := hreg a ha
  have rb := hreg b hb8
  obtain ⟨hcl, _, _, _, _⟩ := macCells (HM.out.below hb1) HS.out.cells
  have hc1 := hcl _ hcell
  have hm2 := hm
  clear hcl
  have ta : ∃ y, w1.drew.cell? ⟨pc, 1 + a, none⟩ = some y := ⟨_, ra⟩
  have tf : w1.drew.frozen? ⟨pc, 1 + a, none⟩ = false := hf (1 + a)
  have HB1 := Lib.hid hb1
  clear hreg hm hsl hf hb1 hw1 HC HM HL HS x3
  go_still_tail 18, (by kernel_rfl)
  still_call (HK.out _)
  repeat still_step
  refine wpStill_nil ?_
  change wpList _ _ _ _ _ w1.drew
  have HD := Lib.hid HB1.out.drew
  generalize w1.drew = w2 at *
  obtain ⟨ty, ta⟩ := ta
  go_wp2_with (fail)
  go_end0
  exact END.out w2 HD.out

set_option maxHeartbeats 2000000 in
theorem do_12 (w : World) (B pm : Nat) (rest : List Value) (T pc pl par : Nat) (a b c n : Nat) (l : Lc) (s : Cm) (sv : Value) (hM : MacAt B w pm rest T s sv) (hC : CallAt w pm sv pc pl par l) (hl : LcOk par slo l) (hs : CmOk s) (ha : a < 8) (hb8 : b < 8) (hcell : l.reg a < 16) :
    Calls Tryd.prog 107 #[.pointer (some ⟨pc, 0, none⟩), .agg #[.int .i64 12, .int .i64 (a : Int), .int .i64 (b : Int), .int .i64 (c : Int), .int .i64 (n : Int)]] w
      (DoPost B pm rest T pc pl par ⟨12, a, b, c, n⟩ l s sv w) := by
  have hr := hl.regs
  have END := Lib.hid (fun w' (hb : Below w.heap.size w w') => doPost_cell (x := ⟨12, a, b, c, n⟩) (i := l.reg a) (v := l.reg b) hM hC hb (by rw [hs.cells]; exact hcell) (by unfold plainOp; simp; omega))
  have HK := Lib.hid (fun w' => cell_same w' pm (l.reg a) hcell)
  have HC := Lib.hid hC
  have HM := Lib.hid hM
  have HL := Lib.hid hl
  have HS := Lib.hid hs
  clear hC hM hl hs
  go_enter Tryd.func107, Tryd.ntmps107
  go_wp2_with (fail)
  generalize hw1 : w.alloc _ = w1
  obtain ⟨hb1, x1, x2, x3, x4⟩ := boxed hw1
  obtain ⟨hreg, hm, hsl, hf⟩ := callCells (HC.out.below hb1) hr
  have a0 : (0 : Int) ≤ a := by omega
  have a1 : (a : Int) < 8 := by omega
  have b0 : (0 : Int) ≤ b := by omega
  have b1 : (b : Int) < 8 := by omega
  have ra := hreg a ha
  have rb := hreg b hb8
  obtain ⟨hcl, _, _, _, hmf⟩ := macCells (HM.out.below hb1) HS.out.cells
  have hc1 := hcl _ hcell
  have hmf1 := hmf (3 + l.reg a)
  have hm2 := hm
  clear hcl hmf
  have ta : ∃ y, w1.drew.cell? ⟨pm, 3 + l.reg a, none⟩ = some y := ⟨_, hc1⟩
  have tf : w1.drew.frozen? ⟨pm, 3 + l.reg a, none⟩ = false := hmf1
  have HB1 := Lib.hid hb1
  clear hreg hm hsl hf hb1 hw1 HC HM HL HS x3
  go_still_tail 18, (by kernel_rfl)
  still_call (HK.out _)
  repeat still_step
  refine wpStill_nil ?_
  change wpList _ _ _ _ _ w1.drew
  have HD := Lib.hid HB1.out.drew
  generalize w1.drew = w2 at *
  obtain ⟨ty, ta⟩ := ta
  go_wp2_with (fail)
  go_end0
  exact END.out w2 HD.out

end Go.Proofs.YtbdbmmdnidonjaaDoor
