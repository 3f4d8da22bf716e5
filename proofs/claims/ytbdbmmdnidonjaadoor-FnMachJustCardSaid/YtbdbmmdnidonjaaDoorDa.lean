/- An instruction that goes on behind it: impl's do, those that set a register. -/
import Derived.Test.YtbdbmmdnidonjaaDoorSt
set_option maxRecDepth 100000
namespace Go.Proofs.YtbdbmmdnidonjaaDoor
open Go.RowKit

def DoPost (B pm : Nat) (rest : List Value) (T pc pl par : Nat) (x : Ni) (l : Lc) (s : Cm) (sv : Value) (w : World) (e : Ending) (w' : World) : Prop :=
  match plainOp x l s with
  | .inl (l2, s2) => e = .returned (.tuple #[]) ∧ ∃ sv', MacAt B w' pm rest T s2 sv' ∧ CallAt w' pm sv' pc pl par l2 ∧ Fr ([pm] ++ [pc, pl]) sv w sv' w'
  | .inr en => e = .panicked (endChain en) ∧ MacAt B w' pm rest T s sv ∧ Fr [pm] sv w sv w'

section
variable {B pm : Nat} {rest : List Value} {T pc pl par : Nat} {x : Ni} {l : Lc} {s : Cm} {sv : Value} {w w' : World}

theorem doPost_reg (hM : MacAt B w pm rest T s sv) (hC : CallAt w pm sv pc pl par l) (hb : Below w.heap.size w w') {a : Nat} (ha : a < l.regs.length) {v : Nat} (hp : plainOp x l s = .inl (l.put a v, s)) {u : Value} (hu : u = .int .i64 (v : Int)) :
    DoPost B pm rest T pc pl par x l s sv w (.returned (.tuple #[])) (w'.setCell ⟨pc, 1 + a, none⟩ u) := by
  unfold DoPost
  rw [hp]
  subst hu
  exact ⟨rfl, sv, (hM.below hb).other hC.cm hC.sc _, (hC.below hb).setReg ha v, (Fr.below hb).setIn (by simp) _⟩
theorem doPost_stop (hM : MacAt B w pm rest T s sv) (hb : Below w.heap.size w w') {en : Nat} (hp : plainOp x l s = .inr en) :
    DoPost B pm rest T pc pl par x l s sv w (.panicked (endChain en)) w' := by
  unfold DoPost
  rw [hp]
  exact ⟨rfl, hM.below hb, Fr.below hb⟩
end

/-- what the walk of an instruction looks at, in a world with new blocks -/
theorem callCells {w : World} {pm : Nat} {sv : Value} {pc pl par : Nat} {l : Lc} (hC : CallAt w pm sv pc pl par l) (hr : l.regs.length = 8) :
    (∀ a, a < 8 → w.cell? ⟨pc, 1 + a, none⟩ = some (.int .i64 ((l.reg a : Nat) : Int))) ∧ w.cell? ⟨pc, 0, none⟩ = some (.pointer (some ⟨pm, 0, none⟩)) ∧
    w.cell? ⟨pc, 9, none⟩ = some (.slice (some ⟨pl, 0, none⟩) l.slots.length l.slots.length) ∧ (∀ j, w.frozen? ⟨pc, j, none⟩ = false) := by
  obtain ⟨⟨inv, hb, hi⟩, hsl, h1, h2, h3, h4, h5⟩ := hC
  refine ⟨fun a ha => ?_, ?_, ?_, hb.frozen⟩
  · rw [hb.cell, mkCall_reg (by omega)]; rfl
  · rw [hb.cell]; rfl
  · rw [hb.cell, mkCall_slots hr]

theorem callRes {w : World} {pm : Nat} {sv : Value} {pc pl par : Nat} {l : Lc} (hC : CallAt w pm sv pc pl par l) (hr : l.regs.length = 8) (hg : l.gives.length = 3) : w.cell? ⟨pc, 14, none⟩ = some (.int .i64 (l.res : Int)) := by
  obtain ⟨⟨inv, hb, hi⟩, _⟩ := hC
  rw [hb.cell, mkCall_res hr hg]
theorem callGive {w : World} {pm : Nat} {sv : Value} {pc pl par : Nat} {l : Lc} (hC : CallAt w pm sv pc pl par l) (hr : l.regs.length = 8) {j : Nat} (hj : j < l.gives.length) : w.cell? ⟨pc, 11 + j, none⟩ = some (.int .i64 ((l.gives.getD j 0 : Nat) : Int)) := by
  obtain ⟨⟨inv, hb, hi⟩, _⟩ := hC
  rw [hb.cell, mkCall_give hr hj]
theorem callSlot {w : World} {pm : Nat} {sv : Value} {pc pl par : Nat} {l : Lc} (hC : CallAt w pm sv pc pl par l) {j : Nat} (hj : j < l.slots.length) : w.cell? ⟨pl, j, none⟩ = some (.int .i64 ((l.slots.getD j 0 : Nat) : Int)) := by
  rw [hC.slots.cell, nats_get hj]
theorem callIn {w : World} {pm : Nat} {sv : Value} {pc pl par : Nat} {l : Lc} (hC : CallAt w pm sv pc pl par l) (hr : l.regs.length = 8) (ha : par ≤ l.args.length) {j : Nat} (hj : j < par) :
    ∃ pi cap, w.cell? ⟨pc, 10, none⟩ = some (.slice (some ⟨pi, 0, none⟩) par cap) ∧ w.cell? ⟨pi, j, none⟩ = some (.int .i64 ((l.args.getD j 0 : Nat) : Int)) := by
  obtain ⟨⟨inv, hb, a, cap, hv, hi⟩, _⟩ := hC
  have hlen : (l.args.take par).length = par := by simp; omega
  rcases hi with hi | ⟨pi, rest, ha2, hbi, _⟩
  · rw [hi] at hlen; simp at hlen; omega
  · refine ⟨pi, cap, ?_, ?_⟩
    · rw [hb.cell, mkCall_in hr, hv, ha2, hlen]
    · rw [hbi.cell, List.getElem?_append_left (by rw [nats_len]; omega), nats_get (by omega)]
      simp [List.getD_eq_getElem?_getD, hj]

/-- the world in which the instruction lies boxed -/
theorem boxed {w w1 : World} {v0 v1 v2 v3 v4 : Value} {t : TypeId} (h : w.alloc (.cells #[v0, v1, v2, v3, v4] t) = w1) :
    Below w.heap.size w w1 ∧ w1.cell? ⟨w.heap.size, 1, none⟩ = some v1 ∧ w1.cell? ⟨w.heap.size, 2, none⟩ = some v2 ∧ w1.cell? ⟨w.heap.size, 3, none⟩ = some v3 ∧ w1.cell? ⟨w.heap.size, 4, none⟩ = some v4 := by
  subst h
  have hB := Blk.new w #[v0, v1, v2, v3, v4] t
  refine ⟨below1 _ _, ?_, ?_, ?_, ?_⟩
  all_goals rw [hB.cell]; rfl

variable {slo : Nat}

variable {slo : Nat}

variable {slo : Nat}

variable {slo : Nat}

variable {slo : Nat}

variable {slo : Nat}

variable {slo : Nat}

variable {slo : Nat}

variable {slo : Nat}

variable {slo : Nat}

variable {slo : Nat}

variable {slo : Nat}

variable {slo : Nat}

variable {slo : Nat}

variable {slo : Nat}

set_option maxHeartbeats 2000000 in
theorem do_1 (w : World) (B pm : Nat) (rest : List Value) (T pc pl par : Nat) (a b c n : Nat) (l : Lc) (s : Cm) (sv : Value) (hM : MacAt B w pm rest T s sv) (hC : CallAt w pm sv pc pl par l) (hl : LcOk par slo l) (hs : CmOk s) (ha : a < 8) (hb8 : b < 8) :
    Calls Tryd.prog 107 #[.pointer (some ⟨pc, 0, none⟩), .agg #[.int .i64 1, .int .i64 (a : Int), .int .i64 (b : Int), .int .i64 (c : Int), .int .i64 (n : Int)]] w
      (DoPost B pm rest T pc pl par ⟨1, a, b, c, n⟩ l s sv w) := by
  have hr := hl.regs
  have END := Lib.hid (fun w' (hb : Below w.heap.size w w') => doPost_reg (x := ⟨1, a, b, c, n⟩) (a := a) (v := n) hM hC hb (by omega) rfl rfl)
  have HC := Lib.hid hC
  have HM := Lib.hid hM
  have HL := Lib.hid hl
  have HS := Lib.hid hs
  clear hC hM hl hs
  go_enter Tryd.func107, Tryd.ntmps107
  go_wp2_with (fail)
  generalize hw1 : w.alloc _ = w1
  obtain ⟨hb1, x1, x2, x3, x4⟩ := boxed hw1
  obtain ⟨hreg, hm, hsl, hf⟩ := callCells (HC.out.below hb1) hr
  have a0 : (0 : Int) ≤ a := by omega
  have a1 : (a : Int) < 8 := by omega
  have b0 : (0 : Int) ≤ b := by omega
  have b1 : (b : Int) < 8 := by omega
  have ra := hreg a ha
  have rb := hreg b hb8
  have ta : ∃ y, w1.drew.cell? ⟨pc, 1 + a, none⟩ = some y := ⟨_, ra⟩
  have tf : w1.drew.frozen? ⟨pc, 1 + a, none⟩ = false := hf (1 + a)
  have HB1 := Lib.hid hb1
  clear hreg hm hsl hf hb1 hw1 HC HM HL HS x3
  go_still_tail 7, (by kernel_rfl)
  change wpList _ _ _ _ _ w1.drew
  have HD := Lib.hid HB1.out.drew
  generalize w1.drew = w2 at *
  obtain ⟨ty, ta⟩ := ta
  go_wp2_with (fail)
  go_end0
  exact END.out w2 HD.out

set_option maxHeartbeats 2000000 in
theorem do_2 (w : World) (B pm : Nat) (rest : List Value) (T pc pl par : Nat) (a b c n : Nat) (l : Lc) (s : Cm) (sv : Value) (hM : MacAt B w pm rest T s sv) (hC : CallAt w pm sv pc pl par l) (hl : LcOk par slo l) (hs : CmOk s) (ha : a < 8) (hb8 : b < 8) :
    Calls Tryd.prog 107 #[.pointer (some ⟨pc, 0, none⟩), .agg #[.int .i64 2, .int .i64 (a : Int), .int .i64 (b : Int), .int .i64 (c : Int), .int .i64 (n : Int)]] w
      (DoPost B pm rest T pc pl par ⟨2, a, b, c, n⟩ l s sv w) := by
  have hr := hl.regs
  have END := Lib.hid (fun w' (hb : Below w.heap.size w w') => doPost_reg (x := ⟨2, a, b, c, n⟩) (a := a) (v := l.reg b) hM hC hb (by omega) rfl rfl)
  have HC := Lib.hid hC
  have HM := Lib.hid hM
  have HL := Lib.hid hl
  have HS := Lib.hid hs
  clear hC hM hl hs
  go_enter Tryd.func107, Tryd.ntmps107
  go_wp2_with (fail)
  generalize hw1 : w.alloc _ = w1
  obtain ⟨hb1, x1, x2, x3, x4⟩ := boxed hw1
  obtain ⟨hreg, hm, hsl, hf⟩ := callCells (HC.out.below hb1) hr
  have a0 : (0 : Int) ≤ a := by omega
  have a1 : (a : Int) < 8 := by omega
  have b0 : (0 : Int) ≤ b := by omega
  have b1 : (b : Int) < 8 := by omega
  have ra := hreg a ha
  have rb := hreg b hb8
  have ta : ∃ y, w1.drew.cell? ⟨pc, 1 + a, none⟩ = some y := ⟨_, ra⟩
  have tf : w1.drew.frozen? ⟨pc, 1 + a, none⟩ = false := hf (1 + a)
  have HB1 := Lib.hid hb1
  clear hreg hm hsl hf hb1 hw1 HC HM HL HS x3
  go_still_tail 11, (by kernel_rfl)
  change wpList _ _ _ _ _ w1.drew
  have HD := Lib.hid HB1.out.drew
  generalize w1.drew = w2 at *
  obtain ⟨ty, ta⟩ := ta
  go_wp2_with (fail)
  go_end0
  exact END.out w2 HD.out

set_option maxHeartbeats 2000000 in
theorem do_19 (w : World) (B pm : Nat) (rest : List Value) (T pc pl par : Nat) (a b c n : Nat) (l : Lc) (s : Cm) (sv : Value) (hM : MacAt B w pm rest T s sv) (hC : CallAt w pm sv pc pl par l) (hl : LcOk par slo l) (hs : CmOk s) (ha : a < 8) (hb8 : b < 8) :
    Calls Tryd.prog 107 #[.pointer (some ⟨pc, 0, none⟩), .agg #[.int .i64 19, .int .i64 (a : Int), .int .i64 (b : Int), .int .i64 (c : Int), .int .i64 (n : Int)]] w
      (DoPost B pm rest T pc pl par ⟨19, a, b, c, n⟩ l s sv w) := by
  have hr := hl.regs
  have END := Lib.hid (fun w' (hb : Below w.heap.size w w') => doPost_reg (x := ⟨19, a, b, c, n⟩) (a := a) (v := l.res) hM hC hb (by omega) rfl rfl)
  have HC := Lib.hid hC
  have HM := Lib.hid hM
  have HL := Lib.hid hl
  have HS := Lib.hid hs
  clear hC hM hl hs
  go_enter Tryd.func107, Tryd.ntmps107
  go_wp2_with (fail)
  generalize hw1 : w.alloc _ = w1
  obtain ⟨hb1, x1, x2, x3, x4⟩ := boxed hw1
  obtain ⟨hreg, hm, hsl, hf⟩ := callCells (HC.out.below hb1) hr
  have a0 : (0 : Int) ≤ a := by omega
  have a1 : (a : Int) < 8 := by omega
  have b0 : (0 : Int) ≤ b := by omega
  have b1 : (b : Int) < 8 := by omega
  have ra := hreg a ha
  have rb := hreg b hb8
  have hres := callRes (HC.out.below hb1) hr HL.out.gives
  have ta : ∃ y, w1.drew.cell? ⟨pc, 1 + a, none⟩ = some y := ⟨_, ra⟩
  have tf : w1.drew.frozen? ⟨pc, 1 + a, none⟩ = false := hf (1 + a)
  have HB1 := Lib.hid hb1
  clear hreg hm hsl hf hb1 hw1 HC HM HL HS x3
  go_still_tail 9, (by kernel_rfl)
  change wpList _ _ _ _ _ w1.drew
  have HD := Lib.hid HB1.out.drew
  generalize w1.drew = w2 at *
  obtain ⟨ty, ta⟩ := ta
  go_wp2_with (fail)
  go_end0
  exact END.out w2 HD.out

set_option maxHeartbeats 2000000 in
theorem do_16 (w : World) (B pm : Nat) (rest : List Value) (T pc pl par : Nat) (a b c n : Nat) (l : Lc) (s : Cm) (sv : Value) (hM : MacAt B w pm rest T s sv) (hC : CallAt w pm sv pc pl par l) (hl : LcOk par slo l) (hs : CmOk s) (ha : a < 8) (hb8 : b < 8) (hn : n < slo) :
    Calls Tryd.prog 107 #[.pointer (some ⟨pc, 0, none⟩), .agg #[.int .i64 16, .int .i64 (a : Int), .int .i64 (b : Int), .int .i64 (c : Int), .int .i64 (n : Int)]] w
      (DoPost B pm rest T pc pl par ⟨16, a, b, c, n⟩ l s sv w) := by
  have hr := hl.regs
  have END := Lib.hid (fun w' (hb : Below w.heap.size w w') => doPost_reg (x := ⟨16, a, b, c, n⟩) (a := a) (v := l.slots.getD n 0) hM hC hb (by omega) rfl rfl)
  have HC := Lib.hid hC
  have HM := Lib.hid hM
  have HL := Lib.hid hl
  have HS := Lib.hid hs
  clear hC hM hl hs
  go_enter Tryd.func107, Tryd.ntmps107
  go_wp2_with (fail)
  generalize hw1 : w.alloc _ = w1
  obtain ⟨hb1, x1, x2, x3, x4⟩ := boxed hw1
  obtain ⟨hreg, hm, hsl, hf⟩ := callCells (HC.out.below hb1) hr
  have a0 : (0 : Int) ≤ a := by omega
  have a1 : (a : Int) < 8 := by omega
  have b0 : (0 : Int) ≤ b := by omega
  have b1 : (b : Int) < 8 := by omega
  have ra := hreg a ha
  have rb := hreg b hb8
  have n0 : (0 : Int) ≤ n := by omega
  have n1 : (n : Int) < l.slots.length := by rw [HL.out.slots]; omega
  have hsc := callSlot (HC.out.below hb1) (show n < l.slots.length by rw [HL.out.slots]; exact hn)
  have hsl' := hsl
  generalize l.slots.length = sz at *
  generalize l.slots.getD n 0 = z at *
  have ta : ∃ y, w1.drew.cell? ⟨pc, 1 + a, none⟩ = some y := ⟨_, ra⟩
  have tf : w1.drew.frozen? ⟨pc, 1 + a, none⟩ = false := hf (1 + a)
  have HB1 := Lib.hid hb1
  clear hreg hm hsl hf hb1 hw1 HC HM HL HS x3
  go_still_tail 13, (by kernel_rfl)
  change wpList _ _ _ _ _ w1.drew
  have HD := Lib.hid HB1.out.drew
  generalize w1.drew = w2 at *
  obtain ⟨ty, ta⟩ := ta
  go_wp2_with (fail)
  go_end0
  exact END.out w2 HD.out

set_option maxHeartbeats 2000000 in
theorem do_18 (w : World) (B pm : Nat) (rest : List Value) (T pc pl par : Nat) (a b c n : Nat) (l : Lc) (s : Cm) (sv : Value) (hM : MacAt B w pm rest T s sv) (hC : CallAt w pm sv pc pl par l) (hl : LcOk par slo l) (hs : CmOk s) (ha : a < 8) (hb8 : b < 8) (hn : n < par) :
    Calls Tryd.prog 107 #[.pointer (some ⟨pc, 0, none⟩), .agg #[.int .i64 18, .int .i64 (a : Int), .int .i64 (b : Int), .int .i64 (c : Int), .int .i64 (n : Int)]] w
      (DoPost B pm rest T pc pl par ⟨18, a, b, c, n⟩ l s sv w) := by
  have hr := hl.regs
  have END := Lib.hid (fun w' (hb : Below w.heap.size w w') => doPost_reg (x := ⟨18, a, b, c, n⟩) (a := a) (v := l.args.getD n 0) hM hC hb (by omega) rfl rfl)
  have HC := Lib.hid hC
  have HM := Lib.hid hM
  have HL := Lib.hid hl
  have HS := Lib.hid hs
  clear hC hM hl hs
  go_enter Tryd.func107, Tryd.ntmps107
  go_wp2_with (fail)
  generalize hw1 : w.alloc _ = w1
  obtain ⟨hb1, x1, x2, x3, x4⟩ := boxed hw1
  obtain ⟨hreg, hm, hsl, hf⟩ := callCells (HC.out.below hb1) hr
  have a0 : (0 : Int) ≤ a := by omega
  have a1 : (a : Int) < 8 := by omega
  have b0 : (0 : Int) ≤ b := by omega
  have b1 : (b : Int) < 8 := by omega
  have ra := hreg a ha
  have rb := hreg b hb8
  have n0 : (0 : Int) ≤ n := by omega
  obtain ⟨pi, icap, hin, hic⟩ := callIn (HC.out.below hb1) hr HL.out.args hn
  have n1 : (n : Int) < par := by omega
  generalize l.args.getD n 0 = z at *
  have ta : ∃ y, w1.drew.cell? ⟨pc, 1 + a, none⟩ = some y := ⟨_, ra⟩
  have tf : w1.drew.frozen? ⟨pc, 1 + a, none⟩ = false := hf (1 + a)
  have HB1 := Lib.hid hb1
  clear hreg hm hsl hf hb1 hw1 HC HM HL HS x3
  go_still_tail 13, (by kernel_rfl)
  change wpList _ _ _ _ _ w1.drew
  have HD := Lib.hid HB1.out.drew
  generalize w1.drew = w2 at *
  obtain ⟨ty, ta⟩ := ta
  go_wp2_with (fail)
  go_end0
  exact END.out w2 HD.out

end Go.Proofs.YtbdbmmdnidonjaaDoor
