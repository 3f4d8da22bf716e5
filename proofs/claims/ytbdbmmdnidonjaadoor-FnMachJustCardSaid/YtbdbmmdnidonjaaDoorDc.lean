/- An instruction that goes on behind it: impl's do: stops, say, arithmetic; and all of them. -/
import Derived.Test.YtbdbmmdnidonjaaDoorDb
import Derived.Test.YtbdbmmdnidonjaaDoorRg
import Derived.Deep.AppendLies
set_option maxRecDepth 100000
namespace Go.Proofs.YtbdbmmdnidonjaaDoor
open Go.RowKit

variable {slo : Nat}

theorem doPost_say {B pm : Nat} {rest : List Value} {T pc pl par : Nat} {x : Ni} {l : Lc} {s : Cm} {sv : Value} {w wa w' : World} (hM : MacAt B w pm rest T s sv) (hC : CallAt w pm sv pc pl par l) (hb : Below w.heap.size w wa)
    {g cap v : Nat} (hown : w'.ownsRow B 3 1 (.slice (some ⟨g, 0, none⟩) (s.said.length + 1) cap) (s.said.length + 1) (nats s.said ++ [.int .i64 (v : Int)])) (hg : wa.grownBy w' sv.ownBlock) (hat : sv.ownBlock = some g ∨ w.heap.size ≤ g)
    (hp : plainOp x l s = .inl (l, { s with said := s.said ++ [v] })) :
    DoPost B pm rest T pc pl par x l s sv w (.returned (.tuple #[])) (w'.setCell ⟨pm, 2, none⟩ (.slice (some ⟨g, 0, none⟩) (s.said.length + 1) cap)) := by
  have hlt := hM.blk.lt
  have hgp : g ≠ pm := by
    rcases hat with h | h
    · intro e; exact hM.sep (by rw [h, e])
    · omega
  have hfr : Fr [pm] sv w (.slice (some ⟨g, 0, none⟩) (s.said.length + 1) cap) (w'.setCell ⟨pm, 2, none⟩ (.slice (some ⟨g, 0, none⟩) (s.said.length + 1) cap)) := by
    refine ⟨?_, ?_⟩
    · refine Only.setCell ?_ (by simp) _
      refine (Only.of_below hb _).trans ?_
      refine ⟨hg.os, hg.tape, hg.output, hg.size, fun k hk hn => hg.block k hk (fun e => hn (List.mem_append_right _ (by rw [← e]; simp)))⟩
    · rcases hat with h | h
      · exact .inl (by rw [h]; rfl)
      · exact .inr fun k hk => by simp [Value.ownBlock] at hk; omega
  unfold DoPost
  rw [hp]
  refine ⟨rfl, _, ⟨?_, ?_, ?_, hM.left, hM.ge⟩, hC.keep hfr, hfr.mono (fun x hx => List.mem_append_left _ hx)⟩
  · rw [← mkMac_said]
    exact ((hM.blk.below hb).grown hg hM.sep).set 2 _
  · show Said _ _ _ (s.said ++ [v])
    unfold Said
    rw [List.length_append, List.length_singleton, show nats (s.said ++ [v]) = nats s.said ++ [.int .i64 (v : Int)] by simp [nats]]
    exact ownsRow_same hown (fun k hk => Below.heap_setCell _ _ _ _ (by simp [Value.ownBlock] at hk; simp only []; omega))
  · intro e; injection e with e; exact hgp e

/-- blocks that stood at w, but for the said row's, are as they were -/
def Keep (w : World) (sv : Value) (W : World) : Prop := w.heap.size ≤ W.heap.size ∧ ∀ q, q < w.heap.size → sv.ownBlock ≠ some q → W.heap[q]? = w.heap[q]?
theorem Keep.cell {w : World} {sv : Value} {W : World} (h : Keep w sv W) {b j : Nat} {v : Value} (hv : w.cell? ⟨b, j, none⟩ = some v) (hs : sv.ownBlock ≠ some b) : W.cell? ⟨b, j, none⟩ = some v :=
  (World.cell?_of_block (a := ⟨b, j, none⟩) (h.2 b (World.block_lt_of_cell? _ _ hv) hs)).trans hv
theorem Keep.frozen {w : World} {sv : Value} {W : World} (h : Keep w sv W) {b j : Nat} {f : Bool} (hv : w.frozen? ⟨b, j, none⟩ = f) (hlt : b < w.heap.size) (hs : sv.ownBlock ≠ some b) : W.frozen? ⟨b, j, none⟩ = f :=
  (World.frozen?_of_block (a := ⟨b, j, none⟩) (h.2 b hlt hs)).trans hv
theorem Keep.refl (w : World) (sv : Value) : Keep w sv w := ⟨Nat.le_refl _, fun _ _ _ => rfl⟩
theorem Keep.drew {w : World} {sv : Value} {W : World} (h : Keep w sv W) : Keep w sv W.drew := h
theorem Keep.alloc {w : World} {sv : Value} {W : World} (h : Keep w sv W) (o : Obj) : Keep w sv (W.alloc o) :=
  ⟨by have := h.1; simp; omega, fun q hq hs => by rw [Below.heap_alloc _ _ _ (by have := h.1; omega)]; exact h.2 q hq hs⟩
theorem Keep.grown {w : World} {sv : Value} {W W' : World} (h : Keep w sv W) (hg : W.grownBy W' sv.ownBlock) : Keep w sv W' :=
  ⟨Nat.le_trans h.1 hg.size, fun q hq hs => by rw [hg.block q (by have := h.1; omega) (fun e => hs e.symm)]; exact h.2 q hq hs⟩

theorem doPost_arith {B pm : Nat} {rest : List Value} {T pc pl par : Nat} {l : Lc} {s : Cm} {sv : Value} {w w' : World} {op a b c n : Nat} (h3 : 3 ≤ op) (h9 : op ≤ 9) (hM : MacAt B w pm rest T s sv) (hC : CallAt w pm sv pc pl par l) (hb : Below w.heap.size w w') (ha : a < l.regs.length) {v : Nat} (hv : arithN op (l.reg b) (l.reg c) = some v) :
    DoPost B pm rest T pc pl par ⟨op, a, b, c, n⟩ l s sv w (.returned (.tuple #[])) (w'.setCell ⟨pc, 1 + a, none⟩ (.int .i64 (v : Int))) := by
  refine doPost_reg hM hC hb ha ?_ rfl
  unfold plainOp
  simp only [hv]
  repeat rw [if_neg (by omega)]
theorem doPost_arith0 {B pm : Nat} {rest : List Value} {T pc pl par : Nat} {l : Lc} {s : Cm} {sv : Value} {w w' : World} {op a b c n : Nat} (h3 : 3 ≤ op) (h9 : op ≤ 9) (hM : MacAt B w pm rest T s sv) (hb : Below w.heap.size w w') (hv : arithN op (l.reg b) (l.reg c) = none) :
    DoPost B pm rest T pc pl par ⟨op, a, b, c, n⟩ l s sv w (.panicked (endChain 1)) w' := by
  refine doPost_stop hM hb ?_
  unfold plainOp
  simp only [hv]
  repeat rw [if_neg (by omega)]

set_option maxHeartbeats 2000000 in
theorem do_11n (w : World) (B pm : Nat) (rest : List Value) (T pc pl par : Nat) (a b c n : Nat) (l : Lc) (s : Cm) (sv : Value) (hM : MacAt B w pm rest T s sv) (hC : CallAt w pm sv pc pl par l) (hl : LcOk par slo l) (hs : CmOk s) (ha : a < 8) (hb8 : b < 8) (hcell : 16 ≤ l.reg b) :
    Calls Tryd.prog 107 #[.pointer (some ⟨pc, 0, none⟩), .agg #[.int .i64 11, .int .i64 (a : Int), .int .i64 (b : Int), .int .i64 (c : Int), .int .i64 (n : Int)]] w
      (DoPost B pm rest T pc pl par ⟨11, a, b, c, n⟩ l s sv w) := by
  have hr := hl.regs
  have END := Lib.hid (fun w' (hb : Below w.heap.size w w') => doPost_stop (pc := pc) (pl := pl) (par := par) (x := ⟨11, a, b, c, n⟩) hM hb (en := 2) (by unfold plainOp; simp; omega))
  have HK := Lib.hid (fun w' => cell_no w' pm (l.reg b) hcell)
  have HC := Lib.hid hC
  have HM := Lib.hid hM
  have HL := Lib.hid hl
  have HS := Lib.hid hs
  clear hC hM hl hs
  go_enter Tryd.func107, Tryd.ntmps107
  go_wp2_with (fail)
  generalize hw1 : w.alloc _ = w1
  obtain ⟨hb1, x1, x2, x3, x4⟩ := boxed hw1
  obtain ⟨hreg, hm, hsl, hf⟩ := callCells (HC.out.below hb1) hr
  have a0 : (0 : Int) ≤ a := by omega
  have a1 : (a : Int) < 8 := by omega
  have b0 : (0 : Int) ≤ b := by omega
  have b1 : (b : Int) < 8 := by omega
  have ra := hreg a ha
  have rb := hreg b hb8
  have hpc0 := hm
  have hsc := HC.out.sc
  have hsx : sv.ownBlock ≠ some w.heap.size := fun e => by have := (HM.out.said.lt e).2; omega
  have HKC : Hid (∀ W, Keep w1 sv W → W.cell? ⟨pc, 0, none⟩ = some (.pointer (some ⟨pm, 0, none⟩)) ∧ W.cell? ⟨w.heap.size, 1, none⟩ = some (.int .i64 (a : Int)) ∧ W.cell? ⟨w.heap.size, 2, none⟩ = some (.int .i64 (b : Int)) ∧ W.cell? ⟨pc, 1 + a, none⟩ = some (.int .i64 (l.reg a : Int)) ∧ W.cell? ⟨pc, 1 + b, none⟩ = some (.int .i64 (l.reg b : Int))) :=
    Lib.hid fun W hk => ⟨hk.cell hpc0 hsc, hk.cell x1 hsx, hk.cell x2 hsx, hk.cell ra hsc, hk.cell rb hsc⟩
  have HB1 := Lib.hid hb1
  clear hreg hm hsl hf hb1 hw1 HC HM HL HS x3
  refine wp_region_held (Keep w1 sv) [(0, false), (1, false), (2, true), (3, false), (4, false), (5, false), (6, true), (7, false), (8, false), (9, true), (10, false), (11, false), (12, true), (16, false)] [13, 14, 15, 17, 18] 18 (by kernel_rfl) (by kernel_rfl) (fun d v c a w h => by cases d <;> exact h) (Keep.refl w1 sv) ?_
  simp only [pickO, List.map_cons, List.map_nil, List.getD_cons_zero, List.getD_cons_succ]
  refine heldO_stepY (v := ?_) rfl ?_ ?_
  rotate_left
  · intro W
    go_simp
    try rfl
  simp only [Act.put, List.setIfInBounds_toArray, List.set_cons_zero, List.set_cons_succ]
  refine heldO_stepY (v := ?_) rfl ?_ ?_
  rotate_left
  · intro W
    go_simp
    try rfl
  simp only [Act.put, List.setIfInBounds_toArray, List.set_cons_zero, List.set_cons_succ]
  refine heldO_step (v := ?_) rfl ?_ ?_
  rotate_left
  · intro W hS
    obtain ⟨k1, k2, k3, k4, k5⟩ := HKC.out W hS
    go_simp
    try rfl
  simp only [Act.put, List.setIfInBounds_toArray, List.set_cons_zero, List.set_cons_succ]
  refine heldO_stepY (v := ?_) rfl ?_ ?_
  rotate_left
  · intro W
    go_simp
    try rfl
  simp only [Act.put, List.setIfInBounds_toArray, List.set_cons_zero, List.set_cons_succ]
  refine heldO_stepY (v := ?_) rfl ?_ ?_
  rotate_left
  · intro W
    go_simp
    try rfl
  simp only [Act.put, List.setIfInBounds_toArray, List.set_cons_zero, List.set_cons_succ]
  refine heldO_stepY (v := ?_) rfl ?_ ?_
  rotate_left
  · intro W
    go_simp
    try rfl
  simp only [Act.put, List.setIfInBounds_toArray, List.set_cons_zero, List.set_cons_succ]
  refine heldO_step (v := ?_) rfl ?_ ?_
  rotate_left
  · intro W hS
    obtain ⟨k1, k2, k3, k4, k5⟩ := HKC.out W hS
    go_simp
    try rfl
  simp only [Act.put, List.setIfInBounds_toArray, List.set_cons_zero, List.set_cons_succ]
  refine heldO_stepY (v := ?_) rfl ?_ ?_
  rotate_left
  · intro W
    go_simp
    try rfl
  simp only [Act.put, List.setIfInBounds_toArray, List.set_cons_zero, List.set_cons_succ]
  refine heldO_stepY (v := ?_) rfl ?_ ?_
  rotate_left
  · intro W
    go_simp
    try rfl
  simp only [Act.put, List.setIfInBounds_toArray, List.set_cons_zero, List.set_cons_succ]
  refine heldO_step (v := ?_) rfl ?_ ?_
  rotate_left
  · intro W hS
    obtain ⟨k1, k2, k3, k4, k5⟩ := HKC.out W hS
    go_simp
    try rfl
  simp only [Act.put, List.setIfInBounds_toArray, List.set_cons_zero, List.set_cons_succ]
  refine heldO_stepY (v := ?_) rfl ?_ ?_
  rotate_left
  · intro W
    go_simp
    try rfl
  simp only [Act.put, List.setIfInBounds_toArray, List.set_cons_zero, List.set_cons_succ]
  refine heldO_stepY (v := ?_) rfl ?_ ?_
  rotate_left
  · intro W
    go_simp
    try rfl
  simp only [Act.put, List.setIfInBounds_toArray, List.set_cons_zero, List.set_cons_succ]
  refine heldO_step (v := ?_) rfl ?_ ?_
  rotate_left
  · intro W hS
    obtain ⟨k1, k2, k3, k4, k5⟩ := HKC.out W hS
    go_simp
    try rfl
  simp only [Act.put, List.setIfInBounds_toArray, List.set_cons_zero, List.set_cons_succ]
  refine heldO_stepY (v := ?_) rfl ?_ ?_
  rotate_left
  · intro W
    go_simp
    try rfl
  simp only [Act.put, List.setIfInBounds_toArray, List.set_cons_zero, List.set_cons_succ]
  refine heldO_nil ?_
  refine tailO_step rfl (fun K hK => ?_)
  go_simp
  refine (HK.out _).mono ?_
  rintro e w' ⟨rfl, rfl⟩
  exact ⟨rfl, END.out _ HB1.out.drew⟩

set_option maxHeartbeats 2000000 in
theorem do_12n (w : World) (B pm : Nat) (rest : List Value) (T pc pl par : Nat) (a b c n : Nat) (l : Lc) (s : Cm) (sv : Value) (hM : MacAt B w pm rest T s sv) (hC : CallAt w pm sv pc pl par l) (hl : LcOk par slo l) (hs : CmOk s) (ha : a < 8) (hb8 : b < 8) (hcell : 16 ≤ l.reg a) :
    Calls Tryd.prog 107 #[.pointer (some ⟨pc, 0, none⟩), .agg #[.int .i64 12, .int .i64 (a : Int), .int .i64 (b : Int), .int .i64 (c : Int), .int .i64 (n : Int)]] w
      (DoPost B pm rest T pc pl par ⟨12, a, b, c, n⟩ l s sv w) := by
  have hr := hl.regs
  have END := Lib.hid (fun w' (hb : Below w.heap.size w w') => doPost_stop (pc := pc) (pl := pl) (par := par) (x := ⟨12, a, b, c, n⟩) hM hb (en := 2) (by unfold plainOp; simp; omega))
  have HK := Lib.hid (fun w' => cell_no w' pm (l.reg a) hcell)
  have HC := Lib.hid hC
  have HM := Lib.hid hM
  have HL := Lib.hid hl
  have HS := Lib.hid hs
  clear hC hM hl hs
  go_enter Tryd.func107, Tryd.ntmps107
  go_wp2_with (fail)
  generalize hw1 : w.alloc _ = w1
  obtain ⟨hb1, x1, x2, x3, x4⟩ := boxed hw1
  obtain ⟨hreg, hm, hsl, hf⟩ := callCells (HC.out.below hb1) hr
  have a0 : (0 : Int) ≤ a := by omega
  have a1 : (a : Int) < 8 := by omega
  have b0 : (0 : Int) ≤ b := by omega
  have b1 : (b : Int) < 8 := by omega
  have ra := hreg a ha
  have rb := hreg b hb8
  have hpc0 := hm
  have hsc := HC.out.sc
  have hsx : sv.ownBlock ≠ some w.heap.size := fun e => by have := (HM.out.said.lt e).2; omega
  have HKC : Hid (∀ W, Keep w1 sv W → W.cell? ⟨pc, 0, none⟩ = some (.pointer (some ⟨pm, 0, none⟩)) ∧ W.cell? ⟨w.heap.size, 1, none⟩ = some (.int .i64 (a : Int)) ∧ W.cell? ⟨w.heap.size, 2, none⟩ = some (.int .i64 (b : Int)) ∧ W.cell? ⟨pc, 1 + a, none⟩ = some (.int .i64 (l.reg a : Int)) ∧ W.cell? ⟨pc, 1 + b, none⟩ = some (.int .i64 (l.reg b : Int))) :=
    Lib.hid fun W hk => ⟨hk.cell hpc0 hsc, hk.cell x1 hsx, hk.cell x2 hsx, hk.cell ra hsc, hk.cell rb hsc⟩
  have HB1 := Lib.hid hb1
  clear hreg hm hsl hf hb1 hw1 HC HM HL HS x3
  refine wp_region_held (Keep w1 sv) [(0, false), (1, false), (2, false), (3, true), (4, false), (5, false), (6, true), (7, false), (8, false), (9, true), (11, false), (12, false), (13, true), (14, false), (15, false), (16, true)] [10, 17, 18] 18 (by kernel_rfl) (by kernel_rfl) (fun d v c a w h => by cases d <;> exact h) (Keep.refl w1 sv) ?_
  simp only [pickO, List.map_cons, List.map_nil, List.getD_cons_zero, List.getD_cons_succ]
  refine heldO_stepY (v := ?_) rfl ?_ ?_
  rotate_left
  · intro W
    go_simp
    try rfl
  simp only [Act.put, List.setIfInBounds_toArray, List.set_cons_zero, List.set_cons_succ]
  refine heldO_stepY (v := ?_) rfl ?_ ?_
  rotate_left
  · intro W
    go_simp
    try rfl
  simp only [Act.put, List.setIfInBounds_toArray, List.set_cons_zero, List.set_cons_succ]
  refine heldO_stepY (v := ?_) rfl ?_ ?_
  rotate_left
  · intro W
    go_simp
    try rfl
  simp only [Act.put, List.setIfInBounds_toArray, List.set_cons_zero, List.set_cons_succ]
  refine heldO_step (v := ?_) rfl ?_ ?_
  rotate_left
  · intro W hS
    obtain ⟨k1, k2, k3, k4, k5⟩ := HKC.out W hS
    go_simp
    try rfl
  simp only [Act.put, List.setIfInBounds_toArray, List.set_cons_zero, List.set_cons_succ]
  refine heldO_stepY (v := ?_) rfl ?_ ?_
  rotate_left
  · intro W
    go_simp
    try rfl
  simp only [Act.put, List.setIfInBounds_toArray, List.set_cons_zero, List.set_cons_succ]
  refine heldO_stepY (v := ?_) rfl ?_ ?_
  rotate_left
  · intro W
    go_simp
    try rfl
  simp only [Act.put, List.setIfInBounds_toArray, List.set_cons_zero, List.set_cons_succ]
  refine heldO_step (v := ?_) rfl ?_ ?_
  rotate_left
  · intro W hS
    obtain ⟨k1, k2, k3, k4, k5⟩ := HKC.out W hS
    go_simp
    try rfl
  simp only [Act.put, List.setIfInBounds_toArray, List.set_cons_zero, List.set_cons_succ]
  refine heldO_stepY (v := ?_) rfl ?_ ?_
  rotate_left
  · intro W
    go_simp
    try rfl
  simp only [Act.put, List.setIfInBounds_toArray, List.set_cons_zero, List.set_cons_succ]
  refine heldO_stepY (v := ?_) rfl ?_ ?_
  rotate_left
  · intro W
    go_simp
    try rfl
  simp only [Act.put, List.setIfInBounds_toArray, List.set_cons_zero, List.set_cons_succ]
  refine heldO_step (v := ?_) rfl ?_ ?_
  rotate_left
  · intro W hS
    obtain ⟨k1, k2, k3, k4, k5⟩ := HKC.out W hS
    go_simp
    try rfl
  simp only [Act.put, List.setIfInBounds_toArray, List.set_cons_zero, List.set_cons_succ]
  refine heldO_stepY (v := ?_) rfl ?_ ?_
  rotate_left
  · intro W
    go_simp
    try rfl
  simp only [Act.put, List.setIfInBounds_toArray, List.set_cons_zero, List.set_cons_succ]
  refine heldO_stepY (v := ?_) rfl ?_ ?_
  rotate_left
  · intro W
    go_simp
    try rfl
  simp only [Act.put, List.setIfInBounds_toArray, List.set_cons_zero, List.set_cons_succ]
  refine heldO_step (v := ?_) rfl ?_ ?_
  rotate_left
  · intro W hS
    obtain ⟨k1, k2, k3, k4, k5⟩ := HKC.out W hS
    go_simp
    try rfl
  simp only [Act.put, List.setIfInBounds_toArray, List.set_cons_zero, List.set_cons_succ]
  refine heldO_stepY (v := ?_) rfl ?_ ?_
  rotate_left
  · intro W
    go_simp
    try rfl
  simp only [Act.put, List.setIfInBounds_toArray, List.set_cons_zero, List.set_cons_succ]
  refine heldO_stepY (v := ?_) rfl ?_ ?_
  rotate_left
  · intro W
    go_simp
    try rfl
  simp only [Act.put, List.setIfInBounds_toArray, List.set_cons_zero, List.set_cons_succ]
  refine heldO_step (v := ?_) rfl ?_ ?_
  rotate_left
  · intro W hS
    obtain ⟨k1, k2, k3, k4, k5⟩ := HKC.out W hS
    go_simp
    try rfl
  simp only [Act.put, List.setIfInBounds_toArray, List.set_cons_zero, List.set_cons_succ]
  refine heldO_nil ?_
  refine tailO_step rfl (fun K hK => ?_)
  go_simp
  refine (HK.out _).mono ?_
  rintro e w' ⟨rfl, rfl⟩
  exact ⟨rfl, END.out _ HB1.out.drew⟩

set_option maxHeartbeats 2000000 in
theorem do_13 (w : World) (B pm : Nat) (rest : List Value) (T pc pl par : Nat) (a b c n : Nat) (l : Lc) (s : Cm) (sv : Value) (hM : MacAt B w pm rest T s sv) (hC : CallAt w pm sv pc pl par l) (hl : LcOk par slo l) (hs : CmOk s) (ha : a < 8) (hb8 : b < 8) (hT : s.said.length ≤ 1000000) (hB : B ≤ w.heap.size) :
    Calls Tryd.prog 107 #[.pointer (some ⟨pc, 0, none⟩), .agg #[.int .i64 13, .int .i64 (a : Int), .int .i64 (b : Int), .int .i64 (c : Int), .int .i64 (n : Int)]] w
      (DoPost B pm rest T pc pl par ⟨13, a, b, c, n⟩ l s sv w) := by
  have hr := hl.regs
  have END := Lib.hid (fun wa w' (hb : Below w.heap.size w wa) (g cap : Nat) h1 h2 h3 => @doPost_say B pm rest T pc pl par ⟨13, a, b, c, n⟩ l s sv w wa w' hM hC hb g cap (l.reg a) h1 h2 h3 rfl)
  obtain ⟨i0, hi, hz0, hz1, hz2⟩ := info_parts info_int
  have HC := Lib.hid hC
  have HM := Lib.hid hM
  have HL := Lib.hid hl
  have HS := Lib.hid hs
  clear hC hM hl hs
  go_enter Tryd.func107, Tryd.ntmps107
  go_wp2_with (fail)
  generalize hw1 : w.alloc _ = w1
  obtain ⟨hb1, x1, x2, x3, x4⟩ := boxed hw1
  obtain ⟨hreg, hm, hsl, hf⟩ := callCells (HC.out.below hb1) hr
  have a0 : (0 : Int) ≤ a := by omega
  have a1 : (a : Int) < 8 := by omega
  have b0 : (0 : Int) ≤ b := by omega
  have b1 : (b : Int) < 8 := by omega
  have ra := hreg a ha
  have rb := hreg b hb8
  have hpc0 := hm
  have hsc := HC.out.sc
  have hsx : sv.ownBlock ≠ some w.heap.size := fun e => by have := (HM.out.said.lt e).2; omega
  have HSD : Hid (Said w1 B sv s.said) := Lib.hid (HM.out.said.below hb1)
  obtain ⟨_, _, _, hm2, hmf⟩ := macCells (HM.out.below hb1) HS.out.cells
  have hmf2 := hmf 2
  have hsz1 : w.heap.size ≤ w1.heap.size := hb1.size
  have hpm1 := (HM.out.below hb1).blk.lt
  have hsep := HM.out.sep
  have HKC : Hid (∀ W, Keep w1 sv W → W.cell? ⟨pc, 0, none⟩ = some (.pointer (some ⟨pm, 0, none⟩)) ∧ W.cell? ⟨w.heap.size, 1, none⟩ = some (.int .i64 (a : Int)) ∧ W.cell? ⟨w.heap.size, 2, none⟩ = some (.int .i64 (b : Int)) ∧ W.cell? ⟨pc, 1 + a, none⟩ = some (.int .i64 (l.reg a : Int)) ∧ W.cell? ⟨pm, 2, none⟩ = some sv) :=
    Lib.hid fun W hk => ⟨hk.cell hpc0 hsc, hk.cell x1 hsx, hk.cell x2 hsx, hk.cell ra hsc, hk.cell hm2 hsep⟩
  have HMF : Hid (∀ W, Keep w1 sv W → W.cell? ⟨pm, 2, none⟩ = some sv ∧ W.frozen? ⟨pm, 2, none⟩ = false) := Lib.hid fun W hk => ⟨hk.cell hm2 hsep, hk.frozen hmf2 hpm1 hsep⟩
  clear hmf hmf2 hm2 hpc0 hsc hsx hsep hpm1 hf
  have HB1 := Lib.hid hb1
  clear hreg hm hsl hb1 hw1 HC HM HL HS x3
  obtain ⟨sd, hsd⟩ : ∃ sd, sd = s.said := ⟨_, rfl⟩
  rw [← hsd] at HSD hT
  refine wp_region_held (Keep w1 sv) [(0, false), (1, false), (2, false), (3, true), (4, false), (5, false), (6, false), (7, true), (8, false), (9, false), (10, true), (11, false), (12, false), (13, true), (14, false), (15, false), (16, true)] [17, 18, 19, 20, 21] 21 (by kernel_rfl) (by kernel_rfl) (fun d v c a w h => by cases d <;> exact h) (Keep.refl w1 sv) ?_
  simp only [pickO, List.map_cons, List.map_nil, List.getD_cons_zero, List.getD_cons_succ]
  refine heldO_stepY (v := ?_) rfl ?_ ?_
  rotate_left
  · intro W
    go_simp
    try rfl
  simp only [Act.put, List.setIfInBounds_toArray, List.set_cons_zero, List.set_cons_succ]
  refine heldO_stepY (v := ?_) rfl ?_ ?_
  rotate_left
  · intro W
    go_simp
    try rfl
  simp only [Act.put, List.setIfInBounds_toArray, List.set_cons_zero, List.set_cons_succ]
  refine heldO_stepY (v := ?_) rfl ?_ ?_
  rotate_left
  · intro W
    go_simp
    try rfl
  simp only [Act.put, List.setIfInBounds_toArray, List.set_cons_zero, List.set_cons_succ]
  refine heldO_step (v := ?_) rfl ?_ ?_
  rotate_left
  · intro W hS
    obtain ⟨k1, k2, k3, k4, k5⟩ := HKC.out W hS
    go_simp
    try rfl
  simp only [Act.put, List.setIfInBounds_toArray, List.set_cons_zero, List.set_cons_succ]
  refine heldO_stepY (v := ?_) rfl ?_ ?_
  rotate_left
  · intro W
    go_simp
    try rfl
  simp only [Act.put, List.setIfInBounds_toArray, List.set_cons_zero, List.set_cons_succ]
  refine heldO_stepY (v := ?_) rfl ?_ ?_
  rotate_left
  · intro W
    go_simp
    try rfl
  simp only [Act.put, List.setIfInBounds_toArray, List.set_cons_zero, List.set_cons_succ]
  refine heldO_stepY (v := ?_) rfl ?_ ?_
  rotate_left
  · intro W
    go_simp
    try rfl
  simp only [Act.put, List.setIfInBounds_toArray, List.set_cons_zero, List.set_cons_succ]
  refine heldO_step (v := ?_) rfl ?_ ?_
  rotate_left
  · intro W hS
    obtain ⟨k1, k2, k3, k4, k5⟩ := HKC.out W hS
    go_simp
    try rfl
  simp only [Act.put, List.setIfInBounds_toArray, List.set_cons_zero, List.set_cons_succ]
  refine heldO_stepY (v := ?_) rfl ?_ ?_
  rotate_left
  · intro W
    go_simp
    try rfl
  simp only [Act.put, List.setIfInBounds_toArray, List.set_cons_zero, List.set_cons_succ]
  refine heldO_stepY (v := ?_) rfl ?_ ?_
  rotate_left
  · intro W
    go_simp
    try rfl
  simp only [Act.put, List.setIfInBounds_toArray, List.set_cons_zero, List.set_cons_succ]
  refine heldO_step (v := ?_) rfl ?_ ?_
  rotate_left
  · intro W hS
    obtain ⟨k1, k2, k3, k4, k5⟩ := HKC.out W hS
    go_simp
    try rfl
  simp only [Act.put, List.setIfInBounds_toArray, List.set_cons_zero, List.set_cons_succ]
  refine heldO_stepY (v := ?_) rfl ?_ ?_
  rotate_left
  · intro W
    go_simp
    try rfl
  simp only [Act.put, List.setIfInBounds_toArray, List.set_cons_zero, List.set_cons_succ]
  refine heldO_stepY (v := ?_) rfl ?_ ?_
  rotate_left
  · intro W
    go_simp
    try rfl
  simp only [Act.put, List.setIfInBounds_toArray, List.set_cons_zero, List.set_cons_succ]
  refine heldO_step (v := ?_) rfl ?_ ?_
  rotate_left
  · intro W hS
    obtain ⟨k1, k2, k3, k4, k5⟩ := HKC.out W hS
    go_simp
    try rfl
  simp only [Act.put, List.setIfInBounds_toArray, List.set_cons_zero, List.set_cons_succ]
  refine heldO_stepY (v := ?_) rfl ?_ ?_
  rotate_left
  · intro W
    go_simp
    try rfl
  simp only [Act.put, List.setIfInBounds_toArray, List.set_cons_zero, List.set_cons_succ]
  refine heldO_stepY (v := ?_) rfl ?_ ?_
  rotate_left
  · intro W
    go_simp
    try rfl
  simp only [Act.put, List.setIfInBounds_toArray, List.set_cons_zero, List.set_cons_succ]
  refine heldO_step (v := ?_) rfl ?_ ?_
  rotate_left
  · intro W hS
    obtain ⟨k1, k2, k3, k4, k5⟩ := HKC.out W hS
    go_simp
    try rfl
  simp only [Act.put, List.setIfInBounds_toArray, List.set_cons_zero, List.set_cons_succ]
  refine heldO_nil ?_
  refine tailO_step rfl (fun K hK => ?_)
  go_simp
  refine hK _ _ (.inr ((Keep.refl w1 sv).alloc _)) ?_
  clear hK K
  refine tailO_step rfl (fun K hK => ?_)
  refine wp_append_lies _ (.tmp 130) (.tmp 137) 26 rfl B 3 i0 (.int .i64 0) 1 8 Tryd.underlying26 hi hz0 hz1 hz2 rfl (by decide) sv sd.length (nats sd) (by rfl) (HSD.out.alloc _) ⟨w1.heap.size, 0, none⟩ 1 1 [.int .i64 (l.reg a : Int)] (by rfl) rfl (World.news_of_block (heap_alloc_new _ _)) (by simp [Value.oneCell']) (by decide) (by unfold maxLen; omega) (by omega) (by simp; omega) _ rfl ?_
  intro g cap w3 hown hgrow hat hgl
  have hkeep : Keep w1 sv w3 := ((Keep.refl w1 sv).alloc (.cells #[.int .i64 (l.reg a : Int)] 3)).drew.grown hgrow
  obtain ⟨c2, f2⟩ := HMF.out w3 hkeep
  have HOWN := Lib.hid hown
  have HGR := Lib.hid hgrow
  have HAT := Lib.hid hat
  refine hK _ _ (.inr hkeep) ?_
  clear hK K hown hgrow hat
  simp only [Act.put, List.setIfInBounds_toArray, List.set_cons_zero, List.set_cons_succ]
  refine tailO_step rfl (fun K hK => ?_)
  go_simp
  refine hK _ _ (.inr hkeep) ?_
  clear hK K
  refine tailO_step rfl (fun K hK => ?_)
  go_simp
  refine hK _ _ (.inr hkeep) ?_
  clear hK K hkeep
  refine tailO_step rfl (fun K hK => ?_)
  go_simp
  refine hK _ _ (.inl rfl) (tailO_nil ?_)
  clear hK K
  go_wp2_with (fail)
  go_end0
  subst hsd
  refine END.out (w1.alloc (.cells #[.int .i64 (l.reg a : Int)] 3)).drew w3 (HB1.out.alloc hsz1 _).drew g cap HOWN.out HGR.out ?_
  rcases HAT.out with h | h
  · exact .inl h
  · right; rw [h]; simp; omega

end Go.Proofs.YtbdbmmdnidonjaaDoor
