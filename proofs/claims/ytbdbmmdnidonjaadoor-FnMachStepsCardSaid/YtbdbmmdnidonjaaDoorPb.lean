/- An instruction that goes on behind it: spec's plain, the rest, and all. -/
import Derived.Test.YtbdbmmdnidonjaaDoorPa
import Derived.Test.YtbdbmmdnidonjaaDoorDd
set_option maxRecDepth 100000
namespace Go.Proofs.YtbdbmmdnidonjaaDoor
open Go.RowKit

theorem sEnd_say {B pr cb : Nat} {mv : Value} {p : Ps} {par : Nat} {x : Ni} {l : Lc} {s : Cm} {sv : Value} {w wa w' : World} (hR : RunAt B w pr cb mv none s sv) (hC : SCall w pr cb sv p par l) (hb : Below w.heap.size w wa)
    {g cap v : Nat} (hown : w'.ownsRow B 3 1 (.slice (some ⟨g, 0, none⟩) (s.said.length + 1) cap) (s.said.length + 1) (nats s.said ++ [.int .i64 (v : Int)])) (hg : wa.grownBy w' sv.ownBlock) (hat : sv.ownBlock = some g ∨ w.heap.size ≤ g)
    (hp : plainOp x l s = .inl (l, { s with said := s.said ++ [v] })) :
    SPost B pr cb mv p par x l s sv w (.returned (.tuple #[])) (w'.setCell ⟨pr, 1, none⟩ (.slice (some ⟨g, 0, none⟩) (s.said.length + 1) cap)) := by
  have hlr := hR.blk.lt
  have hlc := hR.cells.lt
  have hgp : g ≠ pr := by
    rcases hat with h | h
    · intro e; exact hR.sp (by rw [h, e])
    · omega
  have hgc : g ≠ cb := by
    rcases hat with h | h
    · intro e; exact hR.sc (by rw [h, e])
    · omega
  have hfr : Fr [pr, cb] sv w (.slice (some ⟨g, 0, none⟩) (s.said.length + 1) cap) (w'.setCell ⟨pr, 1, none⟩ (.slice (some ⟨g, 0, none⟩) (s.said.length + 1) cap)) := by
    refine ⟨?_, ?_⟩
    · refine Only.setCell ?_ (by simp) _
      refine (Only.of_below hb _).trans ?_
      refine ⟨hg.os, hg.tape, hg.output, hg.size, fun k hk hn => hg.block k hk (fun e => hn (List.mem_append_right _ (by rw [← e]; simp)))⟩
    · rcases hat with h | h
      · exact .inl (by rw [h]; rfl)
      · exact .inr fun k hk => by simp [Value.ownBlock] at hk; omega
  unfold SPost
  rw [hp]
  refine ⟨rfl, _, ⟨?_, ?_, ?_, hR.ne, ?_, ?_, hR.gp, hR.gc⟩, hC.keep hfr, hfr.mono (fun x hx => List.mem_append_left _ hx)⟩
  · exact ((hR.blk.below hb).grown hg hR.sp).set 1 _
  · exact ((hR.cells.below hb).grown hg hR.sc).other (fun e => hR.ne e.symm) _
  · show Said _ _ _ (s.said ++ [v])
    unfold Said
    rw [List.length_append, List.length_singleton, show nats (s.said ++ [v]) = nats s.said ++ [.int .i64 (v : Int)] by simp [nats]]
    exact ownsRow_same hown (fun k hk => Below.heap_setCell _ _ _ _ (by simp [Value.ownBlock] at hk; simp only []; omega))
  · intro e; simp [Value.ownBlock] at e; exact hgp e
  · intro e; simp [Value.ownBlock] at e; exact hgc e

theorem sEnd_arith {B pr cb : Nat} {mv : Value} {p : Ps} {par : Nat} {l : Lc} {s : Cm} {sv : Value} {w w' : World} {op a b c n : Nat} (h3 : 3 ≤ op) (h9 : op ≤ 9) (hR : RunAt B w pr cb mv none s sv) (hC : SCall w pr cb sv p par l) (hb : Below w.heap.size w w') {v : Nat} (hv : arithN op (l.reg b) (l.reg c) = some v) :
    SPost B pr cb mv p par ⟨op, a, b, c, n⟩ l s sv w (.returned (.tuple #[])) (w'.setCell ⟨p.p1, a, none⟩ (.int .i64 (v : Int))) := by
  refine sEnd_reg hR hC hb ?_ rfl
  unfold plainOp
  simp only [hv]
  repeat rw [if_neg (by omega)]
theorem sEnd_arith0 {B pr cb : Nat} {mv : Value} {p : Ps} {par : Nat} {l : Lc} {s : Cm} {sv : Value} {w w' : World} {op a b c n : Nat} (h3 : 3 ≤ op) (h9 : op ≤ 9) (hR : RunAt B w pr cb mv none s sv) (hb : Below w.heap.size w w') (hv : arithN op (l.reg b) (l.reg c) = none) :
    SPost B pr cb mv p par ⟨op, a, b, c, n⟩ l s sv w (.returned (.tuple #[])) ((w'.setCell ⟨pr, 2, none⟩ (.int .i64 ((1 : Nat) : Int))).setCell ⟨pr, 6, none⟩ (.bool true)) := by
  refine sEnd_stop hR hb ?_
  unfold plainOp
  simp only [hv]
  repeat rw [if_neg (by omega)]

variable {slo : Nat}

set_option maxHeartbeats 2000000 in
theorem sp_11 (w : World) (B pr cb : Nat) (mv : Value) (p : Ps) (par : Nat) (a b c n : Nat) (l : Lc) (s : Cm) (sv : Value) (hR : RunAt B w pr cb mv none s sv) (hC : SCall w pr cb sv p par l) (hl : LcOk par slo l) (hs : CmOk s) (ha : a < 8) (hb8 : b < 8) (hcell : l.reg b < 16) :
    Calls Tryd.prog 110 #[.pointer (some ⟨pr, 0, none⟩), .agg #[.int .i64 11, .int .i64 (a : Int), .int .i64 (b : Int), .int .i64 (c : Int), .int .i64 (n : Int)], .pointer (some ⟨p.p0, 0, none⟩)] w
      (SPost B pr cb mv p par ⟨11, a, b, c, n⟩ l s sv w) := by
  have hr := hl.regs
  have END := Lib.hid (fun w' (hb : Below w.heap.size w w') => sEnd_reg (x := ⟨11, a, b, c, n⟩) (a := a) (v := s.cells.getD (l.reg b) 0) hR hC hb (by unfold plainOp; simp; omega) rfl)
  have HK := Lib.hid (fun w' => scell_yes w' pr (l.reg b) hcell)
  have HC := Lib.hid hC
  have HR := Lib.hid hR
  have HL := Lib.hid hl
  have HS := Lib.hid hs
  clear hC hR hl hs
  go_enter Tryd.func110, Tryd.ntmps110
  go_wp2_with (fail)
  generalize hw1 : w.alloc _ = w1
  obtain ⟨hb1, x1, x2, x3, x4⟩ := boxed hw1
  have hC1 := HC.out.below hb1
  have hR1 := HR.out.below hb1
  obtain ⟨s0, s1, s2, s3, s4⟩ := scCells hC1
  obtain ⟨hreg, hrf⟩ := sregs hC1 hr
  have a0 : (0 : Int) ≤ a := by omega
  have a1 : (a : Int) < 8 := by omega
  have b0 : (0 : Int) ≤ b := by omega
  have b1 : (b : Int) < 8 := by omega
  have ra := hreg a ha
  have rb := hreg b hb8
  have c1 := srcells hR1 HS.out.cells hcell
  have cf := hR1.cells.frozen (l.reg b)
  obtain ⟨_, _, _, _, q4, _, _, _⟩ := runCells hR1
  have hc0 : (0 : Int) ≤ (l.reg b : Int) := by omega
  have hc1 : (l.reg b : Int) < 16 := by omega
  have taf := hrf a
  have HB1 := Lib.hid hb1
  clear hreg hrf hC1 hR1 hb1 hw1 HC HR HL HS x3
  go_still_tail 9, (by kernel_rfl)
  change wpList _ _ _ _ _ w1.drew
  have HD := Lib.hid HB1.out.drew
  go_wp2_with (fail)
  go_at_call 134
  refine (HK.out _).mono ?_
  rintro e _ ⟨rfl, rfl⟩
  have y1 : w1.drew.cell? ⟨w.heap.size, 1, none⟩ = some (.int .i64 (a : Int)) := x1
  have y2 : w1.drew.cell? ⟨w.heap.size, 2, none⟩ = some (.int .i64 (b : Int)) := x2
  have y3 : w1.drew.cell? ⟨p.p0, 0, none⟩ = some (.slice (some ⟨p.p1, 0, none⟩) 8 8) := s0
  have y4 : w1.drew.cell? ⟨p.p1, a, none⟩ = some (.int .i64 (l.reg a : Int)) := ra
  have y5 : w1.drew.cell? ⟨p.p1, b, none⟩ = some (.int .i64 (l.reg b : Int)) := rb
  have y6 : w1.drew.cell? ⟨cb, l.reg b, none⟩ = some (.int .i64 ((s.cells.getD (l.reg b) 0 : Nat) : Int)) := c1
  have y7 : w1.drew.cell? ⟨pr, 4, none⟩ = some (.slice (some ⟨cb, 0, none⟩) 16 16) := q4
  have yf : w1.drew.frozen? ⟨p.p1, a, none⟩ = false := taf
  have yc : w1.drew.frozen? ⟨cb, l.reg b, none⟩ = false := cf
  clear x1 x2 x4 s0 s1 s2 s3 s4 ra rb c1 q4 taf cf HB1
  generalize w1.drew = wd at *
  go_wp2_with (fail)
  go_still_tail 22, (by kernel_rfl)
  change wpList _ _ _ _ _ wd.drew
  have ta : wd.drew.cell? ⟨p.p1, a, none⟩ = some (.int .i64 (l.reg a : Int)) := y4
  have tf : wd.drew.frozen? ⟨p.p1, a, none⟩ = false := yf
  have HD2 := Lib.hid HD.out.drew
  generalize wd.drew = w2 at *
  go_wp2_with (fail)
  go_end0
  exact END.out w2 HD2.out

set_option maxHeartbeats 2000000 in
theorem sp_11n (w : World) (B pr cb : Nat) (mv : Value) (p : Ps) (par : Nat) (a b c n : Nat) (l : Lc) (s : Cm) (sv : Value) (hR : RunAt B w pr cb mv none s sv) (hC : SCall w pr cb sv p par l) (hl : LcOk par slo l) (hs : CmOk s) (ha : a < 8) (hb8 : b < 8) (hcell : 16 ≤ l.reg b) :
    Calls Tryd.prog 110 #[.pointer (some ⟨pr, 0, none⟩), .agg #[.int .i64 11, .int .i64 (a : Int), .int .i64 (b : Int), .int .i64 (c : Int), .int .i64 (n : Int)], .pointer (some ⟨p.p0, 0, none⟩)] w
      (SPost B pr cb mv p par ⟨11, a, b, c, n⟩ l s sv w) := by
  have hr := hl.regs
  have END := Lib.hid (fun w' (hb : Below w.heap.size w w') => sEnd_stop (p := p) (par := par) (l := l) (x := ⟨11, a, b, c, n⟩) hR hb (en := 2) (by unfold plainOp; simp; omega))
  have HC := Lib.hid hC
  have HR := Lib.hid hR
  have HL := Lib.hid hl
  have HS := Lib.hid hs
  clear hC hR hl hs
  go_enter Tryd.func110, Tryd.ntmps110
  go_wp2_with (fail)
  generalize hw1 : w.alloc _ = w1
  obtain ⟨hb1, x1, x2, x3, x4⟩ := boxed hw1
  have hC1 := HC.out.below hb1
  have hR1 := HR.out.below hb1
  obtain ⟨s0, s1, s2, s3, s4⟩ := scCells hC1
  obtain ⟨hreg, hrf⟩ := sregs hC1 hr
  have a0 : (0 : Int) ≤ a := by omega
  have a1 : (a : Int) < 8 := by omega
  have b0 : (0 : Int) ≤ b := by omega
  have b1 : (b : Int) < 8 := by omega
  have ra := hreg a ha
  have rb := hreg b hb8
  obtain ⟨_, _, q2, _, _, _, q6, qf⟩ := runCells hR1
  have HK := Lib.hid (scell_no w1.drew pr (l.reg b) hcell _ q2 q6 qf)
  clear q2 q6 qf
  have HB1 := Lib.hid hb1
  clear hreg hrf hC1 hR1 hb1 hw1 HC HR HL HS x3
  go_still_tail 9, (by kernel_rfl)
  change wpList _ _ _ _ _ w1.drew
  have HD := Lib.hid HB1.out.drew
  go_wp2_with (fail)
  go_at_call 134
  refine HK.out.mono ?_
  rintro e w2 ⟨rfl, hw2⟩
  have hE := END.out w1.drew HD.out
  rw [← hw2] at hE
  have HE := Lib.hid hE
  clear hw2 hE HK
  go_wp2_with (fail)
  go_end0
  exact HE.out

set_option maxHeartbeats 2000000 in
theorem sp_12 (w : World) (B pr cb : Nat) (mv : Value) (p : Ps) (par : Nat) (a b c n : Nat) (l : Lc) (s : Cm) (sv : Value) (hR : RunAt B w pr cb mv none s sv) (hC : SCall w pr cb sv p par l) (hl : LcOk par slo l) (hs : CmOk s) (ha : a < 8) (hb8 : b < 8) (hcell : l.reg a < 16) :
    Calls Tryd.prog 110 #[.pointer (some ⟨pr, 0, none⟩), .agg #[.int .i64 12, .int .i64 (a : Int), .int .i64 (b : Int), .int .i64 (c : Int), .int .i64 (n : Int)], .pointer (some ⟨p.p0, 0, none⟩)] w
      (SPost B pr cb mv p par ⟨12, a, b, c, n⟩ l s sv w) := by
  have hr := hl.regs
  have END := Lib.hid (fun w' (hb : Below w.heap.size w w') => sEnd_cell (x := ⟨12, a, b, c, n⟩) (a := l.reg a) (v := l.reg b) hR hC hb (by unfold plainOp; simp; omega))
  have HK := Lib.hid (fun w' => scell_yes w' pr (l.reg a) hcell)
  have HC := Lib.hid hC
  have HR := Lib.hid hR
  have HL := Lib.hid hl
  have HS := Lib.hid hs
  clear hC hR hl hs
  go_enter Tryd.func110, Tryd.ntmps110
  go_wp2_with (fail)
  generalize hw1 : w.alloc _ = w1
  obtain ⟨hb1, x1, x2, x3, x4⟩ := boxed hw1
  have hC1 := HC.out.below hb1
  have hR1 := HR.out.below hb1
  obtain ⟨s0, s1, s2, s3, s4⟩ := scCells hC1
  obtain ⟨hreg, hrf⟩ := sregs hC1 hr
  have a0 : (0 : Int) ≤ a := by omega
  have a1 : (a : Int) < 8 := by omega
  have b0 : (0 : Int) ≤ b := by omega
  have b1 : (b : Int) < 8 := by omega
  have ra := hreg a ha
  have rb := hreg b hb8
  have c1 := srcells hR1 HS.out.cells hcell
  have cf := hR1.cells.frozen (l.reg a)
  obtain ⟨_, _, _, _, q4, _, _, _⟩ := runCells hR1
  have hc0 : (0 : Int) ≤ (l.reg a : Int) := by omega
  have hc1 : (l.reg a : Int) < 16 := by omega
  have taf := hrf a
  have HB1 := Lib.hid hb1
  clear hreg hrf hC1 hR1 hb1 hw1 HC HR HL HS x3
  go_still_tail 9, (by kernel_rfl)
  change wpList _ _ _ _ _ w1.drew
  have HD := Lib.hid HB1.out.drew
  go_wp2_with (fail)
  go_at_call 134
  refine (HK.out _).mono ?_
  rintro e _ ⟨rfl, rfl⟩
  have y1 : w1.drew.cell? ⟨w.heap.size, 1, none⟩ = some (.int .i64 (a : Int)) := x1
  have y2 : w1.drew.cell? ⟨w.heap.size, 2, none⟩ = some (.int .i64 (b : Int)) := x2
  have y3 : w1.drew.cell? ⟨p.p0, 0, none⟩ = some (.slice (some ⟨p.p1, 0, none⟩) 8 8) := s0
  have y4 : w1.drew.cell? ⟨p.p1, a, none⟩ = some (.int .i64 (l.reg a : Int)) := ra
  have y5 : w1.drew.cell? ⟨p.p1, b, none⟩ = some (.int .i64 (l.reg b : Int)) := rb
  have y6 : w1.drew.cell? ⟨cb, l.reg a, none⟩ = some (.int .i64 ((s.cells.getD (l.reg a) 0 : Nat) : Int)) := c1
  have y7 : w1.drew.cell? ⟨pr, 4, none⟩ = some (.slice (some ⟨cb, 0, none⟩) 16 16) := q4
  have yf : w1.drew.frozen? ⟨p.p1, a, none⟩ = false := taf
  have yc : w1.drew.frozen? ⟨cb, l.reg a, none⟩ = false := cf
  clear x1 x2 x4 s0 s1 s2 s3 s4 ra rb c1 q4 taf cf HB1
  generalize w1.drew = wd at *
  go_wp2_with (fail)
  go_still_tail 22, (by kernel_rfl)
  change wpList _ _ _ _ _ wd.drew
  have ta : wd.drew.cell? ⟨cb, l.reg a, none⟩ = some (.int .i64 ((s.cells.getD (l.reg a) 0 : Nat) : Int)) := y6
  have tf : wd.drew.frozen? ⟨cb, l.reg a, none⟩ = false := yc
  have HD2 := Lib.hid HD.out.drew
  generalize wd.drew = w2 at *
  go_wp2_with (fail)
  go_end0
  exact END.out w2 HD2.out

set_option maxHeartbeats 2000000 in
theorem sp_12n (w : World) (B pr cb : Nat) (mv : Value) (p : Ps) (par : Nat) (a b c n : Nat) (l : Lc) (s : Cm) (sv : Value) (hR : RunAt B w pr cb mv none s sv) (hC : SCall w pr cb sv p par l) (hl : LcOk par slo l) (hs : CmOk s) (ha : a < 8) (hb8 : b < 8) (hcell : 16 ≤ l.reg a) :
    Calls Tryd.prog 110 #[.pointer (some ⟨pr, 0, none⟩), .agg #[.int .i64 12, .int .i64 (a : Int), .int .i64 (b : Int), .int .i64 (c : Int), .int .i64 (n : Int)], .pointer (some ⟨p.p0, 0, none⟩)] w
      (SPost B pr cb mv p par ⟨12, a, b, c, n⟩ l s sv w) := by
  have hr := hl.regs
  have END := Lib.hid (fun w' (hb : Below w.heap.size w w') => sEnd_stop (p := p) (par := par) (l := l) (x := ⟨12, a, b, c, n⟩) hR hb (en := 2) (by unfold plainOp; simp; omega))
  have HC := Lib.hid hC
  have HR := Lib.hid hR
  have HL := Lib.hid hl
  have HS := Lib.hid hs
  clear hC hR hl hs
  go_enter Tryd.func110, Tryd.ntmps110
  go_wp2_with (fail)
  generalize hw1 : w.alloc _ = w1
  obtain ⟨hb1, x1, x2, x3, x4⟩ := boxed hw1
  have hC1 := HC.out.below hb1
  have hR1 := HR.out.below hb1
  obtain ⟨s0, s1, s2, s3, s4⟩ := scCells hC1
  obtain ⟨hreg, hrf⟩ := sregs hC1 hr
  have a0 : (0 : Int) ≤ a := by omega
  have a1 : (a : Int) < 8 := by omega
  have b0 : (0 : Int) ≤ b := by omega
  have b1 : (b : Int) < 8 := by omega
  have ra := hreg a ha
  have rb := hreg b hb8
  obtain ⟨_, _, q2, _, _, _, q6, qf⟩ := runCells hR1
  have HK := Lib.hid (scell_no w1.drew pr (l.reg a) hcell _ q2 q6 qf)
  clear q2 q6 qf
  have HB1 := Lib.hid hb1
  clear hreg hrf hC1 hR1 hb1 hw1 HC HR HL HS x3
  go_still_tail 9, (by kernel_rfl)
  change wpList _ _ _ _ _ w1.drew
  have HD := Lib.hid HB1.out.drew
  go_wp2_with (fail)
  go_at_call 134
  refine HK.out.mono ?_
  rintro e w2 ⟨rfl, hw2⟩
  have hE := END.out w1.drew HD.out
  rw [← hw2] at hE
  have HE := Lib.hid hE
  clear hw2 hE HK
  go_wp2_with (fail)
  go_end0
  exact HE.out

set_option maxHeartbeats 2000000 in
theorem sp_13 (w : World) (B pr cb : Nat) (mv : Value) (p : Ps) (par : Nat) (a b c n : Nat) (l : Lc) (s : Cm) (sv : Value) (hR : RunAt B w pr cb mv none s sv) (hC : SCall w pr cb sv p par l) (hl : LcOk par slo l) (hs : CmOk s) (ha : a < 8) (hb8 : b < 8) (hT : s.said.length ≤ 1000000) (hB : B ≤ w.heap.size) :
    Calls Tryd.prog 110 #[.pointer (some ⟨pr, 0, none⟩), .agg #[.int .i64 13, .int .i64 (a : Int), .int .i64 (b : Int), .int .i64 (c : Int), .int .i64 (n : Int)], .pointer (some ⟨p.p0, 0, none⟩)] w
      (SPost B pr cb mv p par ⟨13, a, b, c, n⟩ l s sv w) := by
  have hr := hl.regs
  have END := Lib.hid (fun wa w' (hb : Below w.heap.size w wa) (g cap : Nat) h1 h2 h3 => @sEnd_say B pr cb mv p par ⟨13, a, b, c, n⟩ l s sv w wa w' hR hC hb g cap (l.reg a) h1 h2 h3 rfl)
  obtain ⟨i0, hi, hz0, hz1, hz2⟩ := info_parts info_int
  have HC := Lib.hid hC
  have HR := Lib.hid hR
  have HL := Lib.hid hl
  have HS := Lib.hid hs
  clear hC hR hl hs
  go_enter Tryd.func110, Tryd.ntmps110
  go_wp2_with (fail)
  generalize hw1 : w.alloc _ = w1
  obtain ⟨hb1, x1, x2, x3, x4⟩ := boxed hw1
  have hC1 := HC.out.below hb1
  have hR1 := HR.out.below hb1
  obtain ⟨s0, s1, s2, s3, s4⟩ := scCells hC1
  obtain ⟨hreg, hrf⟩ := sregs hC1 hr
  have a0 : (0 : Int) ≤ a := by omega
  have a1 : (a : Int) < 8 := by omega
  have b0 : (0 : Int) ≤ b := by omega
  have b1 : (b : Int) < 8 := by omega
  have ra := hreg a ha
  have rb := hreg b hb8
  have HSD : Hid (Said w1 B sv s.said) := Lib.hid hR1.said
  obtain ⟨_, q1, _, _, _, _, _, qf⟩ := runCells hR1
  have qf1 := qf 1
  have hsz1 : w.heap.size ≤ w1.heap.size := hb1.size
  have hlr := hR1.blk.lt
  have hsp := HR.out.sp
  have hs0 := (HC.out.far p.p0 (.inl rfl)).2.2
  have hs1 := (HC.out.far p.p1 (.inr (.inl rfl))).2.2
  have hsx : sv.ownBlock ≠ some w.heap.size := fun e => by have := (HR.out.said.lt e).2; omega
  have HKC : Hid (∀ W, Keep w1 sv W → W.cell? ⟨pr, 1, none⟩ = some sv ∧ W.cell? ⟨p.p0, 0, none⟩ = some (.slice (some ⟨p.p1, 0, none⟩) 8 8) ∧ W.cell? ⟨w.heap.size, 1, none⟩ = some (.int .i64 (a : Int)) ∧ W.cell? ⟨p.p1, a, none⟩ = some (.int .i64 (l.reg a : Int))) :=
    Lib.hid fun W hk => ⟨hk.cell q1 hsp, hk.cell s0 hs0, hk.cell x1 hsx, hk.cell ra hs1⟩
  have HMF : Hid (∀ W, Keep w1 sv W → W.cell? ⟨pr, 1, none⟩ = some sv ∧ W.frozen? ⟨pr, 1, none⟩ = false) := Lib.hid fun W hk => ⟨hk.cell q1 hsp, hk.frozen qf1 hlr hsp⟩
  have HB1 := Lib.hid hb1
  clear hreg hrf hC1 hR1 hb1 hw1 HC HR HL HS x3 q1 qf qf1 hlr hsp hs0 hs1 hsx
  obtain ⟨sd, hsd⟩ : ∃ sd, sd = s.said := ⟨_, rfl⟩
  rw [← hsd] at HSD hT
  refine wp_region_held (Keep w1 sv) [(0, false), (1, false), (2, false), (3, false), (4, false), (5, true), (6, false), (7, false), (8, false), (9, true), (10, false), (11, true), (12, false), (13, true)] [14, 15, 16, 17, 18, 19] 19 (by kernel_rfl) (by kernel_rfl) (fun d v c a w h => by cases d <;> exact h) (Keep.refl w1 sv) ?_
  simp only [pickO, List.map_cons, List.map_nil, List.getD_cons_zero, List.getD_cons_succ]
  refine heldO_stepY (v := ?_) rfl ?_ ?_
  rotate_left
  · intro W
    go_simp
    try rfl
  simp only [Act.put, List.setIfInBounds_toArray, List.set_cons_zero, List.set_cons_succ]
  refine heldO_stepY (v := ?_) rfl ?_ ?_
  rotate_left
  · intro W
    go_simp
    try rfl
  simp only [Act.put, List.setIfInBounds_toArray, List.set_cons_zero, List.set_cons_succ]
  refine heldO_stepY (v := ?_) rfl ?_ ?_
  rotate_left
  · intro W
    go_simp
    try rfl
  simp only [Act.put, List.setIfInBounds_toArray, List.set_cons_zero, List.set_cons_succ]
  refine heldO_stepY (v := ?_) rfl ?_ ?_
  rotate_left
  · intro W
    go_simp
    try rfl
  simp only [Act.put, List.setIfInBounds_toArray, List.set_cons_zero, List.set_cons_succ]
  refine heldO_stepY (v := ?_) rfl ?_ ?_
  rotate_left
  · intro W
    go_simp
    try rfl
  simp only [Act.put, List.setIfInBounds_toArray, List.set_cons_zero, List.set_cons_succ]
  refine heldO_step (v := ?_) rfl ?_ ?_
  rotate_left
  · intro W hS
    obtain ⟨k1, k2, k3, k4⟩ := HKC.out W hS
    go_simp
    try rfl
  simp only [Act.put, List.setIfInBounds_toArray, List.set_cons_zero, List.set_cons_succ]
  refine heldO_stepY (v := ?_) rfl ?_ ?_
  rotate_left
  · intro W
    go_simp
    try rfl
  simp only [Act.put, List.setIfInBounds_toArray, List.set_cons_zero, List.set_cons_succ]
  refine heldO_stepY (v := ?_) rfl ?_ ?_
  rotate_left
  · intro W
    go_simp
    try rfl
  simp only [Act.put, List.setIfInBounds_toArray, List.set_cons_zero, List.set_cons_succ]
  refine heldO_stepY (v := ?_) rfl ?_ ?_
  rotate_left
  · intro W
    go_simp
    try rfl
  simp only [Act.put, List.setIfInBounds_toArray, List.set_cons_zero, List.set_cons_succ]
  refine heldO_step (v := ?_) rfl ?_ ?_
  rotate_left
  · intro W hS
    obtain ⟨k1, k2, k3, k4⟩ := HKC.out W hS
    go_simp
    try rfl
  simp only [Act.put, List.setIfInBounds_toArray, List.set_cons_zero, List.set_cons_succ]
  refine heldO_stepY (v := ?_) rfl ?_ ?_
  rotate_left
  · intro W
    go_simp
    try rfl
  simp only [Act.put, List.setIfInBounds_toArray, List.set_cons_zero, List.set_cons_succ]
  refine heldO_step (v := ?_) rfl ?_ ?_
  rotate_left
  · intro W hS
    obtain ⟨k1, k2, k3, k4⟩ := HKC.out W hS
    go_simp
    try rfl
  simp only [Act.put, List.setIfInBounds_toArray, List.set_cons_zero, List.set_cons_succ]
  refine heldO_stepY (v := ?_) rfl ?_ ?_
  rotate_left
  · intro W
    go_simp
    try rfl
  simp only [Act.put, List.setIfInBounds_toArray, List.set_cons_zero, List.set_cons_succ]
  refine heldO_step (v := ?_) rfl ?_ ?_
  rotate_left
  · intro W hS
    obtain ⟨k1, k2, k3, k4⟩ := HKC.out W hS
    go_simp
    try rfl
  simp only [Act.put, List.setIfInBounds_toArray, List.set_cons_zero, List.set_cons_succ]
  refine heldO_nil ?_
  refine tailO_step rfl (fun K hK => ?_)
  go_simp
  refine hK _ _ (.inr ((Keep.refl w1 sv).alloc _)) ?_
  clear hK K
  refine tailO_step rfl (fun K hK => ?_)
  refine wp_append_lies _ (.tmp 167) (.tmp 176) 26 rfl B 3 i0 (.int .i64 0) 1 8 Tryd.underlying26 hi hz0 hz1 hz2 rfl (by decide) sv sd.length (nats sd) (by rfl) (HSD.out.alloc _) ⟨w1.heap.size, 0, none⟩ 1 1 [.int .i64 (l.reg a : Int)] (by rfl) rfl (World.news_of_block (heap_alloc_new _ _)) (by simp [Value.oneCell']) (by decide) (by unfold maxLen; omega) (by omega) (by simp; omega) _ rfl ?_
  intro g cap w3 hown hgrow hat hgl
  have hkeep : Keep w1 sv w3 := ((Keep.refl w1 sv).alloc (.cells #[.int .i64 (l.reg a : Int)] 3)).drew.grown hgrow
  obtain ⟨c2, f2⟩ := HMF.out w3 hkeep
  have HOWN := Lib.hid hown
  have HGR := Lib.hid hgrow
  have HAT := Lib.hid hat
  refine hK _ _ (.inr hkeep) ?_
  clear hK K hown hgrow hat
  simp only [Act.put, List.setIfInBounds_toArray, List.set_cons_zero, List.set_cons_succ]
  refine tailO_step rfl (fun K hK => ?_)
  go_simp
  refine hK _ _ (.inr hkeep) ?_
  clear hK K
  refine tailO_step rfl (fun K hK => ?_)
  go_simp
  refine hK _ _ (.inr hkeep) ?_
  clear hK K
  refine tailO_step rfl (fun K hK => ?_)
  go_simp
  refine hK _ _ (.inr hkeep) ?_
  clear hK K
  refine tailO_step rfl (fun K hK => ?_)
  go_simp
  refine hK _ _ (.inl rfl) (tailO_nil ?_)
  clear hK K hkeep
  go_wp2_with (fail)
  go_end0
  subst hsd
  refine END.out (w1.alloc (.cells #[.int .i64 (l.reg a : Int)] 3)).drew w3 (HB1.out.alloc hsz1 _).drew g cap HOWN.out HGR.out ?_
  rcases HAT.out with h | h
  · exact .inl h
  · right; rw [h]; simp; omega

end Go.Proofs.YtbdbmmdnidonjaaDoor
