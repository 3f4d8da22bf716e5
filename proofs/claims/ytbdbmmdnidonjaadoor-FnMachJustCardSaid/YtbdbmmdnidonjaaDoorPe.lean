/- An instruction that goes on behind it: spec's plain, arithmetic, and all. -/
import Derived.Test.YtbdbmmdnidonjaaDoorPb
set_option maxRecDepth 100000
namespace Go.Proofs.YtbdbmmdnidonjaaDoor
open Go.RowKit

variable {slo : Nat}

theorem two_same (w : World) (op a b : Nat) (v : Value) (h1 : 3 ≤ op) (h2 : op ≤ 9) (ha : a < 256) (hb : b < 256) (hv : twoR (arithN op a b) = v) :
    Calls Tryd.prog 135 #[.int .i64 (op : Int), .int .i64 (a : Int), .int .i64 (b : Int)] w fun e w' => e = .returned v ∧ w' = w := by
  rw [← hv]; exact two_any w op a b h1 h2 ha hb

set_option maxHeartbeats 2000000 in
theorem sp_ar (w : World) (B pr cb : Nat) (mv : Value) (p : Ps) (par : Nat) (op a b c n : Nat) (l : Lc) (s : Cm) (sv : Value) (hR : RunAt B w pr cb mv none s sv) (hC : SCall w pr cb sv p par l) (hl : LcOk par slo l) (h3 : 3 ≤ op) (h9 : op ≤ 9) (ha : a < 8) (hb8 : b < 8) (hc8 : c < 8) :
    Calls Tryd.prog 110 #[.pointer (some ⟨pr, 0, none⟩), .agg #[.int .i64 (op : Int), .int .i64 (a : Int), .int .i64 (b : Int), .int .i64 (c : Int), .int .i64 (n : Int)], .pointer (some ⟨p.p0, 0, none⟩)] w
      (SPost B pr cb mv p par ⟨op, a, b, c, n⟩ l s sv w) := by
  have hr := hl.regs
  have END := Lib.hid (fun w' (hb : Below w.heap.size w w') v hv => sEnd_arith (n := n) (a := a) (b := b) (c := c) h3 h9 hR hC hb (v := v) hv)
  have END0 := Lib.hid (fun w' (hb : Below w.heap.size w w') hv => sEnd_arith0 (l := l) (p := p) (par := par) (n := n) (a := a) (b := b) (c := c) h3 h9 hR hb hv)
  have HK := Lib.hid (fun w' v hv => two_same w' op (l.reg b) (l.reg c) v h3 h9 (hl.reg b) (hl.reg c) hv)
  have HC := Lib.hid hC
  have HR := Lib.hid hR
  obtain ⟨r, hres⟩ : ∃ r, arithN op (l.reg b) (l.reg c) = r := ⟨_, rfl⟩
  have hV : twoR (arithN op (l.reg b) (l.reg c)) = twoR r := by rw [hres]
  have HK2 := Lib.hid (fun w' => HK.out w' _ hV)
  have HRES := Lib.hid hres
  have e1 : ((op : Int) == 1) = false := by simp; omega
  have e2 : ((op : Int) == 2) = false := by simp; omega
  have e10 : ((op : Int) == 10) = false := by simp; omega
  have e11 : ((op : Int) == 11) = false := by simp; omega
  have e12 : ((op : Int) == 12) = false := by simp; omega
  have e13 : ((op : Int) == 13) = false := by simp; omega
  have e14 : ((op : Int) == 14) = false := by simp; omega
  have e15 : ((op : Int) == 15) = false := by simp; omega
  have e16 : ((op : Int) == 16) = false := by simp; omega
  have e17 : ((op : Int) == 17) = false := by simp; omega
  have e18 : ((op : Int) == 18) = false := by simp; omega
  have e19 : ((op : Int) == 19) = false := by simp; omega
  clear hC hR hV hres HK hl
  go_enter Tryd.func110, Tryd.ntmps110
  go_wp2_with (fail)
  generalize hw1 : w.alloc _ = w1
  have x0 := boxed0 hw1
  obtain ⟨hb1, x1, x2, x3, x4⟩ := boxed hw1
  have hC1 := HC.out.below hb1
  have hR1 := HR.out.below hb1
  obtain ⟨s0, _, _, _, _⟩ := scCells hC1
  obtain ⟨hreg, hrf⟩ := sregs hC1 hr
  obtain ⟨_, _, q2, _, _, _, q6, qf⟩ := runCells hR1
  have a0 : (0 : Int) ≤ a := by omega
  have a1 : (a : Int) < 8 := by omega
  have b0 : (0 : Int) ≤ b := by omega
  have b1 : (b : Int) < 8 := by omega
  have c0 : (0 : Int) ≤ c := by omega
  have c1 : (c : Int) < 8 := by omega
  have HS := Lib.hid (fun m => sstop_any (w1.drewN m) pr 1 _ q2 q6 qf)
  have ra : ∀ m, (w1.drewN m).cell? ⟨p.p1, a, none⟩ = some (.int .i64 (l.reg a : Int)) := fun _ => hreg a ha
  have rb : ∀ m, (w1.drewN m).cell? ⟨p.p1, b, none⟩ = some (.int .i64 (l.reg b : Int)) := fun _ => hreg b hb8
  have rc : ∀ m, (w1.drewN m).cell? ⟨p.p1, c, none⟩ = some (.int .i64 (l.reg c : Int)) := fun _ => hreg c hc8
  have rs : ∀ m, (w1.drewN m).cell? ⟨p.p0, 0, none⟩ = some (.slice (some ⟨p.p1, 0, none⟩) 8 8) := fun _ => s0
  have rf : ∀ m, (w1.drewN m).frozen? ⟨p.p1, a, none⟩ = false := fun _ => hrf a
  have y0 : ∀ m, (w1.drewN m).cell? ⟨w.heap.size, 0, none⟩ = some (.int .i64 (op : Int)) := fun _ => x0
  have y1 : ∀ m, (w1.drewN m).cell? ⟨w.heap.size, 1, none⟩ = some (.int .i64 (a : Int)) := fun _ => x1
  have y2 : ∀ m, (w1.drewN m).cell? ⟨w.heap.size, 2, none⟩ = some (.int .i64 (b : Int)) := fun _ => x2
  have y3 : ∀ m, (w1.drewN m).cell? ⟨w.heap.size, 3, none⟩ = some (.int .i64 (c : Int)) := fun _ => x3
  have HB1 := Lib.hid hb1
  clear hreg hrf hC1 hR1 q2 q6 qf hb1 hw1 HC HR x0 x1 x2 x3 x4 s0
  cases r with
  | none =>
    simp only [twoR] at HK2
    go_wp2_with (fail)
    go_quiet ((go_at_call 135; refine Calls.quiet_of_same (HK2.out _)))
    have HST := Lib.hid (HS.out nq)
    have HE := Lib.hid (END0.out (w1.drewN nq) (belowDr HB1.out _) HRES.out)
    clear ra rb rc rs rf y0 y1 y2 y3 HS
    go_wp2_with (fail)
    go_at_call 109
    refine HST.out.mono ?_
    rintro e w2 ⟨rfl, hw2⟩
    have hE := HE.out
    rw [← hw2] at hE
    have HE2 := Lib.hid hE
    clear hw2 hE HE HST
    go_wp2_with (fail)
    go_end0
    exact HE2.out
  | some v =>
    simp only [twoR] at HK2
    go_wp2_with (fail)
    go_quiet ((go_at_call 135; refine Calls.quiet_of_same (HK2.out _)))
    have HB2 := Lib.hid (belowDr HB1.out nq)
    have z1 := y1 nq
    have zs := rs nq
    have z2 : ∃ y, (w1.drewN nq).drew.cell? ⟨p.p1, a, none⟩ = some y := ⟨_, ra nq⟩
    have z3 : (w1.drewN nq).drew.frozen? ⟨p.p1, a, none⟩ = false := rf nq
    clear ra rb rc rs rf y0 y1 y2 y3 HS
    go_wp2_with (fail)
    generalize w1.drewN nq = w2 at *
    go_still_tail 8, (by kernel_rfl)
    change wpList _ _ _ _ _ w2.drew
    have HD := Lib.hid HB2.out.drew
    generalize w2.drew = w3 at *
    obtain ⟨ty, z2⟩ := z2
    go_wp2_with (fail)
    go_end0
    exact END.out w3 HD.out v HRES.out

/-- all of them -/
theorem plain_any (w : World) (B pr cb : Nat) (mv : Value) (p : Ps) (par k : Nat) (x : Ni) (l : Lc) (s : Cm) (sv : Value) (hR : RunAt B w pr cb mv none s sv) (hC : SCall w pr cb sv p par l) (hl : LcOk par slo l) (hs : CmOk s) (hx : NiOk k par slo x)
    (h14 : x.op ≠ 14) (h20 : x.op < 20) (h3 : par ≤ 3) (hT : s.said.length ≤ 1000000) (hB : B ≤ w.heap.size) :
    Calls Tryd.prog 110 #[.pointer (some ⟨pr, 0, none⟩), x.mi.val, .pointer (some ⟨p.p0, 0, none⟩)] w (SPost B pr cb mv p par x l s sv w) := by
  obtain ⟨op, a, b, c, n⟩ := x
  have ha := hx.a; have hb := hx.b; have hc := hx.c; have ho := hx.op
  have hset := hx.set; have hslot := hx.slot; have hgive := hx.give; have hfetch := hx.fetch
  simp only [] at ha hb hc ho hset hslot hgive hfetch h14 h20
  show Calls Tryd.prog 110 #[.pointer (some ⟨pr, 0, none⟩), .agg #[.int .i64 (op : Int), .int .i64 (a : Int), .int .i64 (b : Int), .int .i64 (c : Int), .int .i64 (n : Int)], .pointer (some ⟨p.p0, 0, none⟩)] w _
  have hcs : op = 1 ∨ op = 2 ∨ (3 ≤ op ∧ op ≤ 9) ∨ op = 10 ∨ op = 11 ∨ op = 12 ∨ op = 13 ∨ op = 15 ∨ op = 16 ∨ op = 17 ∨ op = 18 ∨ op = 19 := by omega
  rcases hcs with rfl | rfl | ⟨h3', h9⟩ | rfl | rfl | rfl | rfl | rfl | rfl | rfl | rfl | rfl
  · exact sp_1 w B pr cb mv p par a b c n l s sv hR hC hl hs ha hb
  · exact sp_2 w B pr cb mv p par a b c n l s sv hR hC hl hs ha hb
  · exact sp_ar w B pr cb mv p par op a b c n l s sv hR hC hl h3' h9 ha hb hc
  · exact sp_10 w B pr cb mv p par a b c n l s sv hR hC hl hs ha hb
  · rcases Nat.lt_or_ge (l.reg b) 16 with h | h
    · exact sp_11 w B pr cb mv p par a b c n l s sv hR hC hl hs ha hb h
    · exact sp_11n w B pr cb mv p par a b c n l s sv hR hC hl hs ha hb h
  · rcases Nat.lt_or_ge (l.reg a) 16 with h | h
    · exact sp_12 w B pr cb mv p par a b c n l s sv hR hC hl hs ha hb h
    · exact sp_12n w B pr cb mv p par a b c n l s sv hR hC hl hs ha hb h
  · exact sp_13 w B pr cb mv p par a b c n l s sv hR hC hl hs ha hb hT hB
  · exact sp_15 w B pr cb mv p par a b c n l s sv hR hC hl hs ha hb (hslot (.inl rfl))
  · exact sp_16 w B pr cb mv p par a b c n l s sv hR hC hl hs ha hb (hslot (.inr rfl))
  · exact sp_17 w B pr cb mv p par a b c n l s sv hR hC hl hs ha hb (hgive rfl)
  · exact sp_18 w B pr cb mv p par a b c n l s sv hR hC hl hs ha hb (hfetch rfl) h3
  · exact sp_19 w B pr cb mv p par a b c n l s sv hR hC hl hs ha hb

end Go.Proofs.YtbdbmmdnidonjaaDoor
