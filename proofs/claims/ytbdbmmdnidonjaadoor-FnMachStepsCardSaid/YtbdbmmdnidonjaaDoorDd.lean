/- An instruction that goes on behind it: impl's do, arithmetic; and all of them. -/
import Derived.Test.YtbdbmmdnidonjaaDoorDc
set_option maxRecDepth 100000
namespace Go.Proofs.YtbdbmmdnidonjaaDoor
open Go.RowKit

variable {slo : Nat}

def arithR : Option Nat → Value
  | some v => .tuple #[.int .i64 (v : Int), .bool true]
  | none => .tuple #[.int .i64 0, .bool false]
theorem arithV_eq (op a b : Nat) : arithV op a b = arithR (arithN op a b) := by
  unfold arithV arithR
  cases arithN op a b <;> rfl

theorem belowDr {B : Nat} {a w : World} (h : Below B a w) (n : Nat) : Below B a (w.drewN n) := h.trans ⟨rfl, rfl, rfl, Nat.le_refl _, fun _ _ => rfl⟩
theorem boxed0 {w w1 : World} {v0 v1 v2 v3 v4 : Value} {t : TypeId} (h : w.alloc (.cells #[v0, v1, v2, v3, v4] t) = w1) : w1.cell? ⟨w.heap.size, 0, none⟩ = some v0 := by
  subst h
  rw [(Blk.new w #[v0, v1, v2, v3, v4] t).cell]; rfl

set_option maxHeartbeats 2000000 in
theorem do_ar (w : World) (B pm : Nat) (rest : List Value) (T pc pl par : Nat) (op a b c n : Nat) (l : Lc) (s : Cm) (sv : Value) (hM : MacAt B w pm rest T s sv) (hC : CallAt w pm sv pc pl par l) (hl : LcOk par slo l) (h3 : 3 ≤ op) (h9 : op ≤ 9) (ha : a < 8) (hb8 : b < 8) (hc8 : c < 8) :
    Calls Tryd.prog 107 #[.pointer (some ⟨pc, 0, none⟩), .agg #[.int .i64 (op : Int), .int .i64 (a : Int), .int .i64 (b : Int), .int .i64 (c : Int), .int .i64 (n : Int)]] w
      (DoPost B pm rest T pc pl par ⟨op, a, b, c, n⟩ l s sv w) := by
  have hr := hl.regs
  have END := Lib.hid (fun w' (hb : Below w.heap.size w w') v hv => doPost_arith (n := n) (a := a) (b := b) (c := c) h3 h9 hM hC hb (by omega) (v := v) hv)
  have END0 := Lib.hid (fun w' (hb : Below w.heap.size w w') hv => doPost_arith0 (l := l) (pc := pc) (pl := pl) (par := par) (n := n) (a := a) (b := b) (c := c) h3 h9 hM hb hv)
  have HK := Lib.hid (fun w' v hv => arith_same w' op (l.reg b) (l.reg c) v h3 h9 (hl.reg b) (hl.reg c) hv)
  have HS := Lib.hid (fun w' => stop_any w' 1)
  have HC := Lib.hid hC
  obtain ⟨r, hres⟩ : ∃ r, arithN op (l.reg b) (l.reg c) = r := ⟨_, rfl⟩
  have hV : arithV op (l.reg b) (l.reg c) = arithR r := by rw [arithV_eq, hres]
  have HK2 := Lib.hid (fun w' => HK.out w' _ hV)
  have HRES := Lib.hid hres
  have e1 : ((op : Int) == 1) = false := by simp; omega
  have e2 : ((op : Int) == 2) = false := by simp; omega
  have e10 : ((op : Int) == 10) = false := by simp; omega
  have e11 : ((op : Int) == 11) = false := by simp; omega
  have e12 : ((op : Int) == 12) = false := by simp; omega
  have e13 : ((op : Int) == 13) = false := by simp; omega
  have e15 : ((op : Int) == 15) = false := by simp; omega
  have e16 : ((op : Int) == 16) = false := by simp; omega
  have e17 : ((op : Int) == 17) = false := by simp; omega
  have e18 : ((op : Int) == 18) = false := by simp; omega
  have e19 : ((op : Int) == 19) = false := by simp; omega
  clear hC hM hV hres HK hl
  go_enter Tryd.func107, Tryd.ntmps107
  go_wp2_with (fail)
  generalize hw1 : w.alloc _ = w1
  have x0 := boxed0 hw1
  obtain ⟨hb1, x1, x2, x3, x4⟩ := boxed hw1
  obtain ⟨hreg, hm, hsl, hf⟩ := callCells (HC.out.below hb1) hr
  have a0 : (0 : Int) ≤ a := by omega
  have a1 : (a : Int) < 8 := by omega
  have b0 : (0 : Int) ≤ b := by omega
  have b1 : (b : Int) < 8 := by omega
  have c0 : (0 : Int) ≤ c := by omega
  have c1 : (c : Int) < 8 := by omega
  have ra : ∀ m, (w1.drewN m).cell? ⟨pc, 1 + a, none⟩ = some (.int .i64 (l.reg a : Int)) := fun _ => hreg a ha
  have rb : ∀ m, (w1.drewN m).cell? ⟨pc, 1 + b, none⟩ = some (.int .i64 (l.reg b : Int)) := fun _ => hreg b hb8
  have rc : ∀ m, (w1.drewN m).cell? ⟨pc, 1 + c, none⟩ = some (.int .i64 (l.reg c : Int)) := fun _ => hreg c hc8
  have rf : ∀ m, (w1.drewN m).frozen? ⟨pc, 1 + a, none⟩ = false := fun _ => hf (1 + a)
  have y0 : ∀ m, (w1.drewN m).cell? ⟨w.heap.size, 0, none⟩ = some (.int .i64 (op : Int)) := fun _ => x0
  have y1 : ∀ m, (w1.drewN m).cell? ⟨w.heap.size, 1, none⟩ = some (.int .i64 (a : Int)) := fun _ => x1
  have y2 : ∀ m, (w1.drewN m).cell? ⟨w.heap.size, 2, none⟩ = some (.int .i64 (b : Int)) := fun _ => x2
  have y3 : ∀ m, (w1.drewN m).cell? ⟨w.heap.size, 3, none⟩ = some (.int .i64 (c : Int)) := fun _ => x3
  have HB1 := Lib.hid hb1
  clear hreg hm hsl hf hb1 hw1 HC x0 x1 x2 x3 x4
  cases r with
  | none =>
    simp only [arithR] at HK2
    go_wp2_with (fail)
    go_quiet ((go_at_call 128; refine Calls.quiet_of_same (HK2.out _)))
    go_wp2_with (fail)
    go_at_call 127
    refine (HS.out _).mono ?_
    rintro e _ ⟨rfl, rfl⟩
    go_wp2_with (fail)
    exact ⟨rfl, END0.out _ (belowDr HB1.out _) HRES.out⟩
  | some v =>
    simp only [arithR] at HK2
    go_wp2_with (fail)
    go_quiet ((go_at_call 128; refine Calls.quiet_of_same (HK2.out _)))
    have HB2 := Lib.hid (belowDr HB1.out nq)
    have z1 := y1 nq
    have z2 : ∃ y, (w1.drewN nq).drew.cell? ⟨pc, 1 + a, none⟩ = some y := ⟨_, ra nq⟩
    have z3 : (w1.drewN nq).drew.frozen? ⟨pc, 1 + a, none⟩ = false := rf nq
    clear ra rb rc rf y0 y1 y2 y3
    go_wp2_with (fail)
    generalize w1.drewN nq = w2 at *
    go_still_tail 6, (by kernel_rfl)
    change wpList _ _ _ _ _ w2.drew
    have HD := Lib.hid HB2.out.drew
    generalize w2.drew = w3 at *
    obtain ⟨ty, z2⟩ := z2
    go_wp2_with (fail)
    go_end0
    exact END.out w3 HD.out v HRES.out

/-- all of them -/
theorem do_any (w : World) (B pm : Nat) (rest : List Value) (T pc pl par k : Nat) (x : Ni) (l : Lc) (s : Cm) (sv : Value) (hM : MacAt B w pm rest T s sv) (hC : CallAt w pm sv pc pl par l) (hl : LcOk par slo l) (hs : CmOk s) (hx : NiOk k par slo x)
    (h14 : x.op ≠ 14) (h20 : x.op < 20) (hT : s.said.length ≤ 1000000) (hB : B ≤ w.heap.size) :
    Calls Tryd.prog 107 #[.pointer (some ⟨pc, 0, none⟩), x.mi.val] w (DoPost B pm rest T pc pl par x l s sv w) := by
  obtain ⟨op, a, b, c, n⟩ := x
  have ha := hx.a; have hb := hx.b; have hc := hx.c; have ho := hx.op
  have hset := hx.set; have hslot := hx.slot; have hgive := hx.give; have hfetch := hx.fetch
  simp only [] at ha hb hc ho hset hslot hgive hfetch h14 h20
  show Calls Tryd.prog 107 #[.pointer (some ⟨pc, 0, none⟩), .agg #[.int .i64 (op : Int), .int .i64 (a : Int), .int .i64 (b : Int), .int .i64 (c : Int), .int .i64 (n : Int)]] w _
  have hcs : op = 1 ∨ op = 2 ∨ (3 ≤ op ∧ op ≤ 9) ∨ op = 10 ∨ op = 11 ∨ op = 12 ∨ op = 13 ∨ op = 15 ∨ op = 16 ∨ op = 17 ∨ op = 18 ∨ op = 19 := by omega
  rcases hcs with rfl | rfl | ⟨h3, h9⟩ | rfl | rfl | rfl | rfl | rfl | rfl | rfl | rfl | rfl
  · exact do_1 w B pm rest T pc pl par a b c n l s sv hM hC hl hs ha hb
  · exact do_2 w B pm rest T pc pl par a b c n l s sv hM hC hl hs ha hb
  · exact do_ar w B pm rest T pc pl par op a b c n l s sv hM hC hl h3 h9 ha hb hc
  · exact do_10 w B pm rest T pc pl par a b c n l s sv hM hC hl hs ha hb
  · rcases Nat.lt_or_ge (l.reg b) 16 with h | h
    · exact do_11 w B pm rest T pc pl par a b c n l s sv hM hC hl hs ha hb h
    · exact do_11n w B pm rest T pc pl par a b c n l s sv hM hC hl hs ha hb h
  · rcases Nat.lt_or_ge (l.reg a) 16 with h | h
    · exact do_12 w B pm rest T pc pl par a b c n l s sv hM hC hl hs ha hb h
    · exact do_12n w B pm rest T pc pl par a b c n l s sv hM hC hl hs ha hb h
  · exact do_13 w B pm rest T pc pl par a b c n l s sv hM hC hl hs ha hb hT hB
  · exact do_15 w B pm rest T pc pl par a b c n l s sv hM hC hl hs ha hb (hslot (.inl rfl))
  · exact do_16 w B pm rest T pc pl par a b c n l s sv hM hC hl hs ha hb (hslot (.inr rfl))
  · exact do_17 w B pm rest T pc pl par a b c n l s sv hM hC hl hs ha hb (hgive rfl)
  · exact do_18 w B pm rest T pc pl par a b c n l s sv hM hC hl hs ha hb (hfetch rfl)
  · exact do_19 w B pm rest T pc pl par a b c n l s sv hM hC hl hs ha hb

end Go.Proofs.YtbdbmmdnidonjaaDoor
