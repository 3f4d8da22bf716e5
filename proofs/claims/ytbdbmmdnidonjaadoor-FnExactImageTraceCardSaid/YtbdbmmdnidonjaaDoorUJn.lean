/- Marks: what markMach and markIntS store, and where. No conditions but on how many there are. Outcomes: compared, marked, the marks found again. -/
import Derived.Test.YtbdbmmdnidonjaaDoorUJb
import Derived.Test.YtbdbmmdnidonjaaDoorUJa
import Derived.Test.YtbdbmmdnidonjaaDoorUJc
import Derived.Test.YtbdbmmdnidonjaaDoorUJm
set_option linter.unusedVariables false
set_option linter.unusedSimpArgs false
set_option maxRecDepth 100000
namespace Go.Proofs.YtbdbmmdnidonjaaDoor
open Go.RowKit
/-- of what was there, only blocks from B up to E may be other -/
structure Mid (B E : Nat) (w w' : World) : Prop where
 os : w'.os = w.os
 tape : w'.tape = w.tape
 output : w'.output = w.output
 size : w.heap.size ≤ w'.heap.size
 block : ∀ k, k < w.heap.size → (k < B ∨ E ≤ k) → w'.heap[k]? = w.heap[k]?
theorem Mid.refl (B E : Nat) (w : World) : Mid B E w w := ⟨rfl, rfl, rfl, Nat.le_refl _, fun _ _ _ => rfl⟩
theorem Mid.trans {B E : Nat} {a b c : World} (h : Mid B E a b) (k : Mid B E b c) : Mid B E a c :=
 ⟨k.os.trans h.os, k.tape.trans h.tape, k.output.trans h.output, Nat.le_trans h.size k.size, fun i hi hb => (k.block i (Nat.lt_of_lt_of_le hi h.size) hb).trans (h.block i hi hb)⟩
theorem Mid.mono {B E B' E' : Nat} {w w' : World} (h : Mid B E w w') (h1 : B' ≤ B) (h2 : E ≤ E') : Mid B' E' w w' :=
 ⟨h.os, h.tape, h.output, h.size, fun k hk hb => h.block k hk (by omega)⟩
theorem Mid.below {B E : Nat} {w w' : World} (h : Mid B E w w') (hB : B ≤ w.heap.size) : Below B w w' :=
 ⟨h.os, h.tape, h.output, h.size, fun k hk => h.block k (by omega) (.inl hk)⟩
theorem Mid.of_below {B E : Nat} {w w' : World} (h : Below w.heap.size w w') : Mid B E w w' :=
 ⟨h.os, h.tape, h.output, h.size, fun k hk _ => h.block k hk⟩
theorem Mid.setCell {B E : Nat} {w w' : World} (h : Mid B E w w') {a : Addr} (h1 : B ≤ a.block) (h2 : a.block < E) (u : Value) : Mid B E w (w'.setCell a u) := by
 have hb : Below w'.heap.size w' w' := Below.refl _ _
 have h' := hb.setCell (p := a) (B := w'.heap.size)
 refine ⟨h.os, h.tape, h.output, by simpa using h.size, fun k hk hb => ?_⟩
 rw [Below.heap_setCell _ _ _ _ (by omega)]
 exact h.block k hk hb
/-- a block of so many cells, none of them frozen -/
def Row (w : World) (p n : Nat) : Prop := ∃ xs, Blk w p xs ∧ xs.length = n
theorem Row.set {w : World} {p n : Nat} (h : Row w p n) (q j : Nat) (u : Value) : Row (w.setCell ⟨q, j, none⟩ u) p n := by
 obtain ⟨xs, hb, hl⟩ := h
 by_cases hq : p = q
 ·subst hq; exact ⟨_, hb.set j u, by simpa using hl⟩
 ·exact ⟨xs, hb.other (a := ⟨q, j, none⟩) hq u, hl⟩
theorem Row.cell {w : World} {p n : Nat} (h : Row w p n) (j : Nat) (hj : j < n) : ∃ y, w.cell? ⟨p, j, none⟩ = some y := by
 obtain ⟨xs, hb, hl⟩ := h
 rw [hb.cell, List.getElem?_eq_getElem (by omega)]
 exact ⟨_, rfl⟩
theorem Row.frozen {w : World} {p n : Nat} (h : Row w p n) (j : Nat) : w.frozen? ⟨p, j, none⟩ = false := by
 obtain ⟨xs, hb, hl⟩ := h
 exact hb.frozen j
theorem Row.below {w w' : World} {p n : Nat} (h : Row w p n) (hb : Below w.heap.size w w') : Row w' p n := by
 obtain ⟨xs, hx, hl⟩ := h
 exact ⟨xs, hx.below hb, hl⟩
theorem Row.of_own {w : World} {B : Nat} {e : TypeId} {size g n cap : Nat} {ys : List Value} (h : w.ownsRow B e size (.slice (some ⟨g, 0, none⟩) n cap) n ys) : ∃ m, n * size ≤ m ∧ Row w g m := by
 have hl := h.1
 rcases h.2 with ⟨h', _⟩ | ⟨g', cap', cur, h', hb, hg, _, _, hs, ht⟩
 ·simp at h'
 ·simp only [Value.slice.injEq, Option.some.injEq, Addr.mk.injEq, and_true, true_and] at h'
  obtain ⟨rfl, rfl⟩ := h'
  refine ⟨cur.toList.length, ?_, cur.toList, ⟨cur, e, hg, rfl⟩, rfl⟩
  rw [← hl, ← ht]
  simp
  omega
def Keeps (w w' : World) : Prop := ∀ p n, Row w p n → Row w' p n
theorem Keeps.refl (w : World) : Keeps w w := fun _ _ h => h
theorem Keeps.trans {a b c : World} (h : Keeps a b) (k : Keeps b c) : Keeps a c := fun p n hr => k p n (h p n hr)
theorem Keeps.set {a w : World} (h : Keeps a w) (q j : Nat) (u : Value) : Keeps a (w.setCell ⟨q, j, none⟩ u) := fun p n hr => (h p n hr).set q j u
theorem Keeps.of_below {w w' : World} (h : Below w.heap.size w w') : Keeps w w' := fun _ _ hr => hr.below h
/-- a program's rows, from B up to E -/
def Rows3 (B E : Nat) (w : World) (g : Nat) (fs : List Mf) : Prop :=
 B ≤ g ∧ g < E ∧ (∃ m, fs.length * 3 ≤ m ∧ Row w g m) ∧ ∀ i f, fs[i]? = some f → ∃ gi m, gi ≠ g ∧ B ≤ gi ∧ gi < E ∧ w.cell? ⟨g, i * 3 + 2, none⟩ = some (.slice (some ⟨gi, 0, none⟩) f.ins.length f.ins.length) ∧ f.ins.length * 5 ≤ m ∧ Row w gi m
theorem OwnMfs.rows {B : Nat} {w : World} {g cap : Nat} {fs : List Mf} (h : OwnMfs B w g cap fs) : Rows3 B w.heap.size w g fs := by
 obtain ⟨ys, ho, hx⟩ := h
 have hl := ownsRow_lt ho
 refine ⟨hl.2.1, hl.1, Row.of_own ho, fun i f hi => ?_⟩
 have hil := idx_lt hi
 obtain ⟨_, _, gi, hg, h2, hm⟩ := hx i f hi
 have hlm := hm.lt
 obtain ⟨zs, hz, _⟩ := hm
 obtain ⟨m, hm1, hm2⟩ := Row.of_own hz
 exact ⟨gi, m, hg, hlm.2, hlm.1, by rw [ho.cellAt (i * 3 + 2) (by omega)]; exact h2, hm1, hm2⟩
theorem Rows3.below {B E : Nat} {w w' : World} {g : Nat} {fs : List Mf} (h : Rows3 B E w g fs) (hE : E ≤ w.heap.size) (hb : Below w.heap.size w w') : Rows3 B E w' g fs := by
 obtain ⟨h1, h2, ⟨m, h3, h4⟩, h5⟩ := h
 refine ⟨h1, h2, ⟨m, h3, h4.below hb⟩, fun i f hi => ?_⟩
 obtain ⟨gi, m, a1, a2, a3, a4, a5, a6⟩ := h5 i f hi
 exact ⟨gi, m, a1, a2, a3, by rw [hb.cell (p := ⟨g, i * 3 + 2, none⟩) (by simp only []; omega)]; exact a4, a5, a6.below hb⟩
/-- marks in a row of ints; what stands elsewhere stands -/
def MarkO (B : Nat) (v : Value) (n k : Nat) (w : World) (e : Ending) (w' : World) : Prop :=
 e = .returned (.int .i64 ((k + n : Nat) : Int)) ∧ w'.ownsRow B 3 1 v n (ints (iota k n)) ∧ Only v.ownBlock.toList w w'
set_option maxHeartbeats 1000000 in
theorem markIntS_only (w : World) (B : Nat) (v : Value) (n k : Nat) (xs : List Value) (h : w.ownsRow B 3 1 v n xs) (hk : k + n ≤ 1152921504606846976) :
  Calls Tryd.prog 28 #[v, .int .i64 k] w (MarkO B v n k w) := by
 by_cases hv : v = .slice none 0 0
 ·subst hv
  have hn : n = 0 := by
   rcases h.2 with ⟨_, h⟩ | ⟨_, _, _, h, _⟩
   ·exact h
   ·cases h
  subst hn
  go_enter Tryd.func28, Tryd.ntmps28
  go_wp2
  refine wp_loop_rounds 1 ?_
  rw [rounds_succ]
  go_wp2
  go_ret
  exact ⟨rfl, ⟨rfl, .inl ⟨rfl, rfl⟩⟩, Only.refl _ _⟩
 obtain ⟨g, cap, rfl⟩ := ownsRow_form h hv
 have HO := Lib.hid h
 clear h hv
 go_enter Tryd.func28, Tryd.ntmps28
 go_wp2
 go_loopw [1, 5] (fun q i wr => ∃ (j : Nat) (ys : List Value), j ≤ n ∧ i = .int .i64 j ∧ q = .int .i64 ((k + j : Nat) : Int) ∧ wr.ownsRow B 3 1 (.slice (some ⟨g, 0, none⟩) n cap) n ys ∧ Hid (∀ i, i < j → ys[i]? = some (.int .i64 ((k + i : Nat) : Int))) ∧ Only [g] w wr) (fun _ i _ => n - (intOf i).toNat)
 case atStart => exact ⟨0, xs, Nat.zero_le _, rfl, rfl, HO.out, by simp [Hid], Only.refl _ _⟩
 case round =>
  obtain ⟨j, ys, hj, rfl, rfl, hown, hys, hB⟩ := hrel
  obtain ⟨wo, rfl⟩ : ∃ wo : World, wo = wr := ⟨_, rfl⟩
  by_cases hlt : j < n
  ·have hlen : ys.length = n := by have := hown.1; omega
   have hfz := hown.frozenAt j
   have hck := hown.cellAt j (by omega)
   rw [List.getElem?_eq_getElem (by omega)] at hck
   have HST := Lib.hid (hown.stored j (.int .i64 ((k + j : Nat) : Int)))
   have HB' := Lib.hid (hB.setCell (p := ⟨g, j, none⟩) (List.mem_singleton.2 rfl) (.int .i64 ((k + j : Nat) : Int)))
   clear hown hB
   have hcast : ((k + j : Nat) : Int) = (k : Int) + j := by omega
   go_wp2
   go_roundw
   case rel =>
    refine ⟨j + 1, _, by omega, by go_num, by congr 1, HST.out.1, ?_, HB'.out⟩
    show ∀ i, _
    intro i hi
    by_cases hij : i = j
    ·subst hij
     rw [List.getElem?_set_self (by omega)]
    ·rw [List.getElem?_set_ne (by omega)]
     exact hys.out i (by omega)
   case measure => simp [intOf]; omega
  ·obtain rfl : j = n := by omega
   have hyi : ys = ints (iota k j) := by
    have hlen : ys.length = j := by have := hown.1; omega
    apply List.ext_getElem?
    intro i
    by_cases hi : i < j
    ·rw [hys.out i hi]
     simp [ints, iota, hi]
    ·rw [List.getElem?_eq_none (by omega), List.getElem?_eq_none (by simp [ints, iota]; omega)]
   subst hyi
   have HOW := Lib.hid hown
   have HB' := Lib.hid hB
   clear hown hB
   go_wp2
   go_ret
   exact ⟨rfl, HOW.out, HB'.out⟩
end Go.Proofs.YtbdbmmdnidonjaaDoor
set_option maxRecDepth 100000
namespace Go.Proofs.YtbdbmmdnidonjaaDoor
open Go.RowKit
theorem Blk.c4 {w : World} {p : Nat} {x0 x1 x2 x3 : Value} (h : Blk w p [x0, x1, x2, x3]) : w.cell? ⟨p, 0, none⟩ = some x0 ∧ w.cell? ⟨p, 1, none⟩ = some x1 ∧ w.cell? ⟨p, 2, none⟩ = some x2 ∧ w.cell? ⟨p, 3, none⟩ = some x3 := by
 refine ⟨?_, ?_, ?_, ?_⟩
 all_goals rw [h.cell]; rfl
theorem Blk.c1 {w : World} {p : Nat} {x0 : Value} (h : Blk w p [x0]) : w.cell? ⟨p, 0, none⟩ = some x0 := by rw [h.cell]; rfl
theorem OutRd.form {w : World} {o : Option Rs} {v : Value} (h : OutRd w o v) : ∃ sa sn sc en vl ca cn cc, v = .agg #[.slice sa sn sc, .int .i64 en, .int .i64 vl, .slice ca cn cc] := by
 cases o with
 |none => exact ⟨_, _, _, _, _, _, _, _, h⟩
 |some r =>
  obtain ⟨sa, sn, sc, ca, cc, hv, _⟩ := h
  exact ⟨_, _, _, _, _, _, _, _, hv⟩
/-- two readings of one outcome -/
theorem OutRd.two {w : World} {o : Option Rs} {sa sb : Option Addr} {sn sm sc sd : Nat} {en em vl vm : Int} {ca cb : Option Addr} {cn cm cc cd : Nat} (h : OutRd w o (.agg #[.slice sa sn sc, .int .i64 en, .int .i64 vl, .slice ca cn cc])) (k : OutRd w o (.agg #[.slice sb sm sd, .int .i64 em, .int .i64 vm, .slice cb cm cd])) :
  en = em ∧ vl = vm ∧ ∃ xs ys, IntsAt w (.slice sa sn sc) xs ∧ IntsAt w (.slice sb sm sd) xs ∧ IntsAt w (.slice ca cn cc) ys ∧ IntsAt w (.slice cb cm cd) ys := by
 cases o with
 |none =>
  unfold OutRd at h k
  simp only [Value.agg.injEq, Array.mk.injEq, List.cons.injEq, and_true, Value.slice.injEq, Value.int.injEq, true_and] at h k
  obtain ⟨⟨rfl, rfl, rfl⟩, rfl, rfl, ⟨rfl, rfl, rfl⟩⟩ := h
  obtain ⟨⟨rfl, rfl, rfl⟩, rfl, rfl, ⟨rfl, rfl, rfl⟩⟩ := k
  have hn : IntsAt w (.slice none 0 0) [] := ⟨none, 0, rfl, by simp⟩
  exact ⟨rfl, rfl, [], [], hn, hn, hn, hn⟩
 |some r =>
  obtain ⟨a1, a2, a3, a4, a5, hv, h1, h2, _⟩ := h
  obtain ⟨b1, b2, b3, b4, b5, kv, k1, k2, _⟩ := k
  simp only [Value.agg.injEq, Array.mk.injEq, List.cons.injEq, and_true, Value.slice.injEq, Value.int.injEq, true_and] at hv kv
  obtain ⟨⟨rfl, rfl, rfl⟩, rfl, rfl, ⟨rfl, rfl, rfl⟩⟩ := hv
  obtain ⟨⟨rfl, rfl, rfl⟩, rfl, rfl, ⟨rfl, rfl, rfl⟩⟩ := kv
  exact ⟨rfl, rfl, _, _, h1, k1, h2, k2⟩
set_option maxHeartbeats 1000000 in
theorem eqOutcome_same (w : World) (o : Option Rs) (sa sb : Option Addr) (sn sm sc sd : Nat) (en em vl vm : Int) (ca cb : Option Addr) (cn cm cc cd : Nat) (h : OutRd w o (.agg #[.slice sa sn sc, .int .i64 en, .int .i64 vl, .slice ca cn cc])) (k : OutRd w o (.agg #[.slice sb sm sd, .int .i64 em, .int .i64 vm, .slice cb cm cd])) (hsn : sn ≤ 1099511627776) (hcn : cn ≤ 1099511627776) :
  Calls Tryd.prog 26 #[.agg #[.slice sa sn sc, .int .i64 en, .int .i64 vl, .slice ca cn cc], .agg #[.slice sb sm sd, .int .i64 em, .int .i64 vm, .slice cb cm cd]] w (Yes w) := by
 obtain ⟨rfl, rfl, xs, ys, h1, h2, h3, h4⟩ := h.two k
 have hx : xs.length ≤ 1099511627776 := by
  obtain ⟨_, _, he, _⟩ := h1
  injection he with _ he
  omega
 have hy : ys.length ≤ 1099511627776 := by
  obtain ⟨_, _, he, _⟩ := h3
  injection he with _ he
  omega
 have HS := Lib.hid (fun w' (hb : Below w.heap.size w w') => eqInts (h1.below hb) (h2.below hb) hx)
 have HC := Lib.hid (fun w' (hb : Below w.heap.size w w') => eqInts (h3.below hb) (h4.below hb) hy)
 clear h k h1 h2 h3 h4 hx hy
 go_enter Tryd.func26, Tryd.ntmps26
 go_wp2_with (fail)
 go_at_call 21
 refine (HS.out _ (below2 _ _ _)).mono ?_
 rintro e w1 ⟨rfl, hb⟩
 obtain ⟨hc, _⟩ := bcell hb
 have p1 : w1.cell? ⟨w.heap.size, 1, none⟩ = some (.int .i64 en) := by rw [hc _ _ (by simp; omega)]; simp [go_sem]
 have p2 : w1.cell? ⟨w.heap.size, 2, none⟩ = some (.int .i64 vl) := by rw [hc _ _ (by simp; omega)]; simp [go_sem]
 have p3 : w1.cell? ⟨w.heap.size, 3, none⟩ = some (.slice ca cn cc) := by rw [hc _ _ (by simp; omega)]; simp [go_sem]
 have q1 : w1.cell? ⟨w.heap.size + 1, 1, none⟩ = some (.int .i64 en) := by rw [hc _ _ (by simp)]; simp [go_sem]
 have q2 : w1.cell? ⟨w.heap.size + 1, 2, none⟩ = some (.int .i64 vl) := by rw [hc _ _ (by simp)]; simp [go_sem]
 have q3 : w1.cell? ⟨w.heap.size + 1, 3, none⟩ = some (.slice cb cm cd) := by rw [hc _ _ (by simp)]; simp [go_sem]
 have HB := Lib.hid ((below2 w _ _).trans (hb.mono (by simp; omega)))
 have e1 : (en != en) = false := by simp
 have e2 : (vl != vl) = false := by simp
 clear hb hc HS
 go_wp2_with (fail)
 go_at_call 21
 refine (HC.out _ HB.out).mono ?_
 rintro e w2 ⟨rfl, hb⟩
 have HB2 := Lib.hid (HB.out.trans (hb.mono HB.out.size))
 clear hb HC HB
 go_wp2_with (fail)
 go_ret
 exact ⟨rfl, HB2.out⟩
/-- an outcome's two rows, the call's own from B on -/
structure OutOwn (w : World) (B : Nat) (sa : Option Addr) (sn sc : Nat) (ca : Option Addr) (cn cc : Nat) (xs ys : List Value) : Prop where
 s : w.ownsRow B 3 1 (.slice sa sn sc) sn xs
 c : w.ownsRow B 3 1 (.slice ca cn cc) cn ys
 ap : Apart2 (.slice ca cn cc) (.slice sa sn sc)
theorem OutAt.own {w : World} {B : Nat} {o : Option Rs} {sa : Option Addr} {sn sc : Nat} {en vl : Int} {ca : Option Addr} {cn cc : Nat} (h : OutAt w B o (.agg #[.slice sa sn sc, .int .i64 en, .int .i64 vl, .slice ca cn cc])) : ∃ xs ys, OutOwn w B sa sn sc ca cn cc xs ys := by
 cases o with
 |none =>
  unfold OutAt at h
  simp only [Value.agg.injEq, Array.mk.injEq, List.cons.injEq, and_true, Value.slice.injEq, Value.int.injEq, true_and] at h
  obtain ⟨⟨rfl, rfl, rfl⟩, rfl, rfl, ⟨rfl, rfl, rfl⟩⟩ := h
  exact ⟨[], [], World.ownsRow_nil _ _ _ _, World.ownsRow_nil _ _ _ _, fun k hk => by simp [Value.ownBlock] at hk⟩
 |some r =>
  obtain ⟨a1, a2, a3, a4, a5, hv, h1, h2, h3⟩ := h
  simp only [Value.agg.injEq, Array.mk.injEq, List.cons.injEq, and_true, Value.slice.injEq, Value.int.injEq, true_and] at hv
  obtain ⟨⟨rfl, rfl, rfl⟩, rfl, rfl, ⟨rfl, rfl, rfl⟩⟩ := hv
  obtain ⟨a, c, hform⟩ := saidForm h1
  have hn : sn = r.cm.said.length := by injection hform
  exact ⟨_, _, by rw [hn]; rw [hn] at h1; exact h1, h2, by rw [← hn] at *; exact h3⟩
theorem OutAt.keep {w w' : World} {B : Nat} {o : Option Rs} {v : Value} (h : OutAt w B o v) (hh : ∀ k, B ≤ k → k < w.heap.size → w'.heap[k]? = w.heap[k]?) : OutAt w' B o v := by
 cases o with
 |none => exact h
 |some r =>
  obtain ⟨a1, a2, a3, a4, a5, hv, h1, h2, h3⟩ := h
  exact ⟨a1, a2, a3, a4, a5, hv, row_keep h1 (Nat.le_refl _) hh, row_keep h2 (Nat.le_refl _) hh, h3⟩
theorem OutAt.below {w w' : World} {B : Nat} {o : Option Rs} {v : Value} (h : OutAt w B o v) (hb : Below w.heap.size w w') : OutAt w' B o v := h.keep fun k _ hk => hb.block k hk
theorem OutOwn.below {w w' : World} {B : Nat} {sa : Option Addr} {sn sc : Nat} {ca : Option Addr} {cn cc : Nat} {xs ys : List Value} (h : OutOwn w B sa sn sc ca cn cc xs ys) (hb : Below w.heap.size w w') : OutOwn w' B sa sn sc ca cn cc xs ys :=
 ⟨ownsRow_below h.s hb, ownsRow_below h.c hb, h.ap⟩
theorem OutAt.lens {w : World} {B : Nat} {o : Option Rs} {sa : Option Addr} {sn sc : Nat} {en vl : Int} {ca : Option Addr} {cn cc : Nat} (h : OutAt w B o (.agg #[.slice sa sn sc, .int .i64 en, .int .i64 vl, .slice ca cn cc])) (hs : ∀ r, o = some r → r.cm.said.length ≤ 1048576) : sn ≤ 1048576 ∧ cn ≤ 16 := by
 cases o with
 |none =>
  unfold OutAt at h
  simp only [Value.agg.injEq, Array.mk.injEq, List.cons.injEq, and_true, Value.slice.injEq, Value.int.injEq, true_and] at h
  obtain ⟨⟨rfl, rfl, rfl⟩, rfl, rfl, ⟨rfl, rfl, rfl⟩⟩ := h
  omega
 |some r =>
  obtain ⟨a1, a2, a3, a4, a5, hv, h1, h2, h3⟩ := h
  simp only [Value.agg.injEq, Array.mk.injEq, List.cons.injEq, and_true, Value.slice.injEq, Value.int.injEq, true_and] at hv
  obtain ⟨⟨rfl, rfl, rfl⟩, rfl, rfl, ⟨rfl, rfl, rfl⟩⟩ := hv
  obtain ⟨a, c, hform⟩ := saidForm h1
  have hn : sn = r.cm.said.length := by injection hform
  have := hs r rfl
  omega
def MarkOut (B : Nat) (sa : Option Addr) (sn sc : Nat) (ca : Option Addr) (cn cc k : Nat) (w : World) (e : Ending) (w' : World) : Prop :=
 e = .returned (.int .i64 ((k + sn + cn : Nat) : Int)) ∧ OutOwn w' B sa sn sc ca cn cc (ints (iota k sn)) (ints (iota (k + sn) cn)) ∧ Below B w w' ∧ Only ((Value.slice sa sn sc).ownBlock.toList ++ (Value.slice ca cn cc).ownBlock.toList) w w'
set_option maxHeartbeats 1000000 in
theorem markOutcome_any (w : World) (B : Nat) (sa : Option Addr) (sn sc : Nat) (en vl : Int) (ca : Option Addr) (cn cc k : Nat) (xs ys : List Value) (h : OutOwn w B sa sn sc ca cn cc xs ys) (hB : B ≤ w.heap.size) (hk : k + sn + cn ≤ 1099511627776) :
  Calls Tryd.prog 29 #[.agg #[.slice sa sn sc, .int .i64 en, .int .i64 vl, .slice ca cn cc], .int .i64 (k : Int)] w (MarkOut B sa sn sc ca cn cc k w) := by
 have HO := Lib.hid h
 clear h
 go_enter Tryd.func29, Tryd.ntmps29
 go_wp2_with (fail)
 go_at_call 28
 generalize hw1 : w.alloc _ = w1
 have hb1 : Below w.heap.size w w1 := by rw [← hw1]; exact below1 _ _
 have hs1 : w1.heap.size = w.heap.size + 1 := by rw [← hw1]; simp
 have p3 : w1.cell? ⟨w.heap.size, 3, none⟩ = some (.slice ca cn cc) := by rw [← hw1]; simp [go_sem]
 have hO1 := HO.out.below hb1
 have hlt := fun k hk => World.ownsRow.lt HO.out.s k hk
 have HB1 := Lib.hid hb1
 have HO1 := Lib.hid hO1
 have HLT := Lib.hid hlt
 clear hw1 hb1 hO1 hlt HO
 refine (markIntS_only w1 B _ sn k _ HO1.out.s (by omega)).mono ?_
 rintro e w2 ⟨rfl, ho2, hF2⟩
 have q3 : w2.cell? ⟨w.heap.size, 3, none⟩ = some (.slice ca cn cc) := by
  rw [World.cell?_of_block (a := ⟨w.heap.size, 3, none⟩) (hF2.block w.heap.size (by omega) (fun hm => by
   have hm : Value.ownBlock (.slice sa sn sc) = some w.heap.size := by simpa using hm
   have := (HLT.out _ hm).2; omega))]
  exact p3
 have hc2 : w2.ownsRow B 3 1 (.slice ca cn cc) cn ys := ownsRow_same HO1.out.c (fun k hk => hF2.block k (World.ownsRow.lt HO1.out.c k hk).2 (fun hm => HO1.out.ap k hk (by simpa using hm)))
 have hB2 : Below B w w2 := (HB1.out.mono hB).trans (Only.below (Below.refl _ _) hF2 (by omega) (fun q hq => by
   have hq : Value.ownBlock (.slice sa sn sc) = some q := by simpa using hq
   exact (HLT.out q hq).1))
 have HS2 := Lib.hid ho2
 have HC2 := Lib.hid hc2
 have HB2 := Lib.hid hB2
 have HF2 := Lib.hid ((Only.of_below HB1.out _).trans hF2)
 clear ho2 hF2 hc2 hB2 p3 HB1
 go_wp2_with (fail)
 go_at_call 28
 refine (markIntS_only w2 B _ cn (k + sn) _ HC2.out (by omega)).mono ?_
 rintro e w3 ⟨rfl, ho3, hF3⟩
 have hs3 : w3.ownsRow B 3 1 (.slice sa sn sc) sn (ints (iota k sn)) := ownsRow_same HS2.out (fun k hk => hF3.block k (World.ownsRow.lt HS2.out k hk).2 (fun hm => HO1.out.ap k (by simpa using hm) hk))
 have HE : Hid (MarkOut B sa sn sc ca cn cc k w (.returned (.int .i64 ((k + sn + cn : Nat) : Int))) w3) := Lib.hid ⟨rfl, ⟨hs3, ho3, HO1.out.ap⟩, HB2.out.trans (Only.below (Below.refl _ _) hF3 (Nat.le_trans hB HB2.out.size) (fun q hq => by
   have hq : Value.ownBlock (.slice ca cn cc) = some q := by simpa using hq
   exact (World.ownsRow.lt HC2.out q hq).1)), (HF2.out.mono (fun x hx => List.mem_append_left _ hx)).trans (hF3.mono (fun x hx => List.mem_append_right _ hx))⟩
 clear ho3 hF3 hs3 HS2 HC2 HB2 q3
 go_wp2_with (fail)
 go_ret
 exact HE.out
set_option maxHeartbeats 1000000 in
theorem heldOutcome_any (w : World) (B : Nat) (sa : Option Addr) (sn sc : Nat) (en vl : Int) (ca : Option Addr) (cn cc k : Nat) (h : OutOwn w B sa sn sc ca cn cc (ints (iota k sn)) (ints (iota (k + sn) cn))) (hk : k + sn + cn ≤ 1099511627776) :
  Calls Tryd.prog 30 #[.agg #[.slice sa sn sc, .int .i64 en, .int .i64 vl, .slice ca cn cc], .int .i64 (k : Int)] w fun e w' => e = .returned (.int .i64 ((k + sn + cn : Nat) : Int)) ∧ Below w.heap.size w w' := by
 have HS : Hid (∀ w', Below w.heap.size w w' → IntsAt w' (.slice sa sn sc) (iota k sn)) := Lib.hid fun w' hb => intsAt_of (by rw [iota_length]; exact (h.below hb).s)
 have HC : Hid (∀ w', Below w.heap.size w w' → IntsAt w' (.slice ca cn cc) (iota (k + sn) cn)) := Lib.hid fun w' hb => intsAt_of (by rw [iota_length]; exact (h.below hb).c)
 clear h
 go_enter Tryd.func30, Tryd.ntmps30
 go_wp2_with (fail)
 go_at_call 45
 generalize hw1 : w.alloc _ = w1
 have hb1 : Below w.heap.size w w1 := by rw [← hw1]; exact below1 _ _
 have p3 : w1.cell? ⟨w.heap.size, 3, none⟩ = some (.slice ca cn cc) := by rw [← hw1]; simp [go_sem]
 have HB1 := Lib.hid hb1
 clear hw1 hb1
 refine (heldIntS_any w1 _ sn k (HS.out w1 HB1.out) (by omega)).mono ?_
 rintro e _ ⟨rfl, rfl⟩
 obtain ⟨q, hq⟩ : ∃ q : Nat, k + sn = q := ⟨_, rfl⟩
 rw [hq] at HC hk ⊢
 have hq0 : (0 : Int) ≤ (q : Int) := by omega
 have HQ := Lib.hid hq
 clear HS hq
 go_wp2_with (fail)
 go_at_call 45
 refine (heldIntS_any w1 _ cn q (HC.out w1 HB1.out) (by omega)).mono ?_
 rintro e _ ⟨rfl, rfl⟩
 obtain ⟨z, hz⟩ : ∃ z : Nat, q + cn = z := ⟨_, rfl⟩
 rw [hz]
 have hz0 : (0 : Int) ≤ (z : Int) := by omega
 have HZ := Lib.hid hz
 clear HC hz
 go_wp2_with (fail)
 go_ret
 refine ⟨?_, HB1.out⟩
 rw [HQ.out, HZ.out]
 rfl
end Go.Proofs.YtbdbmmdnidonjaaDoor
