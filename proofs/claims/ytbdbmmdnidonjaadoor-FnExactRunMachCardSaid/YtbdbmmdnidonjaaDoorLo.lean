/- Outcomes: compared, marked, the marks found again. -/
import Derived.Test.YtbdbmmdnidonjaaDoorSh
import Derived.Test.YtbdbmmdnidonjaaDoorMm
set_option maxRecDepth 100000
namespace Go.Proofs.YtbdbmmdnidonjaaDoor
open Go.RowKit

theorem Blk.c4 {w : World} {p : Nat} {x0 x1 x2 x3 : Value} (h : Blk w p [x0, x1, x2, x3]) : w.cell? ⟨p, 0, none⟩ = some x0 ∧ w.cell? ⟨p, 1, none⟩ = some x1 ∧ w.cell? ⟨p, 2, none⟩ = some x2 ∧ w.cell? ⟨p, 3, none⟩ = some x3 := by
  refine ⟨?_, ?_, ?_, ?_⟩
  all_goals rw [h.cell]; rfl
theorem Blk.c1 {w : World} {p : Nat} {x0 : Value} (h : Blk w p [x0]) : w.cell? ⟨p, 0, none⟩ = some x0 := by rw [h.cell]; rfl

theorem OutRd.form {w : World} {o : Option Rs} {v : Value} (h : OutRd w o v) : ∃ sa sn sc en vl ca cn cc, v = .agg #[.slice sa sn sc, .int .i64 en, .int .i64 vl, .slice ca cn cc] := by
  cases o with
  | none => exact ⟨_, _, _, _, _, _, _, _, h⟩
  | some r =>
    obtain ⟨sa, sn, sc, ca, cc, hv, _⟩ := h
    exact ⟨_, _, _, _, _, _, _, _, hv⟩

/-- two readings of one outcome -/
theorem OutRd.two {w : World} {o : Option Rs} {sa sb : Option Addr} {sn sm sc sd : Nat} {en em vl vm : Int} {ca cb : Option Addr} {cn cm cc cd : Nat} (h : OutRd w o (.agg #[.slice sa sn sc, .int .i64 en, .int .i64 vl, .slice ca cn cc])) (k : OutRd w o (.agg #[.slice sb sm sd, .int .i64 em, .int .i64 vm, .slice cb cm cd])) :
    en = em ∧ vl = vm ∧ ∃ xs ys, IntsAt w (.slice sa sn sc) xs ∧ IntsAt w (.slice sb sm sd) xs ∧ IntsAt w (.slice ca cn cc) ys ∧ IntsAt w (.slice cb cm cd) ys := by
  cases o with
  | none =>
    unfold OutRd at h k
    simp only [Value.agg.injEq, Array.mk.injEq, List.cons.injEq, and_true, Value.slice.injEq, Value.int.injEq, true_and] at h k
    obtain ⟨⟨rfl, rfl, rfl⟩, rfl, rfl, ⟨rfl, rfl, rfl⟩⟩ := h
    obtain ⟨⟨rfl, rfl, rfl⟩, rfl, rfl, ⟨rfl, rfl, rfl⟩⟩ := k
    have hn : IntsAt w (.slice none 0 0) [] := ⟨none, 0, rfl, by simp⟩
    exact ⟨rfl, rfl, [], [], hn, hn, hn, hn⟩
  | some r =>
    obtain ⟨a1, a2, a3, a4, a5, hv, h1, h2, _⟩ := h
    obtain ⟨b1, b2, b3, b4, b5, kv, k1, k2, _⟩ := k
    simp only [Value.agg.injEq, Array.mk.injEq, List.cons.injEq, and_true, Value.slice.injEq, Value.int.injEq, true_and] at hv kv
    obtain ⟨⟨rfl, rfl, rfl⟩, rfl, rfl, ⟨rfl, rfl, rfl⟩⟩ := hv
    obtain ⟨⟨rfl, rfl, rfl⟩, rfl, rfl, ⟨rfl, rfl, rfl⟩⟩ := kv
    exact ⟨rfl, rfl, _, _, h1, k1, h2, k2⟩

set_option maxHeartbeats 1000000 in
theorem eqOutcome_same (w : World) (o : Option Rs) (sa sb : Option Addr) (sn sm sc sd : Nat) (en em vl vm : Int) (ca cb : Option Addr) (cn cm cc cd : Nat) (h : OutRd w o (.agg #[.slice sa sn sc, .int .i64 en, .int .i64 vl, .slice ca cn cc])) (k : OutRd w o (.agg #[.slice sb sm sd, .int .i64 em, .int .i64 vm, .slice cb cm cd])) (hsn : sn ≤ 1099511627776) (hcn : cn ≤ 1099511627776) :
    Calls Tryd.prog 26 #[.agg #[.slice sa sn sc, .int .i64 en, .int .i64 vl, .slice ca cn cc], .agg #[.slice sb sm sd, .int .i64 em, .int .i64 vm, .slice cb cm cd]] w (Yes w) := by
  obtain ⟨rfl, rfl, xs, ys, h1, h2, h3, h4⟩ := h.two k
  have hx : xs.length ≤ 1099511627776 := by
    obtain ⟨_, _, he, _⟩ := h1
    injection he with _ he
    omega
  have hy : ys.length ≤ 1099511627776 := by
    obtain ⟨_, _, he, _⟩ := h3
    injection he with _ he
    omega
  have HS := Lib.hid (fun w' (hb : Below w.heap.size w w') => eqInts (h1.below hb) (h2.below hb) hx)
  have HC := Lib.hid (fun w' (hb : Below w.heap.size w w') => eqInts (h3.below hb) (h4.below hb) hy)
  clear h k h1 h2 h3 h4 hx hy
  go_enter Tryd.func26, Tryd.ntmps26
  go_wp2_with (fail)
  go_at_call 21
  refine (HS.out _ (below2 _ _ _)).mono ?_
  rintro e w1 ⟨rfl, hb⟩
  obtain ⟨hc, _⟩ := bcell hb
  have p1 : w1.cell? ⟨w.heap.size, 1, none⟩ = some (.int .i64 en) := by rw [hc _ _ (by simp; omega)]; simp [go_sem]
  have p2 : w1.cell? ⟨w.heap.size, 2, none⟩ = some (.int .i64 vl) := by rw [hc _ _ (by simp; omega)]; simp [go_sem]
  have p3 : w1.cell? ⟨w.heap.size, 3, none⟩ = some (.slice ca cn cc) := by rw [hc _ _ (by simp; omega)]; simp [go_sem]
  have q1 : w1.cell? ⟨w.heap.size + 1, 1, none⟩ = some (.int .i64 en) := by rw [hc _ _ (by simp)]; simp [go_sem]
  have q2 : w1.cell? ⟨w.heap.size + 1, 2, none⟩ = some (.int .i64 vl) := by rw [hc _ _ (by simp)]; simp [go_sem]
  have q3 : w1.cell? ⟨w.heap.size + 1, 3, none⟩ = some (.slice cb cm cd) := by rw [hc _ _ (by simp)]; simp [go_sem]
  have HB := Lib.hid ((below2 w _ _).trans (hb.mono (by simp; omega)))
  have e1 : (en != en) = false := by simp
  have e2 : (vl != vl) = false := by simp
  clear hb hc HS
  go_wp2_with (fail)
  go_at_call 21
  refine (HC.out _ HB.out).mono ?_
  rintro e w2 ⟨rfl, hb⟩
  have HB2 := Lib.hid (HB.out.trans (hb.mono HB.out.size))
  clear hb HC HB
  go_wp2_with (fail)
  go_ret
  exact ⟨rfl, HB2.out⟩

/-- an outcome's two rows, the call's own from B on -/
structure OutOwn (w : World) (B : Nat) (sa : Option Addr) (sn sc : Nat) (ca : Option Addr) (cn cc : Nat) (xs ys : List Value) : Prop where
  s : w.ownsRow B 3 1 (.slice sa sn sc) sn xs
  c : w.ownsRow B 3 1 (.slice ca cn cc) cn ys
  ap : Apart2 (.slice ca cn cc) (.slice sa sn sc)
theorem OutAt.own {w : World} {B : Nat} {o : Option Rs} {sa : Option Addr} {sn sc : Nat} {en vl : Int} {ca : Option Addr} {cn cc : Nat} (h : OutAt w B o (.agg #[.slice sa sn sc, .int .i64 en, .int .i64 vl, .slice ca cn cc])) : ∃ xs ys, OutOwn w B sa sn sc ca cn cc xs ys := by
  cases o with
  | none =>
    unfold OutAt at h
    simp only [Value.agg.injEq, Array.mk.injEq, List.cons.injEq, and_true, Value.slice.injEq, Value.int.injEq, true_and] at h
    obtain ⟨⟨rfl, rfl, rfl⟩, rfl, rfl, ⟨rfl, rfl, rfl⟩⟩ := h
    exact ⟨[], [], World.ownsRow_nil _ _ _ _, World.ownsRow_nil _ _ _ _, fun k hk => by simp [Value.ownBlock] at hk⟩
  | some r =>
    obtain ⟨a1, a2, a3, a4, a5, hv, h1, h2, h3⟩ := h
    simp only [Value.agg.injEq, Array.mk.injEq, List.cons.injEq, and_true, Value.slice.injEq, Value.int.injEq, true_and] at hv
    obtain ⟨⟨rfl, rfl, rfl⟩, rfl, rfl, ⟨rfl, rfl, rfl⟩⟩ := hv
    obtain ⟨a, c, hform⟩ := saidForm h1
    have hn : sn = r.cm.said.length := by injection hform
    exact ⟨_, _, by rw [hn]; rw [hn] at h1; exact h1, h2, by rw [← hn] at *; exact h3⟩
theorem OutAt.keep {w w' : World} {B : Nat} {o : Option Rs} {v : Value} (h : OutAt w B o v) (hh : ∀ k, B ≤ k → k < w.heap.size → w'.heap[k]? = w.heap[k]?) : OutAt w' B o v := by
  cases o with
  | none => exact h
  | some r =>
    obtain ⟨a1, a2, a3, a4, a5, hv, h1, h2, h3⟩ := h
    exact ⟨a1, a2, a3, a4, a5, hv, row_keep h1 (Nat.le_refl _) hh, row_keep h2 (Nat.le_refl _) hh, h3⟩
theorem OutAt.below {w w' : World} {B : Nat} {o : Option Rs} {v : Value} (h : OutAt w B o v) (hb : Below w.heap.size w w') : OutAt w' B o v := h.keep fun k _ hk => hb.block k hk
theorem OutOwn.below {w w' : World} {B : Nat} {sa : Option Addr} {sn sc : Nat} {ca : Option Addr} {cn cc : Nat} {xs ys : List Value} (h : OutOwn w B sa sn sc ca cn cc xs ys) (hb : Below w.heap.size w w') : OutOwn w' B sa sn sc ca cn cc xs ys :=
  ⟨ownsRow_below h.s hb, ownsRow_below h.c hb, h.ap⟩
theorem OutAt.lens {w : World} {B : Nat} {o : Option Rs} {sa : Option Addr} {sn sc : Nat} {en vl : Int} {ca : Option Addr} {cn cc : Nat} (h : OutAt w B o (.agg #[.slice sa sn sc, .int .i64 en, .int .i64 vl, .slice ca cn cc])) (hs : ∀ r, o = some r → r.cm.said.length ≤ 1048576) : sn ≤ 1048576 ∧ cn ≤ 16 := by
  cases o with
  | none =>
    unfold OutAt at h
    simp only [Value.agg.injEq, Array.mk.injEq, List.cons.injEq, and_true, Value.slice.injEq, Value.int.injEq, true_and] at h
    obtain ⟨⟨rfl, rfl, rfl⟩, rfl, rfl, ⟨rfl, rfl, rfl⟩⟩ := h
    omega
  | some r =>
    obtain ⟨a1, a2, a3, a4, a5, hv, h1, h2, h3⟩ := h
    simp only [Value.agg.injEq, Array.mk.injEq, List.cons.injEq, and_true, Value.slice.injEq, Value.int.injEq, true_and] at hv
    obtain ⟨⟨rfl, rfl, rfl⟩, rfl, rfl, ⟨rfl, rfl, rfl⟩⟩ := hv
    obtain ⟨a, c, hform⟩ := saidForm h1
    have hn : sn = r.cm.said.length := by injection hform
    have := hs r rfl
    omega

def MarkOut (B : Nat) (sa : Option Addr) (sn sc : Nat) (ca : Option Addr) (cn cc k : Nat) (w : World) (e : Ending) (w' : World) : Prop :=
  e = .returned (.int .i64 ((k + sn + cn : Nat) : Int)) ∧ OutOwn w' B sa sn sc ca cn cc (ints (iota k sn)) (ints (iota (k + sn) cn)) ∧ Below B w w' ∧ Only ((Value.slice sa sn sc).ownBlock.toList ++ (Value.slice ca cn cc).ownBlock.toList) w w'

set_option maxHeartbeats 1000000 in
theorem markOutcome_any (w : World) (B : Nat) (sa : Option Addr) (sn sc : Nat) (en vl : Int) (ca : Option Addr) (cn cc k : Nat) (xs ys : List Value) (h : OutOwn w B sa sn sc ca cn cc xs ys) (hB : B ≤ w.heap.size) (hk : k + sn + cn ≤ 1099511627776) :
    Calls Tryd.prog 29 #[.agg #[.slice sa sn sc, .int .i64 en, .int .i64 vl, .slice ca cn cc], .int .i64 (k : Int)] w (MarkOut B sa sn sc ca cn cc k w) := by
  have HO := Lib.hid h
  clear h
  go_enter Tryd.func29, Tryd.ntmps29
  go_wp2_with (fail)
  go_at_call 28
  generalize hw1 : w.alloc _ = w1
  have hb1 : Below w.heap.size w w1 := by rw [← hw1]; exact below1 _ _
  have hs1 : w1.heap.size = w.heap.size + 1 := by rw [← hw1]; simp
  have p3 : w1.cell? ⟨w.heap.size, 3, none⟩ = some (.slice ca cn cc) := by rw [← hw1]; simp [go_sem]
  have hO1 := HO.out.below hb1
  have hlt := fun k hk => World.ownsRow.lt HO.out.s k hk
  have HB1 := Lib.hid hb1
  have HO1 := Lib.hid hO1
  have HLT := Lib.hid hlt
  clear hw1 hb1 hO1 hlt HO
  refine (markIntS_only w1 B _ sn k _ HO1.out.s (by omega)).mono ?_
  rintro e w2 ⟨rfl, ho2, hF2⟩
  have q3 : w2.cell? ⟨w.heap.size, 3, none⟩ = some (.slice ca cn cc) := by
    rw [World.cell?_of_block (a := ⟨w.heap.size, 3, none⟩) (hF2.block w.heap.size (by omega) (fun hm => by
      have hm : Value.ownBlock (.slice sa sn sc) = some w.heap.size := by simpa using hm
      have := (HLT.out _ hm).2; omega))]
    exact p3
  have hc2 : w2.ownsRow B 3 1 (.slice ca cn cc) cn ys := ownsRow_same HO1.out.c (fun k hk => hF2.block k (World.ownsRow.lt HO1.out.c k hk).2 (fun hm => HO1.out.ap k hk (by simpa using hm)))
  have hB2 : Below B w w2 := (HB1.out.mono hB).trans (Only.below (Below.refl _ _) hF2 (by omega) (fun q hq => by
      have hq : Value.ownBlock (.slice sa sn sc) = some q := by simpa using hq
      exact (HLT.out q hq).1))
  have HS2 := Lib.hid ho2
  have HC2 := Lib.hid hc2
  have HB2 := Lib.hid hB2
  have HF2 := Lib.hid ((Only.of_below HB1.out _).trans hF2)
  clear ho2 hF2 hc2 hB2 p3 HB1
  go_wp2_with (fail)
  go_at_call 28
  refine (markIntS_only w2 B _ cn (k + sn) _ HC2.out (by omega)).mono ?_
  rintro e w3 ⟨rfl, ho3, hF3⟩
  have hs3 : w3.ownsRow B 3 1 (.slice sa sn sc) sn (ints (iota k sn)) := ownsRow_same HS2.out (fun k hk => hF3.block k (World.ownsRow.lt HS2.out k hk).2 (fun hm => HO1.out.ap k (by simpa using hm) hk))
  have HE : Hid (MarkOut B sa sn sc ca cn cc k w (.returned (.int .i64 ((k + sn + cn : Nat) : Int))) w3) := Lib.hid ⟨rfl, ⟨hs3, ho3, HO1.out.ap⟩, HB2.out.trans (Only.below (Below.refl _ _) hF3 (Nat.le_trans hB HB2.out.size) (fun q hq => by
      have hq : Value.ownBlock (.slice ca cn cc) = some q := by simpa using hq
      exact (World.ownsRow.lt HC2.out q hq).1)), (HF2.out.mono (fun x hx => List.mem_append_left _ hx)).trans (hF3.mono (fun x hx => List.mem_append_right _ hx))⟩
  clear ho3 hF3 hs3 HS2 HC2 HB2 q3
  go_wp2_with (fail)
  go_ret
  exact HE.out

set_option maxHeartbeats 1000000 in
theorem heldOutcome_any (w : World) (B : Nat) (sa : Option Addr) (sn sc : Nat) (en vl : Int) (ca : Option Addr) (cn cc k : Nat) (h : OutOwn w B sa sn sc ca cn cc (ints (iota k sn)) (ints (iota (k + sn) cn))) (hk : k + sn + cn ≤ 1099511627776) :
    Calls Tryd.prog 30 #[.agg #[.slice sa sn sc, .int .i64 en, .int .i64 vl, .slice ca cn cc], .int .i64 (k : Int)] w fun e w' => e = .returned (.int .i64 ((k + sn + cn : Nat) : Int)) ∧ Below w.heap.size w w' := by
  have HS : Hid (∀ w', Below w.heap.size w w' → IntsAt w' (.slice sa sn sc) (iota k sn)) := Lib.hid fun w' hb => intsAt_of (by rw [iota_length]; exact (h.below hb).s)
  have HC : Hid (∀ w', Below w.heap.size w w' → IntsAt w' (.slice ca cn cc) (iota (k + sn) cn)) := Lib.hid fun w' hb => intsAt_of (by rw [iota_length]; exact (h.below hb).c)
  clear h
  go_enter Tryd.func30, Tryd.ntmps30
  go_wp2_with (fail)
  go_at_call 45
  generalize hw1 : w.alloc _ = w1
  have hb1 : Below w.heap.size w w1 := by rw [← hw1]; exact below1 _ _
  have p3 : w1.cell? ⟨w.heap.size, 3, none⟩ = some (.slice ca cn cc) := by rw [← hw1]; simp [go_sem]
  have HB1 := Lib.hid hb1
  clear hw1 hb1
  refine (heldIntS_any w1 _ sn k (HS.out w1 HB1.out) (by omega)).mono ?_
  rintro e _ ⟨rfl, rfl⟩
  obtain ⟨q, hq⟩ : ∃ q : Nat, k + sn = q := ⟨_, rfl⟩
  rw [hq] at HC hk ⊢
  have hq0 : (0 : Int) ≤ (q : Int) := by omega
  have HQ := Lib.hid hq
  clear HS hq
  go_wp2_with (fail)
  go_at_call 45
  refine (heldIntS_any w1 _ cn q (HC.out w1 HB1.out) (by omega)).mono ?_
  rintro e _ ⟨rfl, rfl⟩
  obtain ⟨z, hz⟩ : ∃ z : Nat, q + cn = z := ⟨_, rfl⟩
  rw [hz]
  have hz0 : (0 : Int) ≤ (z : Int) := by omega
  have HZ := Lib.hid hz
  clear HC hz
  go_wp2_with (fail)
  go_ret
  refine ⟨?_, HB1.out⟩
  rw [HQ.out, HZ.out]
  rfl

end Go.Proofs.YtbdbmmdnidonjaaDoor
