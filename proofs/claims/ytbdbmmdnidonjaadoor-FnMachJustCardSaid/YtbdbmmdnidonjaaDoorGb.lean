/- Outcomes: compared, marked, the marks found again. FnExactMachSteps answers true for every program of the machine and all numbers. Premise of the walk: the table of forms reads as laid (the card ties it). FnExactRunMach answers true for every program of the machine, all numbers, all steps. Premise of the walk: the table of forms reads as laid (the card ties it). Numbers and outcomes compared as the laws, the reference and impl compare them. More steps turn nothing of a run that has ended; fewer end it before. No program in sight. FnMachJust and FnMachSteps answer true for every code. Premise of the walks: the table of forms reads as laid (the cards tie it). -/
import Derived.Test.YtbdbmmdnidonjaaDoorSh
import Derived.Test.YtbdbmmdnidonjaaDoorMm
import Derived.Test.YtbdbmmdnidonjaaDoorMc
import Derived.Test.YtbdbmmdnidonjaaDoorLv
import Derived.Test.YtbdbmmdnidonjaaDoorRh
import Derived.Test.YtbdbmmdnidonjaaDoorRm
import Derived.Test.YtbdbmmdnidonjaaDoorGa
set_option maxRecDepth 100000
namespace Go.Proofs.YtbdbmmdnidonjaaDoor
open Go.RowKit

theorem Blk.c4 {w : World} {p : Nat} {x0 x1 x2 x3 : Value} (h : Blk w p [x0, x1, x2, x3]) : w.cell? ⟨p, 0, none⟩ = some x0 ∧ w.cell? ⟨p, 1, none⟩ = some x1 ∧ w.cell? ⟨p, 2, none⟩ = some x2 ∧ w.cell? ⟨p, 3, none⟩ = some x3 := by
  refine ⟨?_, ?_, ?_, ?_⟩
  all_goals rw [h.cell]; rfl
theorem Blk.c1 {w : World} {p : Nat} {x0 : Value} (h : Blk w p [x0]) : w.cell? ⟨p, 0, none⟩ = some x0 := by rw [h.cell]; rfl

theorem OutRd.form {w : World} {o : Option Rs} {v : Value} (h : OutRd w o v) : ∃ sa sn sc en vl ca cn cc, v = .agg #[.slice sa sn sc, .int .i64 en, .int .i64 vl, .slice ca cn cc] := by
  cases o with
  | none => exact ⟨_, _, _, _, _, _, _, _, h⟩
  | some r =>
    obtain ⟨sa, sn, sc, ca, cc, hv, _⟩ := h
    exact ⟨_, _, _, _, _, _, _, _, hv⟩

/-- two readings of one outcome -/
theorem OutRd.two {w : World} {o : Option Rs} {sa sb : Option Addr} {sn sm sc sd : Nat} {en em vl vm : Int} {ca cb : Option Addr} {cn cm cc cd : Nat} (h : OutRd w o (.agg #[.slice sa sn sc, .int .i64 en, .int .i64 vl, .slice ca cn cc])) (k : OutRd w o (.agg #[.slice sb sm sd, .int .i64 em, .int .i64 vm, .slice cb cm cd])) :
    en = em ∧ vl = vm ∧ ∃ xs ys, IntsAt w (.slice sa sn sc) xs ∧ IntsAt w (.slice sb sm sd) xs ∧ IntsAt w (.slice ca cn cc) ys ∧ IntsAt w (.slice cb cm cd) ys := by
  cases o with
  | none =>
    unfold OutRd at h k
    simp only [Value.agg.injEq, Array.mk.injEq, List.cons.injEq, and_true, Value.slice.injEq, Value.int.injEq, true_and] at h k
    obtain ⟨⟨rfl, rfl, rfl⟩, rfl, rfl, ⟨rfl, rfl, rfl⟩⟩ := h
    obtain ⟨⟨rfl, rfl, rfl⟩, rfl, rfl, ⟨rfl, rfl, rfl⟩⟩ := k
    have hn : IntsAt w (.slice none 0 0) [] := ⟨none, 0, rfl, by simp⟩
    exact ⟨rfl, rfl, [], [], hn, hn, hn, hn⟩
  | some r =>
    obtain ⟨a1, a2, a3, a4, a5, hv, h1, h2, _⟩ := h
    obtain ⟨b1, b2, b3, b4, b5, kv, k1, k2, _⟩ := k
    simp only [Value.agg.injEq, Array.mk.injEq, List.cons.injEq, and_true, Value.slice.injEq, Value.int.injEq, true_and] at hv kv
    obtain ⟨⟨rfl, rfl, rfl⟩, rfl, rfl, ⟨rfl, rfl, rfl⟩⟩ := hv
    obtain ⟨⟨rfl, rfl, rfl⟩, rfl, rfl, ⟨rfl, rfl, rfl⟩⟩ := kv
    exact ⟨rfl, rfl, _, _, h1, k1, h2, k2⟩

set_option maxHeartbeats 1000000 in
theorem eqOutcome_same (w : World) (o : Option Rs) (sa sb : Option Addr) (sn sm sc sd : Nat) (en em vl vm : Int) (ca cb : Option Addr) (cn cm cc cd : Nat) (h : OutRd w o (.agg #[.slice sa sn sc, .int .i64 en, .int .i64 vl, .slice ca cn cc])) (k : OutRd w o (.agg #[.slice sb sm sd, .int .i64 em, .int .i64 vm, .slice cb cm cd])) (hsn : sn ≤ 1099511627776) (hcn : cn ≤ 1099511627776) :
    Calls Tryd.prog 26 #[.agg #[.slice sa sn sc, .int .i64 en, .int .i64 vl, .slice ca cn cc], .agg #[.slice sb sm sd, .int .i64 em, .int .i64 vm, .slice cb cm cd]] w (Yes w) := by
  obtain ⟨rfl, rfl, xs, ys, h1, h2, h3, h4⟩ := h.two k
  have hx : xs.length ≤ 1099511627776 := by
    obtain ⟨_, _, he, _⟩ := h1
    injection he with _ he
    omega
  have hy : ys.length ≤ 1099511627776 := by
    obtain ⟨_, _, he, _⟩ := h3
    injection he with _ he
    omega
  have HS := Lib.hid (fun w' (hb : Below w.heap.size w w') => eqInts (h1.below hb) (h2.below hb) hx)
  have HC := Lib.hid (fun w' (hb : Below w.heap.size w w') => eqInts (h3.below hb) (h4.below hb) hy)
  clear h k h1 h2 h3 h4 hx hy
  go_enter Tryd.func26, Tryd.ntmps26
  go_wp2_with (fail)
  go_at_call 21
  refine (HS.out _ (below2 _ _ _)).mono ?_
  rintro e w1 ⟨rfl, hb⟩
  obtain ⟨hc, _⟩ := bcell hb
  have p1 : w1.cell? ⟨w.heap.size, 1, none⟩ = some (.int .i64 en) := by rw [hc _ _ (by simp; omega)]; simp [go_sem]
  have p2 : w1.cell? ⟨w.heap.size, 2, none⟩ = some (.int .i64 vl) := by rw [hc _ _ (by simp; omega)]; simp [go_sem]
  have p3 : w1.cell? ⟨w.heap.size, 3, none⟩ = some (.slice ca cn cc) := by rw [hc _ _ (by simp; omega)]; simp [go_sem]
  have q1 : w1.cell? ⟨w.heap.size + 1, 1, none⟩ = some (.int .i64 en) := by rw [hc _ _ (by simp)]; simp [go_sem]
  have q2 : w1.cell? ⟨w.heap.size + 1, 2, none⟩ = some (.int .i64 vl) := by rw [hc _ _ (by simp)]; simp [go_sem]
  have q3 : w1.cell? ⟨w.heap.size + 1, 3, none⟩ = some (.slice cb cm cd) := by rw [hc _ _ (by simp)]; simp [go_sem]
  have HB := Lib.hid ((below2 w _ _).trans (hb.mono (by simp; omega)))
  have e1 : (en != en) = false := by simp
  have e2 : (vl != vl) = false := by simp
  clear hb hc HS
  go_wp2_with (fail)
  go_at_call 21
  refine (HC.out _ HB.out).mono ?_
  rintro e w2 ⟨rfl, hb⟩
  have HB2 := Lib.hid (HB.out.trans (hb.mono HB.out.size))
  clear hb HC HB
  go_wp2_with (fail)
  go_ret
  exact ⟨rfl, HB2.out⟩

/-- an outcome's two rows, the call's own from B on -/
structure OutOwn (w : World) (B : Nat) (sa : Option Addr) (sn sc : Nat) (ca : Option Addr) (cn cc : Nat) (xs ys : List Value) : Prop where
  s : w.ownsRow B 3 1 (.slice sa sn sc) sn xs
  c : w.ownsRow B 3 1 (.slice ca cn cc) cn ys
  ap : Apart2 (.slice ca cn cc) (.slice sa sn sc)
theorem OutAt.own {w : World} {B : Nat} {o : Option Rs} {sa : Option Addr} {sn sc : Nat} {en vl : Int} {ca : Option Addr} {cn cc : Nat} (h : OutAt w B o (.agg #[.slice sa sn sc, .int .i64 en, .int .i64 vl, .slice ca cn cc])) : ∃ xs ys, OutOwn w B sa sn sc ca cn cc xs ys := by
  cases o with
  | none =>
    unfold OutAt at h
    simp only [Value.agg.injEq, Array.mk.injEq, List.cons.injEq, and_true, Value.slice.injEq, Value.int.injEq, true_and] at h
    obtain ⟨⟨rfl, rfl, rfl⟩, rfl, rfl, ⟨rfl, rfl, rfl⟩⟩ := h
    exact ⟨[], [], World.ownsRow_nil _ _ _ _, World.ownsRow_nil _ _ _ _, fun k hk => by simp [Value.ownBlock] at hk⟩
  | some r =>
    obtain ⟨a1, a2, a3, a4, a5, hv, h1, h2, h3⟩ := h
    simp only [Value.agg.injEq, Array.mk.injEq, List.cons.injEq, and_true, Value.slice.injEq, Value.int.injEq, true_and] at hv
    obtain ⟨⟨rfl, rfl, rfl⟩, rfl, rfl, ⟨rfl, rfl, rfl⟩⟩ := hv
    obtain ⟨a, c, hform⟩ := saidForm h1
    have hn : sn = r.cm.said.length := by injection hform
    exact ⟨_, _, by rw [hn]; rw [hn] at h1; exact h1, h2, by rw [← hn] at *; exact h3⟩
theorem OutAt.keep {w w' : World} {B : Nat} {o : Option Rs} {v : Value} (h : OutAt w B o v) (hh : ∀ k, B ≤ k → k < w.heap.size → w'.heap[k]? = w.heap[k]?) : OutAt w' B o v := by
  cases o with
  | none => exact h
  | some r =>
    obtain ⟨a1, a2, a3, a4, a5, hv, h1, h2, h3⟩ := h
    exact ⟨a1, a2, a3, a4, a5, hv, row_keep h1 (Nat.le_refl _) hh, row_keep h2 (Nat.le_refl _) hh, h3⟩
theorem OutAt.below {w w' : World} {B : Nat} {o : Option Rs} {v : Value} (h : OutAt w B o v) (hb : Below w.heap.size w w') : OutAt w' B o v := h.keep fun k _ hk => hb.block k hk
theorem OutOwn.below {w w' : World} {B : Nat} {sa : Option Addr} {sn sc : Nat} {ca : Option Addr} {cn cc : Nat} {xs ys : List Value} (h : OutOwn w B sa sn sc ca cn cc xs ys) (hb : Below w.heap.size w w') : OutOwn w' B sa sn sc ca cn cc xs ys :=
  ⟨ownsRow_below h.s hb, ownsRow_below h.c hb, h.ap⟩
theorem OutAt.lens {w : World} {B : Nat} {o : Option Rs} {sa : Option Addr} {sn sc : Nat} {en vl : Int} {ca : Option Addr} {cn cc : Nat} (h : OutAt w B o (.agg #[.slice sa sn sc, .int .i64 en, .int .i64 vl, .slice ca cn cc])) (hs : ∀ r, o = some r → r.cm.said.length ≤ 1048576) : sn ≤ 1048576 ∧ cn ≤ 16 := by
  cases o with
  | none =>
    unfold OutAt at h
    simp only [Value.agg.injEq, Array.mk.injEq, List.cons.injEq, and_true, Value.slice.injEq, Value.int.injEq, true_and] at h
    obtain ⟨⟨rfl, rfl, rfl⟩, rfl, rfl, ⟨rfl, rfl, rfl⟩⟩ := h
    omega
  | some r =>
    obtain ⟨a1, a2, a3, a4, a5, hv, h1, h2, h3⟩ := h
    simp only [Value.agg.injEq, Array.mk.injEq, List.cons.injEq, and_true, Value.slice.injEq, Value.int.injEq, true_and] at hv
    obtain ⟨⟨rfl, rfl, rfl⟩, rfl, rfl, ⟨rfl, rfl, rfl⟩⟩ := hv
    obtain ⟨a, c, hform⟩ := saidForm h1
    have hn : sn = r.cm.said.length := by injection hform
    have := hs r rfl
    omega

def MarkOut (B : Nat) (sa : Option Addr) (sn sc : Nat) (ca : Option Addr) (cn cc k : Nat) (w : World) (e : Ending) (w' : World) : Prop :=
  e = .returned (.int .i64 ((k + sn + cn : Nat) : Int)) ∧ OutOwn w' B sa sn sc ca cn cc (ints (iota k sn)) (ints (iota (k + sn) cn)) ∧ Below B w w' ∧ Only ((Value.slice sa sn sc).ownBlock.toList ++ (Value.slice ca cn cc).ownBlock.toList) w w'

set_option maxHeartbeats 1000000 in
theorem markOutcome_any (w : World) (B : Nat) (sa : Option Addr) (sn sc : Nat) (en vl : Int) (ca : Option Addr) (cn cc k : Nat) (xs ys : List Value) (h : OutOwn w B sa sn sc ca cn cc xs ys) (hB : B ≤ w.heap.size) (hk : k + sn + cn ≤ 1099511627776) :
    Calls Tryd.prog 29 #[.agg #[.slice sa sn sc, .int .i64 en, .int .i64 vl, .slice ca cn cc], .int .i64 (k : Int)] w (MarkOut B sa sn sc ca cn cc k w) := by
  have HO := Lib.hid h
  clear h
  go_enter Tryd.func29, Tryd.ntmps29
  go_wp2_with (fail)
  go_at_call 28
  generalize hw1 : w.alloc _ = w1
  have hb1 : Below w.heap.size w w1 := by rw [← hw1]; exact below1 _ _
  have hs1 : w1.heap.size = w.heap.size + 1 := by rw [← hw1]; simp
  have p3 : w1.cell? ⟨w.heap.size, 3, none⟩ = some (.slice ca cn cc) := by rw [← hw1]; simp [go_sem]
  have hO1 := HO.out.below hb1
  have hlt := fun k hk => World.ownsRow.lt HO.out.s k hk
  have HB1 := Lib.hid hb1
  have HO1 := Lib.hid hO1
  have HLT := Lib.hid hlt
  clear hw1 hb1 hO1 hlt HO
  refine (markIntS_only w1 B _ sn k _ HO1.out.s (by omega)).mono ?_
  rintro e w2 ⟨rfl, ho2, hF2⟩
  have q3 : w2.cell? ⟨w.heap.size, 3, none⟩ = some (.slice ca cn cc) := by
    rw [World.cell?_of_block (a := ⟨w.heap.size, 3, none⟩) (hF2.block w.heap.size (by omega) (fun hm => by
      have hm : Value.ownBlock (.slice sa sn sc) = some w.heap.size := by simpa using hm
      have := (HLT.out _ hm).2; omega))]
    exact p3
  have hc2 : w2.ownsRow B 3 1 (.slice ca cn cc) cn ys := ownsRow_same HO1.out.c (fun k hk => hF2.block k (World.ownsRow.lt HO1.out.c k hk).2 (fun hm => HO1.out.ap k hk (by simpa using hm)))
  have hB2 : Below B w w2 := (HB1.out.mono hB).trans (Only.below (Below.refl _ _) hF2 (by omega) (fun q hq => by
      have hq : Value.ownBlock (.slice sa sn sc) = some q := by simpa using hq
      exact (HLT.out q hq).1))
  have HS2 := Lib.hid ho2
  have HC2 := Lib.hid hc2
  have HB2 := Lib.hid hB2
  have HF2 := Lib.hid ((Only.of_below HB1.out _).trans hF2)
  clear ho2 hF2 hc2 hB2 p3 HB1
  go_wp2_with (fail)
  go_at_call 28
  refine (markIntS_only w2 B _ cn (k + sn) _ HC2.out (by omega)).mono ?_
  rintro e w3 ⟨rfl, ho3, hF3⟩
  have hs3 : w3.ownsRow B 3 1 (.slice sa sn sc) sn (ints (iota k sn)) := ownsRow_same HS2.out (fun k hk => hF3.block k (World.ownsRow.lt HS2.out k hk).2 (fun hm => HO1.out.ap k (by simpa using hm) hk))
  have HE : Hid (MarkOut B sa sn sc ca cn cc k w (.returned (.int .i64 ((k + sn + cn : Nat) : Int))) w3) := Lib.hid ⟨rfl, ⟨hs3, ho3, HO1.out.ap⟩, HB2.out.trans (Only.below (Below.refl _ _) hF3 (Nat.le_trans hB HB2.out.size) (fun q hq => by
      have hq : Value.ownBlock (.slice ca cn cc) = some q := by simpa using hq
      exact (World.ownsRow.lt HC2.out q hq).1)), (HF2.out.mono (fun x hx => List.mem_append_left _ hx)).trans (hF3.mono (fun x hx => List.mem_append_right _ hx))⟩
  clear ho3 hF3 hs3 HS2 HC2 HB2 q3
  go_wp2_with (fail)
  go_ret
  exact HE.out

set_option maxHeartbeats 1000000 in
theorem heldOutcome_any (w : World) (B : Nat) (sa : Option Addr) (sn sc : Nat) (en vl : Int) (ca : Option Addr) (cn cc k : Nat) (h : OutOwn w B sa sn sc ca cn cc (ints (iota k sn)) (ints (iota (k + sn) cn))) (hk : k + sn + cn ≤ 1099511627776) :
    Calls Tryd.prog 30 #[.agg #[.slice sa sn sc, .int .i64 en, .int .i64 vl, .slice ca cn cc], .int .i64 (k : Int)] w fun e w' => e = .returned (.int .i64 ((k + sn + cn : Nat) : Int)) ∧ Below w.heap.size w w' := by
  have HS : Hid (∀ w', Below w.heap.size w w' → IntsAt w' (.slice sa sn sc) (iota k sn)) := Lib.hid fun w' hb => intsAt_of (by rw [iota_length]; exact (h.below hb).s)
  have HC : Hid (∀ w', Below w.heap.size w w' → IntsAt w' (.slice ca cn cc) (iota (k + sn) cn)) := Lib.hid fun w' hb => intsAt_of (by rw [iota_length]; exact (h.below hb).c)
  clear h
  go_enter Tryd.func30, Tryd.ntmps30
  go_wp2_with (fail)
  go_at_call 45
  generalize hw1 : w.alloc _ = w1
  have hb1 : Below w.heap.size w w1 := by rw [← hw1]; exact below1 _ _
  have p3 : w1.cell? ⟨w.heap.size, 3, none⟩ = some (.slice ca cn cc) := by rw [← hw1]; simp [go_sem]
  have HB1 := Lib.hid hb1
  clear hw1 hb1
  refine (heldIntS_any w1 _ sn k (HS.out w1 HB1.out) (by omega)).mono ?_
  rintro e _ ⟨rfl, rfl⟩
  obtain ⟨q, hq⟩ : ∃ q : Nat, k + sn = q := ⟨_, rfl⟩
  rw [hq] at HC hk ⊢
  have hq0 : (0 : Int) ≤ (q : Int) := by omega
  have HQ := Lib.hid hq
  clear HS hq
  go_wp2_with (fail)
  go_at_call 45
  refine (heldIntS_any w1 _ cn q (HC.out w1 HB1.out) (by omega)).mono ?_
  rintro e _ ⟨rfl, rfl⟩
  obtain ⟨z, hz⟩ : ∃ z : Nat, q + cn = z := ⟨_, rfl⟩
  rw [hz]
  have hz0 : (0 : Int) ≤ (z : Int) := by omega
  have HZ := Lib.hid hz
  clear HC hz
  go_wp2_with (fail)
  go_ret
  refine ⟨?_, HB1.out⟩
  rw [HQ.out, HZ.out]
  rfl

end Go.Proofs.YtbdbmmdnidonjaaDoor

set_option maxRecDepth 100000
namespace Go.Proofs.YtbdbmmdnidonjaaDoor.MsLaw
open Go.RowKit

theorem inSrc_own {w : World} {B g n cap : Nat} {zs : List Int} (h : w.ownsRow B 3 1 (.slice (some ⟨g, 0, none⟩) n cap) n (ints zs)) (hn : n = zs.length) (hs : n ≤ 1048576) : InSrc w g 0 n cap zs :=
  ⟨hn.symm, (ownsRow_lt h).2.2, hs, fun i hi => by
    rw [Nat.zero_add, h.cellAt i (by omega)]
    simp [ints, List.getD_eq_getElem?_getD, List.getElem?_eq_getElem (show i < zs.length by omega)]⟩

set_option maxHeartbeats 2000000 in
theorem small (w : World) (v vin : Value) (fs : List Mf) (zs : List Int) (hF : Forms w) (hm : MfsAt w v fs) (hn : fs.length ≤ 9223372036854775807) (hni : ∀ f ∈ fs, f.ins.length ≤ 9223372036854775807) (hi : IntsAt w vin zs) (hz : zs.length ≤ 1048576) :
    Calls Tryd.prog 4 #[.agg #[v], vin] w (Yes w) := by
  have HSZ := Lib.hid (fun w' (hb : Below w.heap.size w w') => szMach_any w' v fs 1048576 (hm.below hb) (by decide) (by decide) hn hni)
  have HTO := Lib.hid (fun w' (hb : Below w.heap.size w w') (hle : MfsLe fs) => toMach_any w' v fs (hm.below hb) hle)
  have HTI := Lib.hid (fun w' (hb : Below w.heap.size w w') => toInts (hi.below hb) (by omega))
  have HEQ := Lib.hid (fun w' v2 (hb : Below w.heap.size w w') (h2 : MfsAt w' v2 fs) (hle : MfsLe fs) => h2)
  have HF := Lib.hid (fun w' (hb : Below w.heap.size w w') => hF.below hb)
  have HI := Lib.hid hi
  obtain ⟨a, cap, rfl, hc⟩ := hm
  obtain ⟨ia, icap, rfl, hic⟩ := hi
  obtain ⟨n, hnn⟩ : ∃ n, n = fs.length := ⟨_, rfl⟩
  obtain ⟨m, hmm⟩ : ∃ m, m = zs.length := ⟨_, rfl⟩
  unfold NewMach at HTO
  unfold NewInts at HTI
  unfold SzPost at HSZ
  rw [← hnn] at HSZ HTO hn ⊢
  rw [← hmm] at HTI HI hz ⊢
  have HN := Lib.hid hnn
  have HM := Lib.hid hmm
  obtain ⟨ans, hans⟩ : ∃ ans, ans = stepsAns fs zs := ⟨_, rfl⟩
  have HA := Lib.hid hans
  clear hF hc hic hni hnn hmm hans HEQ
  go_enter Tryd.func4, Tryd.ntmps4
  go_wp2_with (fail)
  go_at_call 17
  refine (HSZ.out _ (below1 _ _)).mono ?_
  rintro e w1 ⟨r, rfl, hr, hb⟩
  have p0 : w1.cell? ⟨w.heap.size, 0, none⟩ = some (.slice a n cap) := by rw [hb.cell (p := ⟨w.heap.size, 0, none⟩) (by simp)]; simp [go_sem]
  have HB := Lib.hid ((below1 w (.cells #[.slice a n cap] 38)).trans (hb.mono (by simp)))
  clear hb HSZ
  rcases hr with rfl | ⟨hr0, hr1⟩
  · go_wp2_with (fail)
    go_ret
    exact ⟨rfl, HB.out⟩
  have hle : MfsLe fs := mfsLe_of (left := 1048576) (by rw [← HN.out]; exact hr1) (by decide)
  have HLE := Lib.hid hle
  clear hr1 hle
  go_wp2_with (fail)
  go_at_call 18
  refine (HTO.out w1 HB.out HLE.out).mono ?_
  rintro e w2 ⟨g2, rfl, ho2, hb2⟩
  have HM2 := Lib.hid ho2.at
  have HB2 := Lib.hid (HB.out.trans (hb2.mono HB.out.size))
  have q0 : w2.cell? ⟨w.heap.size, 0, none⟩ = some (.slice a n cap) := by rw [hb2.cell (World.block_lt_of_cell? _ _ p0)]; exact p0
  clear ho2 hb2 p0 HB
  go_wp2_with (fail)
  go_at_call 19
  refine (HTI.out w2 HB2.out).mono ?_
  rintro e w3 ⟨g3, rfl, ho3, hb3⟩
  have HS3 := Lib.hid (inSrc_own ho3 HM.out (by omega))
  have HM3 := Lib.hid (HM2.out.below hb3)
  have HB3 := Lib.hid (HB2.out.trans (hb3.mono HB2.out.size))
  have p0 : w3.cell? ⟨w.heap.size, 0, none⟩ = some (.slice a n cap) := by rw [hb3.cell (World.block_lt_of_cell? _ _ q0)]; exact q0
  clear ho3 hb3 q0 HB2 HM2
  go_wp2_with (fail)
  go_at_call 14
  rw [← HN.out] at HM3
  refine (specMachSteps w3 g2 0 n n fs zs HM3.out HN.out HLE.out g3 0 m m HS3.out).mono ?_
  rw [← HA.out]
  rintro e w4 ⟨rfl, hb4⟩
  have HB4 := Lib.hid (HB3.out.trans (hb4.mono HB3.out.size))
  have q0 : w4.cell? ⟨w.heap.size, 0, none⟩ = some (.slice a n cap) := by rw [hb4.cell (World.block_lt_of_cell? _ _ p0)]; exact p0
  clear hb4 p0 HB3 HS3 HM3
  go_wp2_with (fail)
  go_at_call 18
  refine (HTO.out w4 HB4.out HLE.out).mono ?_
  rintro e w5 ⟨g5, rfl, ho5, hb5⟩
  have HM5 := Lib.hid ho5.at
  have HB5 := Lib.hid (HB4.out.trans (hb5.mono HB4.out.size))
  have p0 : w5.cell? ⟨w.heap.size, 0, none⟩ = some (.slice a n cap) := by rw [hb5.cell (World.block_lt_of_cell? _ _ q0)]; exact q0
  clear ho5 hb5 q0 HB4
  go_wp2_with (fail)
  go_at_call 19
  generalize hw6 : w5.alloc _ = w6
  have hb6 : Below w5.heap.size w5 w6 := by rw [← hw6]; exact below1 _ _
  have x0 : w6.cell? ⟨w5.heap.size, 0, none⟩ = some (.slice (some ⟨g5, 0, none⟩) n n) := by rw [← hw6]; simp [go_sem]
  have hb6' := HB5.out.trans (hb6.mono HB5.out.size)
  have q0 : w6.cell? ⟨w.heap.size, 0, none⟩ = some (.slice a n cap) := by rw [hb6.cell (World.block_lt_of_cell? _ _ p0)]; exact p0
  have HM6 := Lib.hid (HM5.out.below hb6)
  have HB6 := Lib.hid hb6'
  clear hw6 hb6 hb6' p0 HB5 HM5
  refine (HTI.out w6 HB6.out).mono ?_
  rintro e w7 ⟨g7, rfl, ho7, hb7⟩
  have HS7 := Lib.hid (inSrc_own ho7 HM.out (by omega))
  have HM7 := Lib.hid (HM6.out.below hb7)
  have HB7 := Lib.hid (HB6.out.trans (hb7.mono HB6.out.size))
  have p0 : w7.cell? ⟨w.heap.size, 0, none⟩ = some (.slice a n cap) := by rw [hb7.cell (World.block_lt_of_cell? _ _ q0)]; exact q0
  have x1 : w7.cell? ⟨w5.heap.size, 0, none⟩ = some (.slice (some ⟨g5, 0, none⟩) n n) := by rw [hb7.cell (World.block_lt_of_cell? _ _ x0)]; exact x0
  clear ho7 hb7 q0 x0 HB6 HM6
  go_wp2_with (fail)
  go_at_call 13
  rw [← HN.out] at HM7
  refine (machSteps13 w7 g5 0 n n fs zs (HF.out _ HB7.out) HM7.out HN.out HLE.out g7 0 m m HS7.out).mono ?_
  rw [← HA.out]
  rintro e w8 ⟨rfl, hb8⟩
  have HM8 := Lib.hid (HM7.out.below hb8)
  have HS8 := Lib.hid (HS7.out.below hb8)
  have HB8 := Lib.hid (HB7.out.trans (hb8.mono HB7.out.size))
  have q0 : w8.cell? ⟨w.heap.size, 0, none⟩ = some (.slice a n cap) := by rw [hb8.cell (World.block_lt_of_cell? _ _ p0)]; exact p0
  have x0 : w8.cell? ⟨w5.heap.size, 0, none⟩ = some (.slice (some ⟨g5, 0, none⟩) n n) := by rw [hb8.cell (World.block_lt_of_cell? _ _ x1)]; exact x1
  have e1 : (ans != ans) = false := by simp
  clear hb8 p0 x1 HB7 HM7 HS7 HA
  go_wp2_with (fail)
  refine wp_region_chain (fun W => W.cell? ⟨w5.heap.size, 0, none⟩ = some (.slice (some ⟨g5, 0, none⟩) n n) ∧ W.cell? ⟨w.heap.size, 0, none⟩ = some (.slice a n cap)) [(0, true), (1, true)] [2, 3, 4] 4 (by kernel_rfl) (by kernel_rfl) (fun d v c a w h => by cases d <;> exact h) ⟨x0, q0⟩ ?_
  simp only [pickO, List.map_cons, List.map_nil, List.getD_cons_zero, List.getD_cons_succ]
  refine heldO_step (v := ?_) rfl ?_ ?_
  rotate_left
  · intro W hS
    obtain ⟨k0, k1⟩ := hS
    go_simp
    try rfl
  simp only [Act.put, List.setIfInBounds_toArray, List.set_cons_zero, List.set_cons_succ]
  refine heldO_step (v := ?_) rfl ?_ ?_
  rotate_left
  · intro W hS
    obtain ⟨k0, k1⟩ := hS
    go_simp
    try rfl
  simp only [Act.put, List.setIfInBounds_toArray, List.set_cons_zero, List.set_cons_succ]
  refine heldO_nil ?_
  refine tailO_step rfl (fun K hK => ?_)
  go_simp
  refine (HTO.out _ HB8.out.drew HLE.out).mono ?_
  rintro e w9 ⟨g9, rfl, ho9, hb9⟩
  have hb9' : Below w8.heap.size w8 w9 := (Below.refl w8.heap.size w8).drew.trans hb9
  have HM9 := Lib.hid ho9.at
  have HM9' := Lib.hid (HM8.out.below hb9')
  have HS9 := Lib.hid (HS8.out.below hb9')
  have HB9 := Lib.hid (HB8.out.trans (hb9'.mono HB8.out.size))
  have x1 : w9.cell? ⟨w5.heap.size, 0, none⟩ = some (.slice (some ⟨g5, 0, none⟩) n n) := by rw [hb9'.cell (World.block_lt_of_cell? _ _ x0)]; exact x0
  have p0 : w9.cell? ⟨w.heap.size, 0, none⟩ = some (.slice a n cap) := by rw [hb9'.cell (World.block_lt_of_cell? _ _ q0)]; exact q0
  refine hK _ _ (.inr ⟨x1, p0⟩) ?_
  clear hK K ho9 hb9 hb9' q0 x0 HB8 HM8 HS8
  refine tailO_step rfl (fun K hK => ?_)
  go_simp
  rw [← HN.out] at HM9
  refine (eqMach_same w9 _ _ fs HM9'.out HM9.out HLE.out).mono ?_
  rintro e w10 ⟨rfl, hb10⟩
  have HS10 := Lib.hid (HS9.out.below hb10)
  have HB10 := Lib.hid (HB9.out.trans (hb10.mono HB9.out.size))
  have x0 : w10.cell? ⟨w5.heap.size, 0, none⟩ = some (.slice (some ⟨g5, 0, none⟩) n n) := by rw [hb10.cell (World.block_lt_of_cell? _ _ x1)]; exact x1
  have q0 : w10.cell? ⟨w.heap.size, 0, none⟩ = some (.slice a n cap) := by rw [hb10.cell (World.block_lt_of_cell? _ _ p0)]; exact p0
  refine hK _ _ (.inr ⟨x0, q0⟩) ?_
  clear hK K hb10 p0 x1 HB9 HM9 HM9' HS9
  refine tailO_step rfl (fun K hK => ?_)
  go_simp
  refine hK _ _ (.inl rfl) (tailO_nil ?_)
  clear hK K
  go_wp2_with (fail)
  go_at_call 19
  refine (HTI.out w10 HB10.out).mono ?_
  rintro e w11 ⟨g11, rfl, ho11, hb11⟩
  have HI11 := Lib.hid (inSrc_own ho11 HM.out (by omega)).ints
  have HS11 := Lib.hid (HS10.out.below hb11).ints
  have HB11 := Lib.hid (HB10.out.trans (hb11.mono HB10.out.size))
  clear ho11 hb11 HB10 HS10
  go_wp2_with (fail)
  go_at_call 21
  refine (eqInts HS11.out HI11.out (by rw [← HM.out]; omega)).mono ?_
  rintro e w12 ⟨rfl, hb12⟩
  have HB12 := Lib.hid (HB11.out.trans (hb12.mono HB11.out.size))
  clear hb12
  go_wp2_with (fail)
  go_ret
  exact ⟨rfl, HB12.out⟩

set_option maxHeartbeats 400000 in
theorem big (v : Value) (a : Option Addr) (n cap : Nat) (w : World) (hn : 1048576 < n) (hm : n ≤ 9223372036854775807) :
    Calls Tryd.prog 4 #[.agg #[v], .slice a n cap] w (Yes w) := by
  go_enter Tryd.func4, Tryd.ntmps4
  go_wp2
  go_ret
  exact ⟨rfl, below1 _ _⟩

end Go.Proofs.YtbdbmmdnidonjaaDoor.MsLaw

set_option maxRecDepth 100000
namespace Go.Proofs.YtbdbmmdnidonjaaDoor.RmLaw
open Go.RowKit

theorem runAns_said {fs : List Mf} {zs : List Int} {steps : Int} {r : Rs} (h : runAns fs zs steps = some r) : r.cm.said.length ≤ 1048576 := by
  unfold runAns at h
  split at h
  · rename_i hc
    injection h with h
    subst h
    have := loop_said (P := machPg fs) (steps.toNat + 1) (fs.length - 1) 0 (newLc (machPg fs) (fs.length - 1) (toNats zs)) (cm0 steps.toNat)
    unfold runOf
    have h0 : (cm0 steps.toNat).said.length + (cm0 steps.toNat).left = steps.toNat := by show 0 + steps.toNat = _; omega
    rw [h0] at this
    omega
  · cases h

set_option maxHeartbeats 8000000 in
theorem small (w : World) (v vin : Value) (fs : List Mf) (zs : List Int) (steps : Int) (hF : Forms w) (hm : MfsAt w v fs) (hn : fs.length ≤ 9223372036854775807) (hni : ∀ f ∈ fs, f.ins.length ≤ 9223372036854775807) (hi : IntsAt w vin zs) (hz : zs.length ≤ 1048576) :
    Calls Tryd.prog 6 #[.agg #[v], vin, .int .i64 steps] w (Yes w) := by
  have HSZ := Lib.hid (fun w' (hb : Below w.heap.size w w') => szMach_any w' v fs 1048576 (hm.below hb) (by decide) (by decide) hn hni)
  have HTO := Lib.hid (fun w' (hb : Below w.heap.size w w') (hle : MfsLe fs) => toMach_any w' v fs (hm.below hb) hle)
  have HTI := Lib.hid (fun w' (hb : Below w.heap.size w w') => toInts (hi.below hb) (by omega))
  have HF := Lib.hid (fun w' (hb : Below w.heap.size w w') => hF.below hb)
  obtain ⟨a, cap, rfl, hc⟩ := hm
  obtain ⟨ia, icap, rfl, hic⟩ := hi
  obtain ⟨n, hnn⟩ : ∃ n, n = fs.length := ⟨_, rfl⟩
  obtain ⟨m, hmm⟩ : ∃ m, m = zs.length := ⟨_, rfl⟩
  unfold NewMach at HTO
  unfold NewInts at HTI
  unfold SzPost at HSZ
  rw [← hnn] at HSZ HTO hn ⊢
  rw [← hmm] at HTI hz ⊢
  have HN := Lib.hid hnn
  have HM := Lib.hid hmm
  have hsd := fun r (h : runAns fs zs steps = some r) => runAns_said h
  obtain ⟨ans, hans⟩ : ∃ ans, ans = runAns fs zs steps := ⟨_, rfl⟩
  rw [← hans] at hsd
  have HA := Lib.hid hans
  have HSD := Lib.hid hsd
  obtain ⟨ok, hok⟩ : ∃ ok, ok = ans.isSome := ⟨_, rfl⟩
  have HOK := Lib.hid hok
  clear hF hc hic hni hnn hmm hans hsd hok
  go_enter Tryd.func6, Tryd.ntmps6
  go_wp2_with (fail)
  go_at_call 17
  refine (HSZ.out _ (below1 _ _)).mono ?_
  rintro e w1 ⟨r, rfl, hr, hb⟩
  have HV3 : Hid (Blk w1 w.heap.size [.slice a n cap]) := Lib.hid ((Blk.new w #[.slice a n cap] 38).below hb)
  have p3 := HV3.out.c1
  have HB := Lib.hid ((below1 w (.cells #[.slice a n cap] 38)).trans (hb.mono (by simp)))
  clear hb HSZ
  rcases hr with rfl | ⟨hr0, hr1⟩
  · go_wp2_with (fail)
    go_ret
    exact ⟨rfl, HB.out⟩
  have hle : MfsLe fs := mfsLe_of (left := 1048576) (by rw [← HN.out]; exact hr1) (by decide)
  have HLE := Lib.hid hle
  clear hr1 hle
  go_wp2_with (fail)
  go_at_call 18
  refine (HTO.out w1 HB.out HLE.out).mono ?_
  rintro e w2 ⟨g2, rfl, ho2, hb2⟩
  have HM2 := Lib.hid ho2.at
  have HB2 := Lib.hid (HB.out.trans (hb2.mono HB.out.size))
  have HV3b := Lib.hid (HV3.out.below hb2)
  clear ho2 hb2 p3 HB HV3
  go_wp2_with (fail)
  go_at_call 19
  refine (HTI.out w2 HB2.out).mono ?_
  rintro e w3 ⟨g3, rfl, ho3, hb3⟩
  have HS3 := Lib.hid (MsLaw.inSrc_own ho3 HM.out (by omega))
  have HM3 := Lib.hid (HM2.out.below hb3)
  have HB3 := Lib.hid (HB2.out.trans (hb3.mono HB2.out.size))
  have HV3 := Lib.hid (HV3b.out.below hb3)
  clear ho3 hb3 HV3b HB2 HM2
  go_wp2_with (fail)
  go_at_call 23
  rw [← HN.out] at HM3
  refine (specRunMach w3 g2 0 n n fs zs HM3.out HN.out HLE.out g3 0 m m HS3.out steps).mono ?_
  rw [← HA.out]
  unfold AnsRd
  rw [← HOK.out]
  rintro e w4 ⟨v0, rfl, hrd, hb4⟩
  obtain ⟨sa, sn, sc, en, vl, ca, cn, cc, rfl⟩ := hrd.form
  have HR4 := Lib.hid hrd
  have HB4 := Lib.hid (HB3.out.trans (hb4.mono HB3.out.size))
  have HV3b := Lib.hid (HV3.out.below hb4)
  have p3 := HV3b.out.c1
  have l3 := HV3b.out.lt
  have HB4' := Lib.hid l3
  clear hrd hb4 HV3 HB3 HS3 HM3
  go_wp2_with (fail)
  go_at_call 18
  generalize hw5 : w4.alloc _ = w5
  have hb5 : Below w4.heap.size w4 w5 := by rw [← hw5]; exact below1 _ _
  have hV8 : Blk w5 w4.heap.size [.slice sa sn sc, .int .i64 en, .int .i64 vl, .slice ca cn cc] := by rw [← hw5]; exact Blk.new _ _ _
  have HV8 := Lib.hid hV8
  have HC5 := Lib.hid hb5
  have HZ5 : Hid (w5.heap.size = w4.heap.size + 1) := Lib.hid (by rw [← hw5]; simp)
  have HB5 := Lib.hid (HB4.out.trans (hb5.mono HB4.out.size))
  have HV3 := Lib.hid (HV3b.out.below hb5)
  clear hw5 hb5 hV8 HV3b p3 HB4 l3
  refine (HTO.out w5 HB5.out HLE.out).mono ?_
  rintro e w6 ⟨g5, rfl, ho6, hb6⟩
  have HO6 := Lib.hid ho6
  have HB6 := Lib.hid (HB5.out.trans (hb6.mono HB5.out.size))
  have HC6 := Lib.hid (HC5.out.trans (hb6.mono HC5.out.size))
  have HV3b := Lib.hid (HV3.out.below hb6)
  have HV8b := Lib.hid (HV8.out.below hb6)
  have hs56 := hb6.size
  clear ho6 hb6 HV3 HV8 HB5
  go_wp2_with (fail)
  go_at_call 19
  generalize hw7 : w6.alloc _ = w7
  have hb7 : Below w6.heap.size w6 w7 := by rw [← hw7]; exact below1 _ _
  have hs7 : w7.heap.size = w6.heap.size + 1 := by rw [← hw7]; simp
  have hV10 : Blk w7 w6.heap.size [.slice (some ⟨g5, 0, none⟩) n n] := by rw [← hw7]; exact Blk.new _ _ _
  have HV10 := Lib.hid hV10
  have HO7 := Lib.hid (HO6.out.below hb7)
  have HR7 := Lib.hid (HO6.out.rows.below (Nat.le_refl _) hb7)
  have HB7 := Lib.hid (HB6.out.trans (hb7.mono HB6.out.size))
  have HC7 := Lib.hid (HC6.out.trans (hb7.mono HC6.out.size))
  have HV3 := Lib.hid (HV3b.out.below hb7)
  have HV8 := Lib.hid (HV8b.out.below hb7)
  have HS7 := Lib.hid hs7
  clear hw7 hb7 hV10 HV3b HV8b HB6 HO6 hs7
  refine (HTI.out w7 HB7.out).mono ?_
  rintro e w8 ⟨g8, rfl, ho8, hb8⟩
  have HX8 := Lib.hid ho8
  have HX8' := Lib.hid ho8
  have HS8 := Lib.hid (MsLaw.inSrc_own ho8 HM.out (by omega))
  have HO8 := Lib.hid (HO7.out.below hb8)
  have HR8 := Lib.hid (HR7.out.below (by have := HS7.out; omega) hb8)
  have HB8 := Lib.hid (HB7.out.trans (hb8.mono HB7.out.size))
  have HC8 := Lib.hid (HC7.out.trans (hb8.mono HC7.out.size))
  have HV3b := Lib.hid (HV3.out.below hb8)
  have HV8b := Lib.hid (HV8.out.below hb8)
  have HV10b := Lib.hid (HV10.out.below hb8)
  have p10 := HV10b.out.c1
  have HZ8 := Lib.hid hb8.size
  clear ho8 hb8 HV3 HV8 HV10 HB7 HC7 HO7 HR7
  go_wp2_with (fail)
  go_at_call 15
  have HMA := Lib.hid HO8.out.at
  rw [← HN.out] at HMA
  refine (runMach15 w8 g5 0 n n fs zs (HF.out _ HB8.out) HMA.out HN.out HLE.out g8 0 m m HS8.out steps).mono ?_
  rw [← HA.out]
  unfold AnsPost
  rw [← HOK.out]
  rintro e w9 ⟨v1, rfl, hat, hb9⟩
  obtain ⟨ta, tn, tc, em, vm, da, dn, dc, rfl⟩ := hat.read.form
  obtain ⟨htn, hdn⟩ := hat.lens HSD.out
  have HG9 := Lib.hid hat
  have HL9 : Hid ((∀ k, Value.ownBlock (.slice ta tn tc) = some k → w8.heap.size ≤ k ∧ k < w9.heap.size) ∧ (∀ k, Value.ownBlock (.slice da dn dc) = some k → w8.heap.size ≤ k ∧ k < w9.heap.size)) := Lib.hid (by
    obtain ⟨xs, ys, hO⟩ := hat.own
    exact ⟨World.ownsRow.lt hO.s, World.ownsRow.lt hO.c⟩)
  have HX9 := Lib.hid (ownsRow_below HX8.out hb9)
  have HO9 := Lib.hid (HO8.out.below hb9)
  have HR9 := Lib.hid (HR8.out.below (by have := HS7.out; have := HZ8.out; omega) hb9)
  have HB9 := Lib.hid (HB8.out.trans (hb9.mono HB8.out.size))
  have HC9 := Lib.hid (HC8.out.trans (hb9.mono HC8.out.size))
  have HV3 := Lib.hid (HV3b.out.below hb9)
  have HV8 := Lib.hid (HV8b.out.below hb9)
  have HV10 := Lib.hid (HV10b.out.below hb9)
  have HZ9 := Lib.hid hb9.size
  obtain ⟨p8a, p8b, p8c, p8d⟩ := HV8.out.c4
  have l8 := HV8.out.lt
  clear hat hb9 HV3b HV8b HV10b HB8 HC8 HO8 HR8 p10 HX8 HS8 HMA
  go_wp2_with (fail)
  go_at_call 26
  generalize hw10 : w9.alloc _ = w10
  have hb10 : Below w9.heap.size w9 w10 := by rw [← hw10]; exact below1 _ _
  have hV12 : Blk w10 w9.heap.size [.slice ta tn tc, .int .i64 em, .int .i64 vm, .slice da dn dc] := by rw [← hw10]; exact Blk.new _ _ _
  have HV12 := Lib.hid hV12
  have HG10 := Lib.hid (HG9.out.below hb10)
  have HX10 := Lib.hid (ownsRow_below HX9.out hb10)
  have HO10 := Lib.hid (HO9.out.below hb10)
  have HR10 := Lib.hid (HR9.out.below (by have := HS7.out; have := HZ8.out; have := HZ9.out; omega) hb10)
  have HB10 := Lib.hid (HB9.out.trans (hb10.mono HB9.out.size))
  have HC10 := Lib.hid (HC9.out.trans (hb10.mono HC9.out.size))
  have HV3b := Lib.hid (HV3.out.below hb10)
  have HV8b := Lib.hid (HV8.out.below hb10)
  have HV10b := Lib.hid (HV10.out.below hb10)
  have HZ10 := Lib.hid hb10.size
  clear hw10 hb10 hV12 HV3 HV8 HV10 HB9 HC9 HO9 HR9 HX9 HG9 p8a p8b p8c p8d l8
  refine (eqOutcome_same w10 ans _ _ _ _ _ _ _ _ _ _ _ _ _ _ _ _ HG10.out.read (HR4.out.below HC10.out) (by omega) (by omega)).mono ?_
  rintro e w11 ⟨rfl, hb⟩
  have HG11 := Lib.hid (HG10.out.below hb)
  have HX11 := Lib.hid (ownsRow_below HX10.out hb)
  have HO11 := Lib.hid (HO10.out.below hb)
  have HR11 := Lib.hid (HR10.out.below (by have := HS7.out; have := HZ8.out; have := HZ9.out; have := HZ10.out; omega) hb)
  have HB11 := Lib.hid (HB10.out.trans (hb.mono HB10.out.size))
  have HC11 := Lib.hid (HC10.out.trans (hb.mono HC10.out.size))
  have HV3 := Lib.hid (HV3b.out.below hb)
  have HV8 := Lib.hid (HV8b.out.below hb)
  have HV10 := Lib.hid (HV10b.out.below hb)
  have HV12b := Lib.hid (HV12.out.below hb)
  have HZ11 := Lib.hid hb.size
  have p3 := HV3.out.c1
  have p10 := HV10.out.c1
  have eok : (ok != ok) = false := by simp
  clear hb HV3b HV8b HV10b HV12 HB10 HC10 HO10 HR10 HX10 HG10
  go_wp2_with (fail)
  refine wp_region_chain (fun W => W.cell? ⟨w6.heap.size, 0, none⟩ = some (.slice (some ⟨g5, 0, none⟩) n n) ∧ W.cell? ⟨w.heap.size, 0, none⟩ = some (.slice a n cap)) [(0, true), (1, true)] [2, 3, 4] 4 (by kernel_rfl) (by kernel_rfl) (fun d v c a w h => by cases d <;> exact h) ⟨p10, p3⟩ ?_
  simp only [pickO, List.map_cons, List.map_nil, List.getD_cons_zero, List.getD_cons_succ]
  refine heldO_step (v := ?_) rfl ?_ ?_
  rotate_left
  · intro W hS
    obtain ⟨k0, k1⟩ := hS
    go_simp
    try rfl
  simp only [Act.put, List.setIfInBounds_toArray, List.set_cons_zero, List.set_cons_succ]
  refine heldO_step (v := ?_) rfl ?_ ?_
  rotate_left
  · intro W hS
    obtain ⟨k0, k1⟩ := hS
    go_simp
    try rfl
  simp only [Act.put, List.setIfInBounds_toArray, List.set_cons_zero, List.set_cons_succ]
  refine heldO_nil ?_
  refine tailO_step rfl (fun K hK => ?_)
  go_simp
  refine (HTO.out _ HB11.out.drew HLE.out).mono ?_
  rintro e w12 ⟨g12, rfl, ho12, hb12⟩
  have hb : Below w11.heap.size w11 w12 := (Below.refl w11.heap.size w11).drew.trans hb12
  have HM12 := Lib.hid ho12.at
  have HG12 := Lib.hid (HG11.out.below hb)
  have HX12 := Lib.hid (ownsRow_below HX11.out hb)
  have HO12 := Lib.hid (HO11.out.below hb)
  have HR12 := Lib.hid (HR11.out.below (by have := HS7.out; have := HZ8.out; have := HZ9.out; have := HZ10.out; have := HZ11.out; omega) hb)
  have HB12 := Lib.hid (HB11.out.trans (hb.mono HB11.out.size))
  have HC12 := Lib.hid (HC11.out.trans (hb.mono HC11.out.size))
  have HV3b := Lib.hid (HV3.out.below hb)
  have HV8b := Lib.hid (HV8.out.below hb)
  have HV10b := Lib.hid (HV10.out.below hb)
  have HV12 := Lib.hid (HV12b.out.below hb)
  have HZ12 := Lib.hid hb.size
  have q3 := HV3b.out.c1
  have q10 := HV10b.out.c1
  refine hK _ _ (.inr ⟨q10, q3⟩) ?_
  clear hK K ho12 hb12 hb p3 p10 HV3 HV8 HV10 HV12b HB11 HC11 HO11 HR11 HX11 HG11
  refine tailO_step rfl (fun K hK => ?_)
  go_simp
  have HMA := Lib.hid HO12.out.at
  rw [← HN.out] at HMA HM12
  refine (eqMach_same w12 _ _ fs HMA.out HM12.out HLE.out).mono ?_
  rintro e w13 ⟨rfl, hb⟩
  have HG13 := Lib.hid (HG12.out.below hb)
  have HX13 := Lib.hid (ownsRow_below HX12.out hb)
  have HR13 := Lib.hid (HR12.out.below (by have := HS7.out; have := HZ8.out; have := HZ9.out; have := HZ10.out; have := HZ11.out; have := HZ12.out; omega) hb)
  have HB13 := Lib.hid (HB12.out.trans (hb.mono HB12.out.size))
  have HC13 := Lib.hid (HC12.out.trans (hb.mono HC12.out.size))
  have HV3 := Lib.hid (HV3b.out.below hb)
  have HV8 := Lib.hid (HV8b.out.below hb)
  have HV10 := Lib.hid (HV10b.out.below hb)
  have HV12b := Lib.hid (HV12.out.below hb)
  have HZ13 := Lib.hid hb.size
  have p3 := HV3.out.c1
  have p10 := HV10.out.c1
  refine hK _ _ (.inr ⟨p10, p3⟩) ?_
  clear hK K hb q3 q10 HV3b HV8b HV10b HV12 HB12 HC12 HO12 HR12 HX12 HG12 HMA HM12
  refine tailO_step rfl (fun K hK => ?_)
  go_simp
  refine hK _ _ (.inl rfl) (tailO_nil ?_)
  clear hK K p3 p10
  go_wp2_with (fail)
  go_at_call 19
  refine (HTI.out w13 HB13.out).mono ?_
  rintro e w14 ⟨g14, rfl, ho14, hb⟩
  have HI14 := Lib.hid (MsLaw.inSrc_own ho14 HM.out (by omega)).ints
  have HG14 := Lib.hid (HG13.out.below hb)
  have HX14 := Lib.hid (ownsRow_below HX13.out hb)
  have HJ14 := Lib.hid (MsLaw.inSrc_own HX14.out HM.out (by omega)).ints
  have HR14 := Lib.hid (HR13.out.below (by have := HS7.out; have := HZ8.out; have := HZ9.out; have := HZ10.out; have := HZ11.out; have := HZ12.out; have := HZ13.out; omega) hb)
  have HB14 := Lib.hid (HB13.out.trans (hb.mono HB13.out.size))
  have HC14 := Lib.hid (HC13.out.trans (hb.mono HC13.out.size))
  have HV3b := Lib.hid (HV3.out.below hb)
  have HV8b := Lib.hid (HV8.out.below hb)
  have HV10b := Lib.hid (HV10.out.below hb)
  have HV12 := Lib.hid (HV12b.out.below hb)
  have HZ14 := Lib.hid hb.size
  clear ho14 hb HV3 HV8 HV10 HV12b HB13 HC13 HR13 HX13 HG13
  go_wp2_with (fail)
  go_at_call 21
  refine (eqInts HJ14.out HI14.out (by rw [← HM.out]; omega)).mono ?_
  rintro e w15 ⟨rfl, hb⟩
  have HG15 := Lib.hid (HG14.out.below hb)
  have HX15 := Lib.hid (ownsRow_below HX14.out hb)
  have hE : w6.heap.size ≤ w15.heap.size := by have := HS7.out; have := HZ8.out; have := HZ9.out; have := HZ10.out; have := HZ11.out; have := HZ12.out; have := HZ13.out; have := HZ14.out; have := hb.size; omega
  have HR15 := Lib.hid (HR14.out.below (by have := HS7.out; have := HZ8.out; have := HZ9.out; have := HZ10.out; have := HZ11.out; have := HZ12.out; have := HZ13.out; have := HZ14.out; omega) hb)
  have HB15 := Lib.hid (HB14.out.trans (hb.mono HB14.out.size))
  have HC15 := Lib.hid (HC14.out.trans (hb.mono HC14.out.size))
  have HV3 := Lib.hid (HV3b.out.below hb)
  have HV8 := Lib.hid (HV8b.out.below hb)
  have HV10 := Lib.hid (HV10b.out.below hb)
  have HV12b := Lib.hid (HV12.out.below hb)
  have p10 := HV10.out.c1
  clear hb HV3b HV8b HV10b HV12 HB14 HC14 HR14 HX14 HG14 HI14 HJ14
  go_wp2_with (fail)
  go_at_call 27
  have HMK := Lib.hid (markMach_any w15 w5.heap.size w6.heap.size g5 n 1 fs HR15.out hE HLE.out (by decide))
  rw [← HN.out] at HMK
  refine HMK.out.mono ?_
  rintro e w16 ⟨K, rfl, hK, hM, _⟩
  have z5 := HZ5.out
  have z7 := HS7.out
  have z8 := HZ8.out
  have z9 := HZ9.out
  have z10 := HZ10.out
  have z4 := HB4'.out
  have h915 : w9.heap.size < w15.heap.size := HV12b.out.lt
  have HB16 := Lib.hid (HB15.out.trans ((hM.below (by omega)).mono (by omega)))
  have HC16 := Lib.hid (HC15.out.trans ((hM.below (by omega)).mono (by omega)))
  have HV3b := Lib.hid (HV3.out.same (hM.block _ HV3.out.lt (.inl (by omega))))
  have HV8b := Lib.hid (HV8.out.same (hM.block _ HV8.out.lt (.inl (by omega))))
  have HV10b := Lib.hid (HV10.out.same (hM.block _ HV10.out.lt (.inr (Nat.le_refl _))))
  have HV12 := Lib.hid (HV12b.out.same (hM.block _ HV12b.out.lt (.inr (by omega))))
  have HX16 := Lib.hid (ownsRow_same HX15.out fun k hk => hM.block k (World.ownsRow.lt HX15.out k hk).2 (.inr (by have := (World.ownsRow.lt HX15.out k hk).1; omega)))
  have HG16 := Lib.hid (HG15.out.keep fun k h1 h2 => hM.block k h2 (.inr (by omega)))
  have hs1516 := hM.size
  have hg8 := ownsRow_lt HX8'.out
  have hK' : K ≤ 6291457000001 := by
    have h1 : n ≤ 1048576 := by have h2 := HLE.out.1; rw [← HN.out] at h2; exact h2
    have h3 : n * 6000000 ≤ 1048576 * 6000000 := Nat.mul_le_mul_right _ h1
    have h4 : 1048576 * 6000000 = 6291456000000 := by decide
    omega
  have H5 : Hid (w5.heap.size = w4.heap.size + 1 ∧ w7.heap.size = w6.heap.size + 1 ∧ w5.heap.size ≤ w6.heap.size ∧ w7.heap.size ≤ w8.heap.size ∧ w8.heap.size ≤ w9.heap.size ∧ w.heap.size < w4.heap.size ∧ w9.heap.size < w16.heap.size) := Lib.hid ⟨z5, z7, hs56, z8, z9, z4, by omega⟩
  clear hM p10 HV3 HV8 HV10 HV12b HB15 HC15 HX15 HG15 HR15 HMK hK z5 z7 z8 z9 z10 z4 HZ5 HS7 HZ8 HZ9 HZ10 HZ11 HZ12 HZ13 HZ14 hs56 hE h915 hs1516
  go_wp2_with (fail)
  go_at_call 28
  refine (markIntS_only w16 w7.heap.size _ m K _ HX16.out (by omega)).mono ?_
  rintro e w17 ⟨rfl, _, hF⟩
  have hF : Only [g8] w16 w17 := hF
  obtain ⟨z5, z7, z56, z78, z89, z4, z916⟩ := H5.out
  have hne : ∀ k, k ≠ g8 → k ∉ [g8] := fun k hk hm => hk (List.mem_singleton.1 hm)
  have hbl : ∀ B, B ≤ g8 → B ≤ w16.heap.size → Below B w16 w17 := fun B h1 h2 => Only.below (Below.refl _ _) hF h2 (fun q hq => by rw [List.mem_singleton.1 hq]; exact h1)
  have HB17 := Lib.hid (HB16.out.trans (hbl w.heap.size (by omega) (by omega)))
  have HC17 := Lib.hid (HC16.out.trans (hbl w4.heap.size (by omega) (by omega)))
  have HV3 := Lib.hid (HV3b.out.same (hF.block _ HV3b.out.lt (hne _ (by omega))))
  have HV8 := Lib.hid (HV8b.out.same (hF.block _ HV8b.out.lt (hne _ (by omega))))
  have HV12b := Lib.hid (HV12.out.same (hF.block _ HV12.out.lt (hne _ (by omega))))
  have HG17 := Lib.hid (HG16.out.keep fun k h1 h2 => hF.block k h2 (hne _ (by omega)))
  have H17 : Hid (w9.heap.size < w17.heap.size) := Lib.hid (by have := hF.size; omega)
  obtain ⟨p8a, p8b, p8c, p8d⟩ := HV8.out.c4
  obtain ⟨p12a, p12b, p12c, p12d⟩ := HV12b.out.c4
  obtain ⟨q, hq⟩ : ∃ q : Nat, K + m = q := ⟨_, rfl⟩
  rw [hq]
  have hq0 : (0 : Int) ≤ (q : Int) := by omega
  clear hF z5 z7 z56 z78 z89 z4 z916 hne hbl HV3b HV8b HV10b HV12 HB16 HC16 HG16 HX16 hq hg8 hK'
  go_wp2_with (fail)
  go_at_call 26
  refine (eqOutcome_same w17 ans _ _ _ _ _ _ _ _ _ _ _ _ _ _ _ _ HG17.out.read (HR4.out.below HC17.out) (by omega) (by omega)).mono ?_
  rintro e w18 ⟨rfl, hb⟩
  have HG18 := Lib.hid (HG17.out.below hb)
  have HB18 := Lib.hid (HB17.out.trans (hb.mono HB17.out.size))
  have HC18 := Lib.hid (HC17.out.trans (hb.mono HC17.out.size))
  have HV3b := Lib.hid (HV3.out.below hb)
  have HV8b := Lib.hid (HV8.out.below hb)
  have HV12 := Lib.hid (HV12b.out.below hb)
  have H18 : Hid (w9.heap.size < w18.heap.size) := Lib.hid (by have := hb.size; have := H17.out; omega)
  clear hb p8a p8b p8c p8d p12a p12b p12c p12d HV3 HV8 HV12b HB17 HC17 HG17 H17
  obtain ⟨p12a, p12b, p12c, p12d⟩ := HV12.out.c4
  go_wp2_with (fail)
  go_at_call 29
  obtain ⟨xs, ys, hown⟩ := HG18.out.own
  refine (markOutcome_any w18 w8.heap.size ta tn tc em vm da dn dc 1 xs ys hown (by have := H18.out; have := H5.out; omega) (by omega)).mono ?_
  rintro e w19 ⟨rfl, hmk, hbm, hF⟩
  obtain ⟨z5, z7, z56, z78, z89, z4, z916⟩ := H5.out
  have HMK := Lib.hid hmk
  have HB19 := Lib.hid (HB18.out.trans (hbm.mono (by omega)))
  have HC19 := Lib.hid (HC18.out.trans (hbm.mono (by omega)))
  have HV3 := Lib.hid (HV3b.out.same (hbm.block _ (by omega)))
  have HV8 := Lib.hid (HV8b.out.same (hbm.block _ (by omega)))
  have HV12b := Lib.hid (HV12.out.same (hF.block _ HV12.out.lt (fun hm => by
    rcases List.mem_append.1 hm with h | h
    · have := (HL9.out.1 w9.heap.size (by simpa using h)).2; omega
    · have := (HL9.out.2 w9.heap.size (by simpa using h)).2; omega)))
  clear hmk hbm hF hown HG18 HB18 HC18 HV3b HV8b HV12 p12a p12b p12c p12d z5 z7 z56 z78 z89 z4 z916 H18
  obtain ⟨p12a, p12b, p12c, p12d⟩ := HV12b.out.c4
  obtain ⟨q2, hq2⟩ : ∃ q2 : Nat, 1 + tn + dn = q2 := ⟨_, rfl⟩
  rw [hq2]
  have HQ2 := Lib.hid hq2
  have hq20 : (0 : Int) ≤ (q2 : Int) := by omega
  have eq2 : ((q2 : Int) != (q2 : Int)) = false := by simp
  clear hq2
  go_wp2_with (fail)
  go_at_call 30
  refine (heldOutcome_any w19 w8.heap.size ta tn tc em vm da dn dc 1 HMK.out (by omega)).mono ?_
  rw [HQ2.out]
  rintro e w20 ⟨rfl, hb⟩
  have HMK20 := Lib.hid (HMK.out.below hb)
  have HB20 := Lib.hid (HB19.out.trans (hb.mono HB19.out.size))
  have HC20 := Lib.hid (HC19.out.trans (hb.mono HC19.out.size))
  have HV3b := Lib.hid (HV3.out.below hb)
  have HV8b := Lib.hid (HV8.out.below hb)
  have HV12 := Lib.hid (HV12b.out.below hb)
  clear hb p12a p12b p12c p12d HV3 HV8 HV12b HB19 HC19 HMK
  have p3 := HV3b.out.c1
  go_wp2_with (fail)
  go_at_call 18
  refine (HTO.out w20 HB20.out HLE.out).mono ?_
  rintro e w21 ⟨g21, rfl, ho21, hb⟩
  have HM21 := Lib.hid ho21.at
  have HMK21 := Lib.hid (HMK20.out.below hb)
  have HB21 := Lib.hid (HB20.out.trans (hb.mono HB20.out.size))
  have HC21 := Lib.hid (HC20.out.trans (hb.mono HC20.out.size))
  have HV8 := Lib.hid (HV8b.out.below hb)
  have HV12b := Lib.hid (HV12.out.below hb)
  clear ho21 hb p3 HV3b HV8b HV12 HB20 HC20 HMK20
  go_wp2_with (fail)
  go_at_call 19
  refine (HTI.out w21 HB21.out).mono ?_
  rintro e w22 ⟨g22, rfl, ho22, hb⟩
  have HS22 := Lib.hid (MsLaw.inSrc_own ho22 HM.out (by omega))
  have HM22 := Lib.hid (HM21.out.below hb)
  have HMK22 := Lib.hid (HMK21.out.below hb)
  have HB22 := Lib.hid (HB21.out.trans (hb.mono HB21.out.size))
  have HC22 := Lib.hid (HC21.out.trans (hb.mono HC21.out.size))
  have HV8b := Lib.hid (HV8.out.below hb)
  have HV12 := Lib.hid (HV12b.out.below hb)
  clear ho22 hb HV8 HV12b HB21 HC21 HMK21 HM21
  go_wp2_with (fail)
  go_at_call 15
  rw [← HN.out] at HM22
  refine (runMach15 w22 g21 0 n n fs zs (HF.out _ HB22.out) HM22.out HN.out HLE.out g22 0 m m HS22.out steps).mono ?_
  rw [← HA.out]
  unfold AnsPost
  rw [← HOK.out]
  rintro e w23 ⟨v2, rfl, hat, hb⟩
  obtain ⟨ua, un, uc, eu, vu, ea, ek, ec, rfl⟩ := hat.read.form
  obtain ⟨hun, hek⟩ := hat.lens HSD.out
  have HG23 := Lib.hid hat.read
  have HMK23 := Lib.hid (HMK22.out.below hb)
  have HB23 := Lib.hid (HB22.out.trans (hb.mono HB22.out.size))
  have HC23 := Lib.hid (HC22.out.trans (hb.mono HC22.out.size))
  have HV8 := Lib.hid (HV8b.out.below hb)
  have HV12b := Lib.hid (HV12.out.below hb)
  obtain ⟨p8a, p8b, p8c, p8d⟩ := HV8.out.c4
  have l8 := HV8.out.lt
  clear hat hb HV8b HV12 HB22 HC22 HMK22 HM22 HS22
  go_wp2_with (fail)
  go_at_call 26
  generalize hw24 : w23.alloc _ = w24
  have hb24 : Below w23.heap.size w23 w24 := by rw [← hw24]; exact below1 _ _
  have HG24 := Lib.hid (HG23.out.below hb24)
  have HMK24 := Lib.hid (HMK23.out.below hb24)
  have HB24 := Lib.hid (HB23.out.trans (hb24.mono HB23.out.size))
  have HC24 := Lib.hid (HC23.out.trans (hb24.mono HC23.out.size))
  have HV12 := Lib.hid (HV12b.out.below hb24)
  clear hw24 hb24 HV8 HV12b HB23 HC23 HMK23 HG23 p8a p8b p8c p8d l8
  refine (eqOutcome_same w24 ans _ _ _ _ _ _ _ _ _ _ _ _ _ _ _ _ HG24.out (HR4.out.below HC24.out) (by omega) (by omega)).mono ?_
  rintro e w25 ⟨rfl, hb⟩
  have HMK25 := Lib.hid (HMK24.out.below hb)
  have HB25 := Lib.hid (HB24.out.trans (hb.mono HB24.out.size))
  have HV12b := Lib.hid (HV12.out.below hb)
  obtain ⟨p12a, p12b, p12c, p12d⟩ := HV12b.out.c4
  clear hb HV12 HB24 HC24 HMK24 HG24
  go_wp2_with (fail)
  go_at_call 30
  refine (heldOutcome_any w25 w8.heap.size ta tn tc em vm da dn dc 1 HMK25.out (by omega)).mono ?_
  rw [HQ2.out]
  rintro e w26 ⟨rfl, hb⟩
  have HB26 := Lib.hid (HB25.out.trans (hb.mono HB25.out.size))
  clear hb p12a p12b p12c p12d HV12b HB25 HMK25
  go_wp2_with (fail)
  go_ret
  exact ⟨rfl, HB26.out⟩

set_option maxHeartbeats 400000 in
theorem big (v : Value) (a : Option Addr) (n cap : Nat) (steps : Int) (w : World) (hn : 1048576 < n) (hm : n ≤ 9223372036854775807) :
    Calls Tryd.prog 6 #[.agg #[v], .slice a n cap, .int .i64 steps] w (Yes w) := by
  go_enter Tryd.func6, Tryd.ntmps6
  go_wp2
  go_ret
  exact ⟨rfl, below1 _ _⟩

end Go.Proofs.YtbdbmmdnidonjaaDoor.RmLaw

set_option maxRecDepth 100000
namespace Go.Proofs.YtbdbmmdnidonjaaDoor
open Go.RowKit

set_option maxHeartbeats 1000000 in
theorem wwI_same (w : World) (a a2 : Option Addr) (cap cap2 n : Nat) (zs : List Int) (hl : zs.length = n) (hm : n ≤ 1099511627776)
    (hc : ∀ i, i < zs.length → ∃ b off, a = some ⟨b, off, none⟩ ∧ w.cell? ⟨b, off + i, none⟩ = some (.int .i64 (zs.getD i 0)))
    (hc2 : ∀ i, i < zs.length → ∃ b off, a2 = some ⟨b, off, none⟩ ∧ w.cell? ⟨b, off + i, none⟩ = some (.int .i64 (zs.getD i 0))) :
    Calls Tryd.prog 53 #[.slice a n cap, .slice a2 n cap2] w (Yes w) := by
  have Hc := Lib.hid hc
  have Hc2 := Lib.hid hc2
  have Hl := Lib.hid hl
  clear hc hl hc2
  go_enter Tryd.func53, Tryd.ntmps53
  go_wp2
  go_loopw [11] (fun i wr => ∃ k : Nat, k ≤ n ∧ i = .int .i64 k ∧ ∃ m, wr = w.drewN m) (fun i _ => n - (intOf i).toNat)
  case atStart => exact ⟨0, Nat.zero_le _, rfl, 0, rfl⟩
  case round =>
    obtain ⟨k, hk, rfl, m, rfl⟩ := hrel
    by_cases hlt : k < n
    · obtain ⟨b, off, rfl, hcell⟩ := Hc.out k (by rw [Hl.out]; exact hlt)
      obtain ⟨b2, off2, rfl, hcell2⟩ := Hc2.out k (by rw [Hl.out]; exact hlt)
      generalize zs.getD k 0 = z at *
      have hd : ∀ m', (w.drewN m').cell? ⟨b, off + k, none⟩ = some (.int .i64 z) := fun _ => hcell
      have hd2 : ∀ m', (w.drewN m').cell? ⟨b2, off2 + k, none⟩ = some (.int .i64 z) := fun _ => hcell2
      have k0 : (0 : Int) ≤ k := by omega
      have k1 : (k : Int) < n := by omega
      go_wp2
      go_quiet (fail)
      go_wp2
      go_roundw
      case rel => exact ⟨k + 1, by omega, by go_num, _, rfl⟩
      case measure => simp [intOf]; omega
    · obtain rfl : k = n := by omega
      go_wp2
      go_ret
      exact ⟨rfl, rfl, rfl, rfl, Nat.le_refl _, fun _ _ => rfl⟩
theorem wwI_ints {w : World} {v v2 : Value} {zs : List Int} (h : IntsAt w v zs) (h2 : IntsAt w v2 zs) (hm : zs.length ≤ 1099511627776) : Calls Tryd.prog 53 #[v, v2] w (Yes w) := by
  obtain ⟨a, cap, rfl, hc⟩ := h
  obtain ⟨a2, cap2, rfl, hc2⟩ := h2
  exact wwI_same w a a2 cap cap2 _ zs rfl hm hc hc2

set_option maxHeartbeats 1000000 in
theorem l5I_same (w : World) (a a2 : Option Addr) (cap cap2 n : Nat) (zs : List Int) (hl : zs.length = n) (hm : n ≤ 1099511627776)
    (hc : ∀ i, i < zs.length → ∃ b off, a = some ⟨b, off, none⟩ ∧ w.cell? ⟨b, off + i, none⟩ = some (.int .i64 (zs.getD i 0)))
    (hc2 : ∀ i, i < zs.length → ∃ b off, a2 = some ⟨b, off, none⟩ ∧ w.cell? ⟨b, off + i, none⟩ = some (.int .i64 (zs.getD i 0))) :
    Calls Tryd.prog 62 #[.slice a n cap, .slice a2 n cap2] w (Yes w) := by
  have Hc := Lib.hid hc
  have Hc2 := Lib.hid hc2
  have Hl := Lib.hid hl
  clear hc hl hc2
  go_enter Tryd.func62, Tryd.ntmps62
  go_wp2
  go_loopw [5] (fun i wr => ∃ k : Nat, k ≤ n ∧ i = .int .i64 k ∧ ∃ m, wr = w.drewN m) (fun i _ => n - (intOf i).toNat)
  case atStart => exact ⟨0, Nat.zero_le _, rfl, 0, rfl⟩
  case round =>
    obtain ⟨k, hk, rfl, m, rfl⟩ := hrel
    by_cases hlt : k < n
    · obtain ⟨b, off, rfl, hcell⟩ := Hc.out k (by rw [Hl.out]; exact hlt)
      obtain ⟨b2, off2, rfl, hcell2⟩ := Hc2.out k (by rw [Hl.out]; exact hlt)
      generalize zs.getD k 0 = z at *
      have hd : ∀ m', (w.drewN m').cell? ⟨b, off + k, none⟩ = some (.int .i64 z) := fun _ => hcell
      have hd2 : ∀ m', (w.drewN m').cell? ⟨b2, off2 + k, none⟩ = some (.int .i64 z) := fun _ => hcell2
      have k0 : (0 : Int) ≤ k := by omega
      have k1 : (k : Int) < n := by omega
      go_wp2
      go_quiet (fail)
      go_wp2
      go_roundw
      case rel => exact ⟨k + 1, by omega, by go_num, _, rfl⟩
      case measure => simp [intOf]; omega
    · obtain rfl : k = n := by omega
      go_wp2
      go_ret
      exact ⟨rfl, rfl, rfl, rfl, Nat.le_refl _, fun _ _ => rfl⟩
theorem l5I_ints {w : World} {v v2 : Value} {zs : List Int} (h : IntsAt w v zs) (h2 : IntsAt w v2 zs) (hm : zs.length ≤ 1099511627776) : Calls Tryd.prog 62 #[v, v2] w (Yes w) := by
  obtain ⟨a, cap, rfl, hc⟩ := h
  obtain ⟨a2, cap2, rfl, hc2⟩ := h2
  exact l5I_same w a a2 cap cap2 _ zs rfl hm hc hc2

set_option maxHeartbeats 1000000 in
theorem slE_same (w : World) (a a2 : Option Addr) (cap cap2 n : Nat) (zs : List Int) (hl : zs.length = n) (hm : n ≤ 1099511627776)
    (hc : ∀ i, i < zs.length → ∃ b off, a = some ⟨b, off, none⟩ ∧ w.cell? ⟨b, off + i, none⟩ = some (.int .i64 (zs.getD i 0)))
    (hc2 : ∀ i, i < zs.length → ∃ b off, a2 = some ⟨b, off, none⟩ ∧ w.cell? ⟨b, off + i, none⟩ = some (.int .i64 (zs.getD i 0))) :
    Calls Tryd.prog 63 #[.slice a n cap, .slice a2 n cap2] w (Yes w) := by
  have Hc := Lib.hid hc
  have Hc2 := Lib.hid hc2
  have Hl := Lib.hid hl
  clear hc hl hc2
  go_enter Tryd.func63, Tryd.ntmps63
  go_wp2
  go_loopw [13] (fun i wr => ∃ k : Nat, k ≤ n ∧ i = .int .i64 k ∧ ∃ m, wr = w.drewN m) (fun i _ => n - (intOf i).toNat)
  case atStart => exact ⟨0, Nat.zero_le _, rfl, 0, rfl⟩
  case round =>
    obtain ⟨k, hk, rfl, m, rfl⟩ := hrel
    by_cases hlt : k < n
    · obtain ⟨b, off, rfl, hcell⟩ := Hc.out k (by rw [Hl.out]; exact hlt)
      obtain ⟨b2, off2, rfl, hcell2⟩ := Hc2.out k (by rw [Hl.out]; exact hlt)
      generalize zs.getD k 0 = z at *
      have hd : ∀ m', (w.drewN m').cell? ⟨b, off + k, none⟩ = some (.int .i64 z) := fun _ => hcell
      have hd2 : ∀ m', (w.drewN m').cell? ⟨b2, off2 + k, none⟩ = some (.int .i64 z) := fun _ => hcell2
      have k0 : (0 : Int) ≤ k := by omega
      have k1 : (k : Int) < n := by omega
      go_wp2
      go_quiet (fail)
      go_wp2
      go_roundw
      case rel => exact ⟨k + 1, by omega, by go_num, _, rfl⟩
      case measure => simp [intOf]; omega
    · obtain rfl : k = n := by omega
      go_wp2
      go_ret
      exact ⟨rfl, rfl, rfl, rfl, Nat.le_refl _, fun _ _ => rfl⟩
theorem slE_ints {w : World} {v v2 : Value} {zs : List Int} (h : IntsAt w v zs) (h2 : IntsAt w v2 zs) (hm : zs.length ≤ 1099511627776) : Calls Tryd.prog 63 #[v, v2] w (Yes w) := by
  obtain ⟨a, cap, rfl, hc⟩ := h
  obtain ⟨a2, cap2, rfl, hc2⟩ := h2
  exact slE_same w a a2 cap cap2 _ zs rfl hm hc hc2

set_option maxHeartbeats 1000000 in
theorem spSame_of (w : World) (xs ys : List Int) (sa sb : Option Addr) (sn sm sc sd : Nat) (en vl : Int) (ca cb : Option Addr) (cn cm cc cd : Nat) (h1 : IntsAt w (.slice sa sn sc) xs) (h2 : IntsAt w (.slice sb sm sd) xs) (h3 : IntsAt w (.slice ca cn cc) ys) (h4 : IntsAt w (.slice cb cm cd) ys) (hsn : sn ≤ 1099511627776) (hcn : cn ≤ 1099511627776) :
    Calls Tryd.prog 24 #[.agg #[.slice sa sn sc, .int .i64 en, .int .i64 vl, .slice ca cn cc], .agg #[.slice sb sm sd, .int .i64 en, .int .i64 vl, .slice cb cm cd]] w (Yes w) := by
  have hx : xs.length ≤ 1099511627776 := by
    obtain ⟨_, _, he, _⟩ := h1
    injection he with _ he
    omega
  have hy : ys.length ≤ 1099511627776 := by
    obtain ⟨_, _, he, _⟩ := h3
    injection he with _ he
    omega
  have HS := Lib.hid (fun w' (hb : Below w.heap.size w w') => l5I_ints (h1.below hb) (h2.below hb) hx)
  have HC := Lib.hid (fun w' (hb : Below w.heap.size w w') => l5I_ints (h3.below hb) (h4.below hb) hy)
  clear h1 h2 h3 h4 hx hy
  go_enter Tryd.func24, Tryd.ntmps24
  go_wp2_with (fail)
  refine (HS.out _ (below2 _ _ _)).mono ?_
  rintro e w1 ⟨rfl, hb⟩
  obtain ⟨hc, _⟩ := bcell hb
  have p1 : w1.cell? ⟨w.heap.size, 1, none⟩ = some (.int .i64 en) := by rw [hc _ _ (by simp; omega)]; simp [go_sem]
  have p2 : w1.cell? ⟨w.heap.size, 2, none⟩ = some (.int .i64 vl) := by rw [hc _ _ (by simp; omega)]; simp [go_sem]
  have p3 : w1.cell? ⟨w.heap.size, 3, none⟩ = some (.slice ca cn cc) := by rw [hc _ _ (by simp; omega)]; simp [go_sem]
  have q1 : w1.cell? ⟨w.heap.size + 1, 1, none⟩ = some (.int .i64 en) := by rw [hc _ _ (by simp)]; simp [go_sem]
  have q2 : w1.cell? ⟨w.heap.size + 1, 2, none⟩ = some (.int .i64 vl) := by rw [hc _ _ (by simp)]; simp [go_sem]
  have q3 : w1.cell? ⟨w.heap.size + 1, 3, none⟩ = some (.slice cb cm cd) := by rw [hc _ _ (by simp)]; simp [go_sem]
  have HB := Lib.hid ((below2 w _ _).trans (hb.mono (by simp; omega)))
  have e1 : (en == en) = true := by simp
  have e2 : (vl == vl) = true := by simp
  clear hb hc HS
  go_wp2_with (fail)
  refine (HC.out _ HB.out).mono ?_
  rintro e w2 ⟨rfl, hb⟩
  have HB2 := Lib.hid (HB.out.trans (hb.mono HB.out.size))
  clear hb HC HB
  go_wp2_with (fail)
  go_ret
  exact ⟨rfl, HB2.out⟩

set_option maxHeartbeats 1000000 in
theorem spSame_same (w : World) (o : Option Rs) (sa sb : Option Addr) (sn sm sc sd : Nat) (en em vl vm : Int) (ca cb : Option Addr) (cn cm cc cd : Nat) (h : OutRd w o (.agg #[.slice sa sn sc, .int .i64 en, .int .i64 vl, .slice ca cn cc])) (k : OutRd w o (.agg #[.slice sb sm sd, .int .i64 em, .int .i64 vm, .slice cb cm cd])) (hsn : sn ≤ 1099511627776) (hcn : cn ≤ 1099511627776) :
    Calls Tryd.prog 24 #[.agg #[.slice sa sn sc, .int .i64 en, .int .i64 vl, .slice ca cn cc], .agg #[.slice sb sm sd, .int .i64 em, .int .i64 vm, .slice cb cm cd]] w (Yes w) := by
  obtain ⟨rfl, rfl, xs, ys, h1, h2, h3, h4⟩ := h.two k
  exact spSame_of w xs ys _ _ _ _ _ _ _ _ _ _ _ _ _ _ h1 h2 h3 h4 hsn hcn

set_option maxHeartbeats 1000000 in
theorem imSame_of (w : World) (xs ys : List Int) (sa sb : Option Addr) (sn sm sc sd : Nat) (en vl : Int) (ca cb : Option Addr) (cn cm cc cd : Nat) (h1 : IntsAt w (.slice sa sn sc) xs) (h2 : IntsAt w (.slice sb sm sd) xs) (h3 : IntsAt w (.slice ca cn cc) ys) (h4 : IntsAt w (.slice cb cm cd) ys) (hsn : sn ≤ 1099511627776) (hcn : cn ≤ 1099511627776) :
    Calls Tryd.prog 25 #[.agg #[.slice sa sn sc, .int .i64 en, .int .i64 vl, .slice ca cn cc], .agg #[.slice sb sm sd, .int .i64 en, .int .i64 vl, .slice cb cm cd]] w (Yes w) := by
  have hx : xs.length ≤ 1099511627776 := by
    obtain ⟨_, _, he, _⟩ := h1
    injection he with _ he
    omega
  have hy : ys.length ≤ 1099511627776 := by
    obtain ⟨_, _, he, _⟩ := h3
    injection he with _ he
    omega
  have HS := Lib.hid (fun w' (hb : Below w.heap.size w w') => slE_ints (h1.below hb) (h2.below hb) hx)
  have HC := Lib.hid (fun w' (hb : Below w.heap.size w w') => slE_ints (h3.below hb) (h4.below hb) hy)
  clear h1 h2 h3 h4 hx hy
  go_enter Tryd.func25, Tryd.ntmps25
  go_wp2_with (fail)
  refine (HS.out _ (below2 _ _ _)).mono ?_
  rintro e w1 ⟨rfl, hb⟩
  obtain ⟨hc, _⟩ := bcell hb
  have p1 : w1.cell? ⟨w.heap.size, 1, none⟩ = some (.int .i64 en) := by rw [hc _ _ (by simp; omega)]; simp [go_sem]
  have p2 : w1.cell? ⟨w.heap.size, 2, none⟩ = some (.int .i64 vl) := by rw [hc _ _ (by simp; omega)]; simp [go_sem]
  have p3 : w1.cell? ⟨w.heap.size, 3, none⟩ = some (.slice ca cn cc) := by rw [hc _ _ (by simp; omega)]; simp [go_sem]
  have q1 : w1.cell? ⟨w.heap.size + 1, 1, none⟩ = some (.int .i64 en) := by rw [hc _ _ (by simp)]; simp [go_sem]
  have q2 : w1.cell? ⟨w.heap.size + 1, 2, none⟩ = some (.int .i64 vl) := by rw [hc _ _ (by simp)]; simp [go_sem]
  have q3 : w1.cell? ⟨w.heap.size + 1, 3, none⟩ = some (.slice cb cm cd) := by rw [hc _ _ (by simp)]; simp [go_sem]
  have HB := Lib.hid ((below2 w _ _).trans (hb.mono (by simp; omega)))
  have e1 : (en == en) = true := by simp
  have e2 : (vl == vl) = true := by simp
  clear hb hc HS
  go_wp2_with (fail)
  refine (HC.out _ HB.out).mono ?_
  rintro e w2 ⟨rfl, hb⟩
  have HB2 := Lib.hid (HB.out.trans (hb.mono HB.out.size))
  clear hb HC HB
  go_wp2_with (fail)
  go_ret
  exact ⟨rfl, HB2.out⟩

set_option maxHeartbeats 1000000 in
theorem imSame_same (w : World) (o : Option Rs) (sa sb : Option Addr) (sn sm sc sd : Nat) (en em vl vm : Int) (ca cb : Option Addr) (cn cm cc cd : Nat) (h : OutRd w o (.agg #[.slice sa sn sc, .int .i64 en, .int .i64 vl, .slice ca cn cc])) (k : OutRd w o (.agg #[.slice sb sm sd, .int .i64 em, .int .i64 vm, .slice cb cm cd])) (hsn : sn ≤ 1099511627776) (hcn : cn ≤ 1099511627776) :
    Calls Tryd.prog 25 #[.agg #[.slice sa sn sc, .int .i64 en, .int .i64 vl, .slice ca cn cc], .agg #[.slice sb sm sd, .int .i64 em, .int .i64 vm, .slice cb cm cd]] w (Yes w) := by
  obtain ⟨rfl, rfl, xs, ys, h1, h2, h3, h4⟩ := h.two k
  exact imSame_of w xs ys _ _ _ _ _ _ _ _ _ _ _ _ _ _ h1 h2 h3 h4 hsn hcn

theorem ints_take {w : World} {a : Option Addr} {n cap m : Nat} {zs ys : List Int} (h : IntsAt w (.slice a n cap) zs) (hp : ys <+: zs) (hm : ys.length = m) (cap2 : Nat) : IntsAt w (.slice a m cap2) ys := by
  obtain ⟨a', cap', he, hc⟩ := h
  injection he with he1 he2 he3
  subst he1
  have hle := hp.length_le
  refine ⟨a, cap2, by rw [hm], fun i hi => ?_⟩
  obtain ⟨b, off, hab, hcell⟩ := hc i (by omega)
  refine ⟨b, off, hab, ?_⟩
  rw [hcell]
  obtain ⟨t, ht⟩ := hp
  rw [← ht, List.getD_eq_getElem?_getD, List.getD_eq_getElem?_getD, List.getElem?_append_left hi]

set_option maxHeartbeats 1000000 in
theorem wwBegins_yes (w : World) (a a2 : Option Addr) (n cap m cap2 : Nat) (zs ys : List Int) (h : IntsAt w (.slice a n cap) zs) (h2 : IntsAt w (.slice a2 m cap2) ys) (hp : ys <+: zs) (hcap : n ≤ cap) (hm : m ≤ 1099511627776) :
    Calls Tryd.prog 16 #[.slice a n cap, .slice a2 m cap2] w (Yes w) := by
  have hml : ys.length = m := by
    obtain ⟨_, _, he, _⟩ := h2
    injection he with _ he; exact he.symm
  have hnl : zs.length = n := by
    obtain ⟨_, _, he, _⟩ := h
    injection he with _ he; exact he.symm
  have hle : m ≤ n := by have := hp.length_le; omega
  have HW := Lib.hid (wwI_ints (ints_take h hp hml cap) h2 (by omega))
  have m0 : (0 : Int) ≤ (m : Int) := by omega
  have m1 : (m : Int) ≤ (cap : Int) := by omega
  have m2 : (m : Int) ≤ (n : Int) := by omega
  clear h h2 hp hml hnl
  cases a with
  | none =>
    go_enter Tryd.func16, Tryd.ntmps16
    go_wp2_with (fail)
    go_at_call 53
    refine HW.out.mono ?_
    rintro e w1 ⟨rfl, hb⟩
    have HB := Lib.hid hb
    clear hb HW
    go_wp2_with (fail)
    go_ret
    exact ⟨rfl, HB.out⟩
  | some ad =>
    go_enter Tryd.func16, Tryd.ntmps16
    go_wp2_with (fail)
    go_at_call 53
    refine HW.out.mono ?_
    rintro e w1 ⟨rfl, hb⟩
    have HB := Lib.hid hb
    clear hb HW
    go_wp2_with (fail)
    go_ret
    exact ⟨rfl, HB.out⟩

end Go.Proofs.YtbdbmmdnidonjaaDoor

set_option maxRecDepth 100000
namespace Go.Proofs.YtbdbmmdnidonjaaDoor
open Go.RowKit

/-- as many steps more are left -/
def Cm.more (s : Cm) (d : Nat) : Cm := { s with left := s.left + d }
theorem Cm.more_step {s : Cm} {d : Nat} (h : s.left ≠ 0) (p : Nat) : (s.more d).step p = (s.step p).more d := by
  unfold Cm.more Cm.step
  simp only [Cm.mk.injEq, true_and, and_true]
  omega
theorem plainOp_more (x : Ni) (l : Lc) (s : Cm) (d : Nat) : plainOp x l (s.more d) = match plainOp x l s with
    | .inl (l2, s2) => .inl (l2, s2.more d)
    | .inr e => .inr e := by
  unfold plainOp Cm.more
  by_cases e1 : x.op = 1
  · simp only [if_pos e1]
  simp only [if_neg e1]
  by_cases e2 : x.op = 2
  · simp only [if_pos e2]
  simp only [if_neg e2]
  by_cases e10 : x.op = 10
  · simp only [if_pos e10]
  simp only [if_neg e10]
  by_cases e11 : x.op = 11
  · simp only [if_pos e11]
    by_cases q : 16 ≤ l.reg x.b
    · simp only [if_pos q]
    · simp only [if_neg q]
  simp only [if_neg e11]
  by_cases e12 : x.op = 12
  · simp only [if_pos e12]
    by_cases q : 16 ≤ l.reg x.a
    · simp only [if_pos q]
    · simp only [if_neg q]
  simp only [if_neg e12]
  by_cases e13 : x.op = 13
  · simp only [if_pos e13]
  simp only [if_neg e13]
  by_cases e15 : x.op = 15
  · simp only [if_pos e15]
  simp only [if_neg e15]
  by_cases e16 : x.op = 16
  · simp only [if_pos e16]
  simp only [if_neg e16]
  by_cases e17 : x.op = 17
  · simp only [if_pos e17]
  simp only [if_neg e17]
  by_cases e18 : x.op = 18
  · simp only [if_pos e18]
  simp only [if_neg e18]
  by_cases e19 : x.op = 19
  · simp only [if_pos e19]
  simp only [if_neg e19]
  cases q : arithN x.op (l.reg x.b) (l.reg x.c) with
  | none => rfl
  | some v => rfl
theorem plainOp_grow {x : Ni} {l l2 : Lc} {s s2 : Cm} (h : plainOp x l s = .inl (l2, s2)) : s.said <+: s2.said ∧ s2.left = s.left := by
  unfold plainOp at h
  by_cases e1 : x.op = 1
  · rw [if_pos e1] at h; cases h; exact ⟨List.prefix_refl _, rfl⟩
  rw [if_neg e1] at h
  by_cases e2 : x.op = 2
  · rw [if_pos e2] at h; cases h; exact ⟨List.prefix_refl _, rfl⟩
  rw [if_neg e2] at h
  by_cases e10 : x.op = 10
  · rw [if_pos e10] at h; cases h; exact ⟨List.prefix_refl _, rfl⟩
  rw [if_neg e10] at h
  by_cases e11 : x.op = 11
  · rw [if_pos e11] at h
    by_cases q : 16 ≤ l.reg x.b
    · rw [if_pos q] at h; cases h
    · rw [if_neg q] at h; cases h; exact ⟨List.prefix_refl _, rfl⟩
  rw [if_neg e11] at h
  by_cases e12 : x.op = 12
  · rw [if_pos e12] at h
    by_cases q : 16 ≤ l.reg x.a
    · rw [if_pos q] at h; cases h
    · rw [if_neg q] at h; cases h; exact ⟨List.prefix_refl _, rfl⟩
  rw [if_neg e12] at h
  by_cases e13 : x.op = 13
  · rw [if_pos e13] at h; cases h; exact ⟨List.prefix_append _ _, rfl⟩
  rw [if_neg e13] at h
  by_cases e15 : x.op = 15
  · rw [if_pos e15] at h; cases h; exact ⟨List.prefix_refl _, rfl⟩
  rw [if_neg e15] at h
  by_cases e16 : x.op = 16
  · rw [if_pos e16] at h; cases h; exact ⟨List.prefix_refl _, rfl⟩
  rw [if_neg e16] at h
  by_cases e17 : x.op = 17
  · rw [if_pos e17] at h; cases h; exact ⟨List.prefix_refl _, rfl⟩
  rw [if_neg e17] at h
  by_cases e18 : x.op = 18
  · rw [if_pos e18] at h; cases h; exact ⟨List.prefix_refl _, rfl⟩
  rw [if_neg e18] at h
  by_cases e19 : x.op = 19
  · rw [if_pos e19] at h; cases h; exact ⟨List.prefix_refl _, rfl⟩
  rw [if_neg e19] at h
  cases q : arithN x.op (l.reg x.b) (l.reg x.c) with
  | none => rw [q] at h; cases h
  | some v => rw [q] at h; cases h; exact ⟨List.prefix_refl _, rfl⟩
theorem plainOp_stop3 {x : Ni} {l : Lc} {s : Cm} {e : Nat} (h : plainOp x l s = .inr e) : e ≠ 3 := by
  unfold plainOp at h
  by_cases e1 : x.op = 1
  · rw [if_pos e1] at h; cases h
  rw [if_neg e1] at h
  by_cases e2 : x.op = 2
  · rw [if_pos e2] at h; cases h
  rw [if_neg e2] at h
  by_cases e10 : x.op = 10
  · rw [if_pos e10] at h; cases h
  rw [if_neg e10] at h
  by_cases e11 : x.op = 11
  · rw [if_pos e11] at h
    by_cases q : 16 ≤ l.reg x.b
    · rw [if_pos q] at h; cases h; decide
    · rw [if_neg q] at h; cases h
  rw [if_neg e11] at h
  by_cases e12 : x.op = 12
  · rw [if_pos e12] at h
    by_cases q : 16 ≤ l.reg x.a
    · rw [if_pos q] at h; cases h; decide
    · rw [if_neg q] at h; cases h
  rw [if_neg e12] at h
  by_cases e13 : x.op = 13
  · rw [if_pos e13] at h; cases h
  rw [if_neg e13] at h
  by_cases e15 : x.op = 15
  · rw [if_pos e15] at h; cases h
  rw [if_neg e15] at h
  by_cases e16 : x.op = 16
  · rw [if_pos e16] at h; cases h
  rw [if_neg e16] at h
  by_cases e17 : x.op = 17
  · rw [if_pos e17] at h; cases h
  rw [if_neg e17] at h
  by_cases e18 : x.op = 18
  · rw [if_pos e18] at h; cases h
  rw [if_neg e18] at h
  by_cases e19 : x.op = 19
  · rw [if_pos e19] at h; cases h
  rw [if_neg e19] at h
  cases q : arithN x.op (l.reg x.b) (l.reg x.c) with
  | none => rw [q] at h; cases h; decide
  | some v => rw [q] at h; cases h
theorem step_said (s : Cm) (p : Nat) : (s.step p).said = s.said := rfl
theorem step_left (s : Cm) (p : Nat) : (s.step p).left = s.left - 1 := rfl

/-- what was said stays said; steps are only spent -/
theorem loop_grow (P : Pg) : ∀ g k at_ l s, s.said <+: (loop P g k at_ l s).cm.said ∧ (loop P g k at_ l s).cm.left ≤ s.left := by
  intro g
  induction g with
  | zero => intro k at_ l s; exact ⟨List.prefix_refl _, Nat.le_refl _⟩
  | succ g ih =>
    intro k at_ l s
    have hle : (s.step (P.base k + at_)).left ≤ s.left := Nat.sub_le _ _
    have hsd := step_said s (P.base k + at_)
    unfold loop
    generalize P.fet k at_ = x at *
    generalize s.step (P.base k + at_) = s1 at *
    split
    · exact ⟨List.prefix_refl _, Nat.le_refl _⟩
    split
    · exact ⟨by rw [← hsd]; exact List.prefix_refl _, hle⟩
    split
    · have := ih k x.n l s1
      exact ⟨by rw [← hsd]; exact this.1, by omega⟩
    split
    · have := ih k (if l.reg x.a = 0 then P.nxt k at_ else x.n) l s1
      exact ⟨by rw [← hsd]; exact this.1, by omega⟩
    split
    · have h1 := ih x.n 0 (newLc P x.n l.gives) s1
      generalize loop P g x.n 0 (newLc P x.n l.gives) s1 = r at *
      cases r with
      | ret v s2 =>
        have h2 := ih k (P.nxt k at_) { l with res := v } s2
        have h3 : s1.said <+: s2.said := h1.1
        have h4 : s2.left ≤ s1.left := h1.2
        exact ⟨by rw [← hsd]; exact h3.trans h2.1, by have h5 := h2.2; show (loop P g k (P.nxt k at_) { l with res := v } s2).cm.left ≤ _; omega⟩
      | stop e s2 => exact ⟨by rw [← hsd]; exact h1.1, by have : s2.left ≤ s1.left := h1.2; show s2.left ≤ _; omega⟩
    · cases hp : plainOp x l s1 with
      | inl ls =>
        obtain ⟨l2, s2⟩ := ls
        have h1 := plainOp_grow hp
        have h2 := ih k (P.nxt k at_) l2 s2
        exact ⟨by rw [← hsd]; exact h1.1.trans h2.1, by simp only []; omega⟩
      | inr e => exact ⟨by rw [← hsd]; exact List.prefix_refl _, hle⟩

theorem loop_spends (P : Pg) (g k at_ : Nat) (l : Lc) (s : Cm) (h : s.left ≠ 0) : (loop P (g + 1) k at_ l s).cm.left < s.left := by
  have hl1 := step_left s (P.base k + at_)
  unfold loop
  rw [if_neg h]
  generalize P.fet k at_ = x at *
  generalize s.step (P.base k + at_) = s1 at *
  split
  · show s1.left < _; omega
  split
  · have := (loop_grow P g k x.n l s1).2; omega
  split
  · have := (loop_grow P g k (if l.reg x.a = 0 then P.nxt k at_ else x.n) l s1).2; omega
  split
  · have h1 := (loop_grow P g x.n 0 (newLc P x.n l.gives) s1).2
    generalize loop P g x.n 0 (newLc P x.n l.gives) s1 = r at *
    cases r with
    | ret v s2 =>
      have h2 := (loop_grow P g k (P.nxt k at_) { l with res := v } s2).2
      have h3 : s2.left ≤ s1.left := h1
      show (loop P g k (P.nxt k at_) { l with res := v } s2).cm.left < _
      omega
    | stop e s2 => have h3 : s2.left ≤ s1.left := h1; show s2.left < _; omega
  · cases hp : plainOp x l s1 with
    | inl ls =>
      obtain ⟨l2, s2⟩ := ls
      have h1 := (plainOp_grow hp).2
      have h2 := (loop_grow P g k (P.nxt k at_) l2 s2).2
      show (loop P g k (P.nxt k at_) l2 s2).cm.left < _
      omega
    | inr e => show s1.left < _; omega

/-- a run with so many steps more: the same if it had ended; if not, it says more -/
def More (d : Nat) (r r' : Rs) : Prop :=
  match r with
  | .ret v s => r' = .ret v (s.more d)
  | .stop e s => if e = 3 then s.said <+: r'.cm.said ∧ s.left = 0 ∧ (r'.cm.left < d ∨ r'.en = 3) else r' = .stop e (s.more d)

theorem more_3 (d : Nat) (s : Cm) (r' : Rs) : More d (.stop 3 s) r' ↔ (s.said <+: r'.cm.said ∧ s.left = 0 ∧ (r'.cm.left < d ∨ r'.en = 3)) := by
  unfold More
  simp
theorem more_e (d : Nat) {e : Nat} (he : e ≠ 3) (s : Cm) (r' : Rs) : More d (.stop e s) r' ↔ r' = .stop e (s.more d) := by
  unfold More
  simp only [if_neg he]
theorem loop_more (P : Pg) (d : Nat) : ∀ g g' k at_ l s, s.left < g → s.left + d < g' → More d (loop P g k at_ l s) (loop P g' k at_ l (s.more d)) := by
  intro g
  induction g with
  | zero => intro g' k at_ l s h; omega
  | succ g ih =>
    intro g' k at_ l s hg hg'
    by_cases h0 : s.left = 0
    · have h1 : loop P (g + 1) k at_ l s = .stop 3 s := by rw [loop, if_pos h0]
      rw [h1]
      rw [more_3]
      refine ⟨(loop_grow P g' k at_ l (s.more d)).1, h0, ?_⟩
      have hml : (s.more d).left = d := by show s.left + d = d; omega
      by_cases hd : d = 0
      · right
        cases g' with
        | zero => rfl
        | succ g' => rw [loop, if_pos (by rw [hml]; exact hd)]; rfl
      · left
        cases g' with
        | zero => omega
        | succ g' => have := loop_spends P g' k at_ l (s.more d) (by rw [hml]; exact hd); omega
    cases g' with
    | zero => omega
    | succ g' =>
    have hm0 : (s.more d).left ≠ 0 := by show s.left + d ≠ 0; omega
    rw [loop, loop, if_neg h0, if_neg hm0, Cm.more_step h0]
    have hl1 := step_left s (P.base k + at_)
    generalize P.fet k at_ = x at *
    generalize s.step (P.base k + at_) = s1 at *
    by_cases e22 : x.op = 22
    · rw [if_pos e22, if_pos e22]; exact rfl
    rw [if_neg e22, if_neg e22]
    by_cases e20 : x.op = 20
    · rw [if_pos e20, if_pos e20]; exact ih g' k x.n l s1 (by omega) (by omega)
    rw [if_neg e20, if_neg e20]
    by_cases e21 : x.op = 21
    · rw [if_pos e21, if_pos e21]; exact ih g' k _ l s1 (by omega) (by omega)
    rw [if_neg e21, if_neg e21]
    by_cases e14 : x.op = 14
    · rw [if_pos e14, if_pos e14]
      have h1 := ih g' x.n 0 (newLc P x.n l.gives) s1 (by omega) (by omega)
      have hgr := (loop_grow P g x.n 0 (newLc P x.n l.gives) s1).2
      generalize loop P g x.n 0 (newLc P x.n l.gives) s1 = r at *
      cases r with
      | ret v s2 =>
        have h2 : loop P g' x.n 0 (newLc P x.n l.gives) (s1.more d) = .ret v (s2.more d) := h1
        rw [h2]
        have h3 : s2.left ≤ s1.left := hgr
        exact ih g' k (P.nxt k at_) { l with res := v } s2 (by omega) (by omega)
      | stop e s2 =>
        by_cases e3 : e = 3
        · subst e3
          have h2 : s2.said <+: (loop P g' x.n 0 (newLc P x.n l.gives) (s1.more d)).cm.said ∧ s2.left = 0 ∧ ((loop P g' x.n 0 (newLc P x.n l.gives) (s1.more d)).cm.left < d ∨ (loop P g' x.n 0 (newLc P x.n l.gives) (s1.more d)).en = 3) := (more_3 _ _ _).1 h1
          rw [more_3]
          generalize loop P g' x.n 0 (newLc P x.n l.gives) (s1.more d) = r2 at *
          cases r2 with
          | ret v2 s3 =>
            have h4 := loop_grow P g' k (P.nxt k at_) { l with res := v2 } s3
            have h5 : s3.left < d := h2.2.2.resolve_right (by show ¬ (0 : Nat) = 3; omega)
            exact ⟨h2.1.trans h4.1, h2.2.1, .inl (by simp only []; omega)⟩
          | stop e2 s3 => exact h2
        · have h2 : loop P g' x.n 0 (newLc P x.n l.gives) (s1.more d) = .stop e (s2.more d) := (more_e _ e3 _ _).1 h1
          rw [h2]
          exact (more_e _ e3 _ _).2 rfl
    · rw [if_neg e14, if_neg e14, plainOp_more]
      cases hp : plainOp x l s1 with
      | inl ls =>
        obtain ⟨l2, s2⟩ := ls
        have h1 := (plainOp_grow hp).2
        exact ih g' k (P.nxt k at_) l2 s2 (by omega) (by omega)
      | inr e =>
        exact (more_e _ (plainOp_stop3 hp) _ _).2 rfl

theorem cm0_more (T d : Nat) : (cm0 T).more d = cm0 (T + d) := rfl
theorem runOf_more (P : Pg) (k : Nat) (inp : List Nat) (T d : Nat) : More d (runOf P k inp T) (runOf P k inp (T + d)) := by
  unfold runOf
  rw [← cm0_more]
  exact loop_more P d (T + 1) (T + d + 1) k 0 _ (cm0 T) (Nat.lt_succ_self _) (Nat.lt_succ_self _)
theorem runOf_spends (P : Pg) (k : Nat) (inp : List Nat) (T : Nat) (h : T ≠ 0) : (runOf P k inp T).cm.left < T := loop_spends P T k 0 _ (cm0 T) h

/-- the same outcome -/
def SameOut (r r' : Rs) : Prop := r'.en = r.en ∧ r'.val = r.val ∧ r'.cm.said = r.cm.said ∧ r'.cm.cells = r.cm.cells
theorem More.ended {d : Nat} {r r' : Rs} (h : More d r r') (he : r.en ≠ 3) : SameOut r r' ∧ r'.cm.left = r.cm.left + d := by
  cases r with
  | ret v s =>
    have h : r' = .ret v (s.more d) := h
    subst h; exact ⟨⟨rfl, rfl, rfl, rfl⟩, rfl⟩
  | stop e s =>
    have he : e ≠ 3 := he
    have h := (more_e _ he _ _).1 h
    subst h; exact ⟨⟨rfl, rfl, rfl, rfl⟩, rfl⟩
theorem More.fuel {d : Nat} {r r' : Rs} (h : More d r r') (he : r.en = 3) : r.cm.said <+: r'.cm.said ∧ r.val = 0 ∧ (r'.cm.left < d ∨ r'.en = 3) := by
  cases r with
  | ret v s => have : (0 : Nat) = 3 := he; omega
  | stop e s =>
    have he : e = 3 := he
    subst he
    have h := (more_3 _ _ _).1 h
    exact ⟨h.1, rfl, h.2.2⟩

/-- a run that ended within T steps, with so many left: just as many as it spent suffice, one fewer does not -/
theorem runOf_just (P : Pg) (k : Nat) (inp : List Nat) (T : Nat) (hT : T ≠ 0) (he : (runOf P k inp T).en ≠ 3) :
    0 < T - (runOf P k inp T).cm.left ∧ (runOf P k inp (T - (runOf P k inp T).cm.left)).en ≠ 3 ∧ (runOf P k inp (T - (runOf P k inp T).cm.left - 1)).en = 3 ∧
      (runOf P k inp (T - (runOf P k inp T).cm.left - 1)).cm.said <+: (runOf P k inp (T - (runOf P k inp T).cm.left)).cm.said := by
  have hs := runOf_spends P k inp T hT
  obtain ⟨L, hL⟩ : ∃ L, (runOf P k inp T).cm.left = L := ⟨_, rfl⟩
  rw [hL] at hs ⊢
  have hpos : 0 < T - L := by omega
  -- one fewer
  have hless : ∀ m, m + L < T → (runOf P k inp m).en = 3 := fun m hm => by
    rcases Nat.decEq (runOf P k inp m).en 3 with h | h
    · have h1 := (runOf_more P k inp m (T - m)).ended h
      rw [show m + (T - m) = T by omega, hL] at h1
      omega
    · exact h
  have hn1 := hless (T - L - 1) (by omega)
  -- just as many: with as few as it takes the run of T would else have spent more
  have hn : (runOf P k inp (T - L)).en ≠ 3 := fun h3 => by
    rcases ((runOf_more P k inp (T - L) L).fuel h3).2.2 with h | h
    · rw [show T - L + L = T by omega, hL] at h; omega
    · rw [show T - L + L = T by omega] at h; exact he h
  refine ⟨hpos, hn, hn1, ?_⟩
  have h2 := (runOf_more P k inp (T - L - 1) 1).fuel hn1
  rw [show T - L - 1 + 1 = T - L by omega] at h2
  exact h2.1

end Go.Proofs.YtbdbmmdnidonjaaDoor

set_option maxRecDepth 100000
namespace Go.Proofs.YtbdbmmdnidonjaaDoor.MjLaw
open Go.RowKit

theorem prefix_ints {xs ys : List Nat} (h : xs <+: ys) : toInts0 xs <+: toInts0 ys := List.IsPrefix.map _ h
theorem runAns_some {fs : List Mf} {zs : List Int} (h : RunsOk fs zs) (T : Nat) (hT : T ≤ 200000) : runAns fs zs (T : Int) = some (runOf (machPg fs) (fs.length - 1) (toNats zs) T) := by
  unfold runAns
  rw [if_pos ⟨h, by omega, by omega⟩, Int.toNat_natCast]

theorem steps_cases (fs : List Mf) (zs : List Int) : stepsAns fs zs = -1 ∨ ∃ nn r1 r2, 0 < nn ∧ nn ≤ 200000 ∧ stepsAns fs zs = ((nn : Nat) : Int) ∧ runAns fs zs (nn : Int) = some r1 ∧ runAns fs zs ((nn - 1 : Nat) : Int) = some r2 ∧ r1.en ≠ 3 ∧ r2.en = 3 ∧ r2.cm.said <+: r1.cm.said := by
  unfold stepsAns
  by_cases hok : RunsOk fs zs
  · rw [if_pos hok]
    by_cases h3 : (runOf (machPg fs) (fs.length - 1) (toNats zs) 200000).en = 3
    · left; rw [if_pos h3]
    · right
      rw [if_neg h3]
      obtain ⟨h1, h2, h4, h5⟩ := runOf_just (machPg fs) (fs.length - 1) (toNats zs) 200000 (by decide) h3
      refine ⟨_, _, _, h1, Nat.sub_le _ _, rfl, runAns_some hok _ (Nat.sub_le _ _), runAns_some hok _ ?_, h2, h4, h5⟩
      exact Nat.le_trans (Nat.sub_le _ _) (Nat.sub_le _ _)
  · left; rw [if_neg hok]

/-- an outcome of impl's, its said numbers -/
theorem OutAt.said {w : World} {B : Nat} {r : Rs} {sa : Option Addr} {sn sc : Nat} {en vl : Int} {ca : Option Addr} {cn cc : Nat} (h : OutAt w B (some r) (.agg #[.slice sa sn sc, .int .i64 en, .int .i64 vl, .slice ca cn cc])) :
    en = r.en ∧ vl = r.val ∧ IntsAt w (.slice sa sn sc) (toInts0 r.cm.said) ∧ sn ≤ sc := by
  obtain ⟨a1, a2, a3, a4, a5, hv, h1, h2, h3⟩ := h
  simp only [Value.agg.injEq, Array.mk.injEq, List.cons.injEq, and_true, Value.slice.injEq, Value.int.injEq, true_and] at hv
  obtain ⟨⟨rfl, rfl, rfl⟩, rfl, rfl, ⟨rfl, rfl, rfl⟩⟩ := hv
  refine ⟨rfl, rfl, h1.ints, ?_⟩
  rcases h1.2 with ⟨h, _⟩ | ⟨g, cp, cur, h, _, _, hc, _⟩
  · simp only [Value.slice.injEq] at h; omega
  · obtain ⟨a, c, hform⟩ := saidForm h1
    simp only [Value.slice.injEq] at h hform
    omega

set_option maxHeartbeats 4000000 in
theorem just (w : World) (v : Value) (xs : List Int) (a : Option Addr) (n0 c0 : Nat) (hv : v = .slice a n0 c0) (hn0 : n0 ≤ 1048576) (hc0 : c0 ≤ 9223372036854775807) (hF : Forms w) (hb : Bytes w w.heap.size v xs) :
    Calls Tryd.prog 3 #[v] w (Yes w) := by
  have HD := Lib.hid (drawMachSteps_any w v xs (fun a' n' cap' he => by rw [hv] at he; injection he with _ _ he; omega) hb)
  have HF := Lib.hid (fun w' (hb : Below w.heap.size w w') => hF.below hb)
  subst hv
  clear hb hF
  go_enter Tryd.func3, Tryd.ntmps3
  go_wp2_with (fail)
  go_at_call 12
  refine HD.out.mono ?_
  rintro e w1 ⟨g, n, c, go, m, oc, rfl, hD⟩
  obtain ⟨fs, zs, hm, hn, hle, hs⟩ := hD.reads
  have hb1 := hD.below
  have HM1 := Lib.hid hm; have HN := Lib.hid hn; have HLE := Lib.hid hle; have HS1 := Lib.hid hs; have HB1 := Lib.hid hb1
  clear hD hm hn hle hs hb1 HD
  obtain ⟨ans, hans⟩ : ∃ ans, ans = stepsAns fs zs := ⟨_, rfl⟩
  have hcs := steps_cases fs zs
  rw [← hans] at hcs
  have HA := Lib.hid hans
  have HCS := Lib.hid hcs
  clear hans hcs
  go_wp2_with (fail)
  go_at_call 13
  generalize hw2 : w1.alloc _ = w2
  have hb2 : Below w1.heap.size w1 w2 := by rw [← hw2]; exact below1 _ _
  have HV2 : Hid (Blk w2 w1.heap.size [.slice (some ⟨g, 0, none⟩) n c]) := Lib.hid (by rw [← hw2]; exact Blk.new _ _ _)
  have HM2 := Lib.hid (HM1.out.below hb2); have HS2 := Lib.hid (HS1.out.below hb2); have HB2 := Lib.hid (HB1.out.trans (hb2.mono HB1.out.size))
  clear hw2 hb2 HM1 HS1 HB1
  refine (machSteps13 w2 g 0 n c fs zs (HF.out _ HB2.out) HM2.out HN.out HLE.out go 0 m oc HS2.out).mono ?_
  rw [← HA.out]
  rintro e w3 ⟨rfl, hb⟩
  have HV3 := Lib.hid (HV2.out.below hb); have HM3 := Lib.hid (HM2.out.below hb); have HS3 := Lib.hid (HS2.out.below hb); have HB3 := Lib.hid (HB2.out.trans (hb.mono HB2.out.size))
  have v0 := HV3.out.cell1
  clear hb HV2 HM2 HS2 HB2
  go_wp2_with (fail)
  go_at_call 14
  refine (specMachSteps w3 g 0 n c fs zs HM3.out HN.out HLE.out go 0 m oc HS3.out).mono ?_
  rw [← HA.out]
  rintro e w4 ⟨rfl, hb⟩
  have HV4 := Lib.hid (HV3.out.below hb); have HM4 := Lib.hid (HM3.out.below hb); have HS4 := Lib.hid (HS3.out.below hb); have HB4 := Lib.hid (HB3.out.trans (hb.mono HB3.out.size))
  clear hb v0 HV3 HM3 HS3 HB3
  have v0 := HV4.out.cell1
  rcases HCS.out with rfl | ⟨nn, r1, r2, hnn, hnn2, rfl, ha1, ha2, he1, he2, hp⟩
  · go_wp2_with (fail)
    go_at_call 14
    refine (specMachSteps w4 g 0 n c fs zs HM4.out HN.out HLE.out go 0 m oc HS4.out).mono ?_
    rw [← HA.out]
    rintro e w5 ⟨rfl, hb⟩
    have HB5 := Lib.hid (HB4.out.trans (hb.mono HB4.out.size))
    clear hb v0 HV4 HM4 HS4 HB4
    go_wp2_with (fail)
    go_ret
    exact ⟨rfl, HB5.out⟩
  · have e1 : ((nn : Int) != (nn : Int)) = false := by simp
    have HA1 := Lib.hid ha1; have HA2 := Lib.hid ha2; have HP := Lib.hid hp; have HE1 := Lib.hid he1; have HE2 := Lib.hid he2
    have hsd1 := RmLaw.runAns_said ha1
    have hsd2 := RmLaw.runAns_said ha2
    clear ha1 ha2 hp he1 he2 HCS HA
    go_wp2_with (fail)
    go_at_call 15
    refine (runMach15 w4 g 0 n c fs zs (HF.out _ HB4.out) HM4.out HN.out HLE.out go 0 m oc HS4.out (nn : Int)).mono ?_
    rw [HA1.out]
    rintro e w5 ⟨v1, rfl, hat, hb⟩
    obtain ⟨ta, tn, tc, em, vm, da, dn, dc, rfl⟩ := hat.read.form
    have hsaid := OutAt.said hat
    obtain ⟨rfl, rfl, hi1, hcap1⟩ := hsaid
    have HI5 := Lib.hid hi1
    have HV5 := Lib.hid (HV4.out.below hb); have HM5 := Lib.hid (HM4.out.below hb); have HS5 := Lib.hid (HS4.out.below hb); have HB5 := Lib.hid (HB4.out.trans (hb.mono HB4.out.size))
    have htn := (hat.lens (fun r hr => by cases hr; exact hsd1)).1
    clear hat hb hi1 v0 HV4 HM4 HS4 HB4
    have v0 := HV5.out.cell1
    have vl := HV5.out.lt
    have hn1 : (nn : Int) - 1 = ((nn - 1 : Nat) : Int) := by omega
    have HN1 := Lib.hid hn1
    go_wp2_with (fail)
    go_at_call 15
    generalize hw6 : w5.alloc _ = w6
    have hb6 : Below w5.heap.size w5 w6 := by rw [← hw6]; exact below1 _ _
    have HO6 : Hid (Blk w6 w5.heap.size [.slice ta tn tc, .int .i64 (r1.en : Int), .int .i64 (r1.val : Int), .slice da dn dc]) := Lib.hid (by rw [← hw6]; exact Blk.new _ _ _)
    have HI6 := Lib.hid (HI5.out.below hb6); have HM6 := Lib.hid (HM5.out.below hb6); have HS6 := Lib.hid (HS5.out.below hb6); have HB6 := Lib.hid (HB5.out.trans (hb6.mono HB5.out.size))
    clear hw6 hb6 HI5 HM5 HS5 HB5 v0 vl
    refine (runMach15 w6 g 0 n c fs zs (HF.out _ HB6.out) HM6.out HN.out HLE.out go 0 m oc HS6.out ((nn - 1 : Nat) : Int)).mono ?_
    rw [HA2.out]
    rintro e w7 ⟨v2, rfl, hat, hb⟩
    obtain ⟨ua, un, uc, eu, vu, fa, fn, fc, rfl⟩ := hat.read.form
    have hsaid := OutAt.said hat
    obtain ⟨rfl, rfl, hi2, _⟩ := hsaid
    have htu := (hat.lens (fun r hr => by cases hr; exact hsd2)).1
    have HI7 := Lib.hid (HI6.out.below hb); have HJ7 := Lib.hid hi2; have HO7 := Lib.hid (HO6.out.below hb); have HB7 := Lib.hid (HB6.out.trans (hb.mono HB6.out.size))
    clear hat hb hi2 HI6 HM6 HS6 HB6 HO6 hn1
    obtain ⟨o0, o1, o2, o3⟩ := HO7.out.c4
    have ol := HO7.out.lt
    have f1 : ((r1.en : Int) != 3) = true := by have := HE1.out; simp; omega
    have f2 : ((r2.en : Int) == 3) = true := by rw [HE2.out]; rfl
    have f3 : (0 : Int) < (nn : Int) := by omega
    have HW : Hid (∀ w', Below w7.heap.size w7 w' → Calls Tryd.prog 16 #[.slice ta tn tc, .slice ua un uc] w' (Yes w')) := Lib.hid fun w' hb => wwBegins_yes w' _ _ _ _ _ _ _ _ (HI7.out.below hb) (HJ7.out.below hb) (prefix_ints HP.out) hcap1 (by omega)
    clear HI7 HJ7 HP HE1 HE2 HA1 HA2 HO7
    go_wp2_with (fail)
    go_at_call 16
    refine (HW.out _ (below1 _ _)).mono ?_
    rintro e w8 ⟨rfl, hb⟩
    have HB8 := Lib.hid (HB7.out.trans (((below1 w7 _).trans (hb.mono (by simp))).mono HB7.out.size))
    clear hb HW
    go_wp2_with (fail)
    go_ret
    exact ⟨rfl, HB8.out⟩

theorem OutRd.same {w : World} {r r' : Rs} {v : Value} (h : OutRd w (some r') v) (hs : SameOut r r') : OutRd w (some r) v := by
  obtain ⟨sa, sn, sc, ca, cc, hv, h1, h2, h3⟩ := h
  obtain ⟨e1, e2, e3, e4⟩ := hs
  exact ⟨sa, sn, sc, ca, cc, by rw [hv, e1, e2], by rw [← e3]; exact h1, by rw [← e4]; exact h2, by rw [← e4]; exact h3⟩

/-- what a run with more steps answers -/
theorem more_cases (fs : List Mf) (zs : List Int) (st : Int) : runAns fs zs st = none ∨ ∃ T r, st = ((T : Nat) : Int) ∧ T ≤ 200000 ∧ runAns fs zs st = some r ∧
    ∀ T', T ≤ T' → T' ≤ 200000 → ∃ r', runAns fs zs ((T' : Nat) : Int) = some r' ∧ ((r.en ≠ 3 ∧ SameOut r r') ∨ (r.en = 3 ∧ r.val = 0 ∧ r.cm.said <+: r'.cm.said)) := by
  by_cases h : RunsOk fs zs ∧ 0 ≤ st ∧ st ≤ 200000
  · right
    obtain ⟨T, rfl⟩ : ∃ T : Nat, st = T := ⟨st.toNat, by omega⟩
    refine ⟨T, _, rfl, by omega, runAns_some h.1 T (by omega), fun T' h1 h2 => ⟨_, runAns_some h.1 T' h2, ?_⟩⟩
    have hm := runOf_more (machPg fs) (fs.length - 1) (toNats zs) T (T' - T)
    rw [show T + (T' - T) = T' by omega] at hm
    rcases Nat.decEq (runOf (machPg fs) (fs.length - 1) (toNats zs) T).en 3 with h3 | h3
    · exact .inl ⟨h3, (hm.ended h3).1⟩
    · have := hm.fuel h3
      exact .inr ⟨h3, this.2.1, this.1⟩
  · left
    unfold runAns
    rw [if_neg h]

set_option maxHeartbeats 4000000 in
theorem steps (w : World) (v : Value) (xs : List Int) (a : Option Addr) (n0 c0 : Nat) (hv : v = .slice a n0 c0) (hn0 : n0 ≤ 1048576) (hc0 : c0 ≤ 9223372036854775807) (hF : Forms w) (hb : Bytes w w.heap.size v xs) :
    Calls Tryd.prog 5 #[v] w (Yes w) := by
  have HD := Lib.hid (drawRunMach_any w v xs (fun a' n' cap' he => by rw [hv] at he; injection he with _ _ he; omega) hb)
  have HF := Lib.hid (fun w' (hb : Below w.heap.size w w') => hF.below hb)
  subst hv
  clear hb hF
  go_enter Tryd.func5, Tryd.ntmps5
  go_wp2_with (fail)
  go_at_call 22
  refine HD.out.mono ?_
  rintro e w1 ⟨g, n, c, go, m, oc, st, rfl, hD, hst1, hst2⟩
  obtain ⟨fs, zs, hm, hn, hle, hs⟩ := hD.reads
  have hb1 := hD.below
  have HM1 := Lib.hid hm; have HN := Lib.hid hn; have HLE := Lib.hid hle; have HS1 := Lib.hid hs; have HB1 := Lib.hid hb1
  clear hD hm hn hle hs hb1 HD
  obtain ⟨ans, hans⟩ : ∃ ans, ans = runAns fs zs st := ⟨_, rfl⟩
  have hcs := more_cases fs zs st
  have hsd := fun r (h : runAns fs zs st = some r) => RmLaw.runAns_said h
  rw [← hans] at hcs hsd
  have HA := Lib.hid hans
  have HCS := Lib.hid hcs
  have HSD := Lib.hid hsd
  clear hans hcs hsd
  go_wp2_with (fail)
  go_at_call 15
  generalize hw2 : w1.alloc _ = w2
  have hb2 : Below w1.heap.size w1 w2 := by rw [← hw2]; exact below1 _ _
  have HV2 : Hid (Blk w2 w1.heap.size [.slice (some ⟨g, 0, none⟩) n c]) := Lib.hid (by rw [← hw2]; exact Blk.new _ _ _)
  have HM2 := Lib.hid (HM1.out.below hb2); have HS2 := Lib.hid (HS1.out.below hb2); have HB2 := Lib.hid (HB1.out.trans (hb2.mono HB1.out.size))
  clear hw2 hb2 HM1 HS1 HB1
  refine (runMach15 w2 g 0 n c fs zs (HF.out _ HB2.out) HM2.out HN.out HLE.out go 0 m oc HS2.out st).mono ?_
  rw [← HA.out]
  rintro e w3 ⟨v1, rfl, hat, hb⟩
  obtain ⟨ta, tn, tc, em, vm, da, dn, dc, rfl⟩ := hat.read.form
  obtain ⟨htn, hdn⟩ := hat.lens HSD.out
  have HG3 := Lib.hid hat
  have HV3 := Lib.hid (HV2.out.below hb); have HM3 := Lib.hid (HM2.out.below hb); have HS3 := Lib.hid (HS2.out.below hb); have HB3 := Lib.hid (HB2.out.trans (hb.mono HB2.out.size))
  clear hat hb HV2 HM2 HS2 HB2
  have v0 := HV3.out.cell1
  have vl := HV3.out.lt
  go_wp2_with (fail)
  go_at_call 23
  generalize hw4 : w3.alloc _ = w4
  have hb4 : Below w3.heap.size w3 w4 := by rw [← hw4]; exact below1 _ _
  have HO4 : Hid (Blk w4 w3.heap.size [.slice ta tn tc, .int .i64 em, .int .i64 vm, .slice da dn dc]) := Lib.hid (by rw [← hw4]; exact Blk.new _ _ _)
  have HG4 := Lib.hid (HG3.out.below hb4); have HV4 := Lib.hid (HV3.out.below hb4); have HM4 := Lib.hid (HM3.out.below hb4); have HS4 := Lib.hid (HS3.out.below hb4); have HB4 := Lib.hid (HB3.out.trans (hb4.mono HB3.out.size))
  clear hw4 hb4 HG3 HV3 HM3 HS3 HB3 v0 vl
  refine (specRunMach w4 g 0 n c fs zs HM4.out HN.out HLE.out go 0 m oc HS4.out st).mono ?_
  rw [← HA.out]
  rintro e w5 ⟨v2, rfl, hrd, hb⟩
  obtain ⟨ua, un, uc, eu, vu, fa, fn, fc, rfl⟩ := hrd.form
  have HR5 := Lib.hid hrd
  have HO5 := Lib.hid (HO4.out.below hb); have HG5 := Lib.hid (HG4.out.below hb); have HV5 := Lib.hid (HV4.out.below hb); have HM5 := Lib.hid (HM4.out.below hb); have HS5 := Lib.hid (HS4.out.below hb); have HB5 := Lib.hid (HB4.out.trans (hb.mono HB4.out.size))
  obtain ⟨o0, o1, o2, o3⟩ := HO5.out.c4
  have ol := HO5.out.lt
  clear hrd hb HO4 HG4 HV4 HM4 HS4 HB4
  have HSAME : Hid (∀ w', Below w5.heap.size w5 w' → Calls Tryd.prog 24 #[.agg #[.slice ta tn tc, .int .i64 em, .int .i64 vm, .slice da dn dc], .agg #[.slice ua un uc, .int .i64 eu, .int .i64 vu, .slice fa fn fc]] w' (Yes w')) := Lib.hid fun w' hb => spSame_same w' ans _ _ _ _ _ _ _ _ _ _ _ _ _ _ _ _ (HG5.out.read.below hb) (HR5.out.below hb) (by omega) (by omega)
  obtain ⟨ok, hok⟩ : ∃ ok, ok = ans.isSome := ⟨_, rfl⟩
  rw [← hok]
  have HOK := Lib.hid hok
  have e1 : (ok != ok) = false := by simp
  have e2 : (ok == ok) = true := by simp
  clear hok HR5
  go_wp2_with (fail)
  go_at_call 24
  generalize hw6 : w5.alloc _ = w6
  have hb6 : Below w5.heap.size w5 w6 := by rw [← hw6]; exact below1 _ _
  have HU6 : Hid (Blk w6 w5.heap.size [.slice ua un uc, .int .i64 eu, .int .i64 vu, .slice fa fn fc]) := Lib.hid (by rw [← hw6]; exact Blk.new _ _ _)
  have HC6 := Lib.hid hb6
  clear hw6 hb6 o0 o1 o2 o3 ol
  refine (HSAME.out w6 HC6.out).mono ?_
  rintro e w7 ⟨rfl, hb⟩
  have hb57 := HC6.out.trans (hb.mono HC6.out.size)
  have HC7 := Lib.hid hb57
  have HU7 := Lib.hid (HU6.out.below hb)
  have HO7 := Lib.hid (HO5.out.below hb57); have HG7 := Lib.hid (HG5.out.below hb57); have HV7 := Lib.hid (HV5.out.below hb57); have HM7 := Lib.hid (HM5.out.below hb57); have HS7 := Lib.hid (HS5.out.below hb57); have HB7 := Lib.hid (HB5.out.trans (hb57.mono HB5.out.size))
  clear hb hb57 HC6 HU6 HO5 HG5 HV5 HM5 HS5 HB5
  rcases HCS.out with rfl | ⟨T, r, rfl, hT, rfl, hmore⟩
  · obtain rfl : ok = false := HOK.out
    obtain ⟨o0, o1, o2, o3⟩ := HO7.out.c4
    obtain ⟨u0, u1, u2, u3⟩ := HU7.out.c4
    go_wp2_with (fail)
    go_at_call 24
    refine (HSAME.out w7 HC7.out).mono ?_
    rintro e w8 ⟨rfl, hb⟩
    have HB8 := Lib.hid (HB7.out.trans (hb.mono HB7.out.size))
    clear hb o0 o1 o2 o3 u0 u1 u2 u3 HSAME
    go_wp2_with (fail)
    go_ret
    exact ⟨rfl, HB8.out⟩
  · obtain rfl : ok = true := HOK.out
    obtain ⟨T', hT1, hT2, hmin⟩ : ∃ T' : Nat, T ≤ T' ∧ T' ≤ 200000 ∧ (if (200000 : Int) < 2 * (T : Int) + 100 then (200000 : Int) else 2 * (T : Int) + 100) = (T' : Int) := by
      by_cases h : 2 * (T : Int) + 100 ≤ 200000
      · exact ⟨2 * T + 100, by omega, by omega, by rw [if_neg (by omega)]; omega⟩
      · exact ⟨200000, hT, by omega, by rw [if_pos (by omega)]; rfl⟩
    obtain ⟨r', hr', hcase⟩ := hmore T' hT1 hT2
    have HR' := Lib.hid hr'
    have HCASE := Lib.hid hcase
    have hsd' := RmLaw.runAns_said hr'
    have v0 := HV7.out.cell1
    have hmn : ∀ (ts : Array TypeId) (t : TypeId) (W : World), (Builtin.min_ ts t #[.int .i64 (2 * (T : Int) + 100), .int .i64 200000]).run Tryd.prog W = .ok (.int .i64 (T' : Int)) W := fun ts t W => by
      rw [run_min_int2, hmin]
    clear hmore hr' hcase hT1 HSAME HCS hmin
    go_wp2_with (fail)
    go_at_call 15
    refine (runMach15 w7 g 0 n c fs zs (HF.out _ HB7.out) HM7.out HN.out HLE.out go 0 m oc HS7.out (T' : Int)).mono ?_
    rw [HR'.out]
    rintro e w8 ⟨v3, rfl, hat, hb⟩
    obtain ⟨sa, sn, sc, eg, vg, ha, hn2, hc, rfl⟩ := hat.read.form
    obtain ⟨hsn, hhn⟩ := hat.lens (fun q hq => by cases hq; exact hsd')
    obtain ⟨rfl, rfl, hi1, hcap1⟩ := OutAt.said hat
    obtain ⟨rfl, rfl, hi2, _⟩ := OutAt.said (HG7.out.below hb)
    have HI8 := Lib.hid hi1; have HJ8 := Lib.hid hi2; have HRD8 := Lib.hid hat.read; have HG8 := Lib.hid (HG7.out.below hb).read
    have HO8 := Lib.hid (HO7.out.below hb); have HB8 := Lib.hid (HB7.out.trans (hb.mono HB7.out.size))
    clear hat hb hi1 hi2 v0 HV7 HM7 HS7 HB7 HO7 HG7 HU7 HC7 hmn HR' hsd'
    obtain ⟨o0, o1, o2, o3⟩ := HO8.out.c4
    have ol := HO8.out.lt
    rcases HCASE.out with ⟨h3, hsame⟩ | ⟨h3, hv0, hpre⟩
    · have e3 : ((r.en : Int) != 3) = true := by simp; omega
      have HSAME := Lib.hid (fun w' (hb : Below w8.heap.size w8 w') => imSame_same w' (some r) _ _ _ _ _ _ _ _ _ _ _ _ _ _ _ _ (OutRd.same (HRD8.out.below hb) hsame) (HG8.out.below hb) (by omega) (by omega))
      clear h3 hsame HI8 HJ8 HRD8 HG8 HCASE
      go_wp2_with (fail)
      go_at_call 25
      refine (HSAME.out _ (below1 _ _)).mono ?_
      rintro e w9 ⟨rfl, hb⟩
      have HB9 := Lib.hid (HB8.out.trans (((below1 w8 _).trans (hb.mono (by simp))).mono HB8.out.size))
      clear hb HSAME
      go_wp2_with (fail)
      go_ret
      exact ⟨rfl, HB9.out⟩
    · have e3 : ((r.en : Int) != 3) = false := by rw [h3]; rfl
      have e4 : ((r.val : Int) == 0) = true := by rw [hv0]; rfl
      have HW := Lib.hid (fun w' (hb : Below w8.heap.size w8 w') => wwBegins_yes w' _ _ _ _ _ _ _ _ (HI8.out.below hb) (HJ8.out.below hb) (prefix_ints hpre) hcap1 (by omega))
      clear h3 hv0 hpre HI8 HJ8 HRD8 HG8 HCASE
      go_wp2_with (fail)
      go_at_call 16
      refine (HW.out _ (below1 _ _)).mono ?_
      rintro e w9 ⟨rfl, hb⟩
      have HB9 := Lib.hid (HB8.out.trans (((below1 w8 _).trans (hb.mono (by simp))).mono HB8.out.size))
      clear hb HW
      go_wp2_with (fail)
      go_ret
      exact ⟨rfl, HB9.out⟩

set_option maxHeartbeats 400000 in
theorem bigJust (a : Option Addr) (n cap : Nat) (w : World) (hn : 1048576 < n) (hm : n ≤ 9223372036854775807) :
    Calls Tryd.prog 3 #[.slice a n cap] w (Yes w) := by
  go_enter Tryd.func3, Tryd.ntmps3
  go_wp2
  go_ret
  exact ⟨rfl, Below.refl _ _⟩
set_option maxHeartbeats 400000 in
theorem bigSteps (a : Option Addr) (n cap : Nat) (w : World) (hn : 1048576 < n) (hm : n ≤ 9223372036854775807) :
    Calls Tryd.prog 5 #[.slice a n cap] w (Yes w) := by
  go_enter Tryd.func5, Tryd.ntmps5
  go_wp2
  go_ret
  exact ⟨rfl, Below.refl _ _⟩

end Go.Proofs.YtbdbmmdnidonjaaDoor.MjLaw
