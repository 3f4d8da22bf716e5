/- Is an instruction valid: minsOk. -/
import Derived.Test.YtbdbmmdnidonjaaDoorFo
set_option maxRecDepth 100000
namespace Go.Proofs.YtbdbmmdnidonjaaDoor
open Go.RowKit

/-- the most that N may be -/
def mostOf (k : Nat) (f : Mf) (op : Int) : Int :=
  if op = 14 then (k : Int) - 1 else if op = 15 ∨ op = 16 then f.slots - 1 else if op = 17 then 2 else if op = 18 then f.params - 1 else if op = 20 ∨ op = 21 then (f.ins.length : Int) - 1 else 255

def insOk (k : Nat) (f : Mf) (x : Mi) : Bool :=
  formOk x && inR 0 7 x.a && inR 0 7 x.b && inR 0 7 x.c && (!hasF 3 x.op || inR 0 (mostOf k f x.op) x.n)

def BoolPost (b : Bool) (w : World) (e : Ending) (w' : World) : Prop := e = .returned (.bool b) ∧ Below w.heap.size w w'

/-- function k of a row of functions, in the walk's form -/
theorem MfsAt.get {w : World} {v : Value} {fs : List Mf} (h : MfsAt w v fs) {k : Nat} {f : Mf} (hk : fs[k]? = some f) :
    ∃ b off cap iv, v = .slice (some ⟨b, off, none⟩) fs.length cap ∧ b < w.heap.size ∧ w.cell? ⟨b, off + k * 3, none⟩ = some (.int .i64 f.params) ∧ w.cell? ⟨b, off + k * 3 + 1, none⟩ = some (.int .i64 f.slots) ∧ w.cell? ⟨b, off + k * 3 + 2, none⟩ = some iv ∧ MisAt w iv f.ins := by
  obtain ⟨a, cap, hv, hc⟩ := h
  obtain ⟨b, off, iv, ha, c0, c1, c2, hm⟩ := hc k f hk
  exact ⟨b, off, cap, iv, by rw [hv, ha], World.block_lt_of_cell? _ _ c0, c0, c1, c2, hm⟩

/-- within, as a fact on a named answer -/
theorem within_named (n lo hi : Int) (p : Bool) (hp : inR lo hi n = p) (w : World) : Calls Tryd.prog 52 #[.int .i64 n, .int .i64 lo, .int .i64 hi] w fun e w' => e = .returned (.bool p) ∧ w = w' := by
  rw [← hp]; exact within_any w n lo hi

set_option maxHeartbeats 2000000 in
theorem minsOk_no (w : World) (v : Value) (op a b c n : Int) (k : Nat) (hF : Forms w) (hno : (formOk ⟨op, a, b, c, n⟩ && inR 0 7 a && inR 0 7 b && inR 0 7 c) = false) :
    Calls Tryd.prog 98 #[.agg #[v], .int .i64 k, .agg #[.int .i64 op, .int .i64 a, .int .i64 b, .int .i64 c, .int .i64 n]] w (BoolPost false w) := by
  have HF := Lib.hid (fun w' (hb : Below w.heap.size w w') => formOf_any w' ⟨op, a, b, c, n⟩ (hF.below hb))
  unfold FormPost at HF
  generalize nameOf (Mi.op ⟨op, a, b, c, n⟩) = nm at *
  generalize fieldsOf (Mi.op ⟨op, a, b, c, n⟩) = F at *
  obtain ⟨ok, hok⟩ : ∃ ok, ok = formOk ⟨op, a, b, c, n⟩ := ⟨_, rfl⟩
  rw [← hok] at HF hno
  obtain ⟨pa, hpa⟩ : ∃ p, inR 0 7 a = p := ⟨_, rfl⟩
  obtain ⟨pb, hpb⟩ : ∃ p, inR 0 7 b = p := ⟨_, rfl⟩
  obtain ⟨pc, hpc⟩ : ∃ p, inR 0 7 c = p := ⟨_, rfl⟩
  rw [hpa, hpb, hpc] at hno
  have WA := within_named a 0 7 pa hpa
  have WB := within_named b 0 7 pb hpb
  have WC := within_named c 0 7 pc hpc
  obtain ⟨R, hR⟩ : ∃ R, R = (if ok = true then Value.agg #[.string nm, .int .i64 F] else .agg #[.string ⟨#[]⟩, .int .i64 0]) := ⟨_, rfl⟩
  rw [← hR] at HF
  have hR2 : ∃ s g, R = .agg #[.string s, .int .i64 g] := by
    rw [hR]; by_cases h : ok = true
    · rw [if_pos h]; exact ⟨_, _, rfl⟩
    · rw [if_neg h]; exact ⟨_, _, rfl⟩
  obtain ⟨s, g, rfl⟩ := hR2
  clear hR hok hpa hpb hpc hF
  have HA := Lib.hid WA; have HB := Lib.hid WB; have HC := Lib.hid WC
  clear WA WB WC
  unfold BoolPost
  go_enter Tryd.func98, Tryd.ntmps98
  go_wp2_with (fail)
  go_at_call 124
  refine (HF.out _ (below2 _ _ _)).mono ?_
  rintro e w1 ⟨rfl, hb⟩
  obtain ⟨hc, hf⟩ := bcell hb
  have hw1 := Below.trans (below2 w _ _) (hb.mono (by simp; omega))
  have hsz := hb.size
  simp at hsz
  have HW := Lib.hid hw1
  have hlt : w.heap.size + 1 < w1.heap.size := by omega
  have q1 : w1.cell? ⟨w.heap.size + 1, 1, none⟩ = some (.int .i64 a) := by rw [hc _ _ (by simp)]; simp [go_sem]
  have q2 : w1.cell? ⟨w.heap.size + 1, 2, none⟩ = some (.int .i64 b) := by rw [hc _ _ (by simp)]; simp [go_sem]
  have q3 : w1.cell? ⟨w.heap.size + 1, 3, none⟩ = some (.int .i64 c) := by rw [hc _ _ (by simp)]; simp [go_sem]
  clear hw1 hb HF hc hf
  cases ok
  · go_wp2_with (fail)
    go_ret
    refine ⟨rfl, ?_⟩
    have hw1 := HW.out
    (repeat' (first | exact Below.refl _ _ | assumption | (refine Below.setCell ?_ ?_ _) | (refine Below.alloc ?_ ?_ _) | (refine belowDrewN ?_ _) | omega | (simp; done) | (simp; omega)))
  go_wp2_with (fail)
  go_at_call 52
  refine (HA.out _).mono ?_
  rintro e w2 ⟨rfl, hw2⟩
  have r2 : w2.cell? ⟨w.heap.size + 1, 2, none⟩ = some (.int .i64 b) := by
    rw [← hw2]; simp [go_sem, hlt]; exact q2
  have r3 : w2.cell? ⟨w.heap.size + 1, 3, none⟩ = some (.int .i64 c) := by
    rw [← hw2]; simp [go_sem, hlt]; exact q3
  have HB2 : Hid (Below w.heap.size w w2) := by
    rw [← hw2]
    have hw1 := HW.out
    apply Lib.hid
    (repeat' (first | exact Below.refl _ _ | assumption | (refine Below.setCell ?_ ?_ _) | (refine Below.alloc ?_ ?_ _) | (refine belowDrewN ?_ _) | omega | (simp; done) | (simp; omega)))
  clear hw2 q1 q2 q3 HW HA
  cases pa
  · go_wp2_with (fail)
    go_ret
    exact ⟨rfl, HB2.out⟩
  go_wp2_with (fail)
  go_at_call 52
  refine (HB.out _).mono ?_
  rintro e _ ⟨rfl, rfl⟩
  cases pb
  · go_wp2_with (fail)
    go_ret
    exact ⟨rfl, HB2.out⟩
  go_wp2_with (fail)
  go_at_call 52
  refine (HC.out _).mono ?_
  rintro e _ ⟨rfl, rfl⟩
  cases pc
  · go_wp2_with (fail)
    go_ret
    exact ⟨rfl, HB2.out⟩
  cases hno

set_option maxHeartbeats 4000000 in
theorem minsOk_yes (w : World) (vb vo vc k : Nat) (len : Nat) (pr sl : Int) (la : Option Addr) (il lc : Nat) (op a b c n : Int) (hF : Forms w) (hyes : (formOk ⟨op, a, b, c, n⟩ && inR 0 7 a && inR 0 7 b && inR 0 7 c) = true)
    (hkl : k < len) (hlen : len ≤ 1048576) (hvb : vb < w.heap.size) (c0 : w.cell? ⟨vb, vo + k * 3, none⟩ = some (.int .i64 pr)) (c1 : w.cell? ⟨vb, vo + k * 3 + 1, none⟩ = some (.int .i64 sl)) (c2 : w.cell? ⟨vb, vo + k * 3 + 2, none⟩ = some (.slice la il lc))
    (hs0 : 0 ≤ sl) (hs1 : sl ≤ 64) (hp0 : 0 ≤ pr) (hp1 : pr ≤ 3) (hil : il ≤ 1048576) (M : Int)
    (hM : M = if op = 14 then (k : Int) - 1 else if op = 15 ∨ op = 16 then sl - 1 else if op = 17 then 2 else if op = 18 then pr - 1 else if op = 20 ∨ op = 21 then (il : Int) - 1 else 255) :
    Calls Tryd.prog 98 #[.agg #[.slice (some ⟨vb, vo, none⟩) len vc], .int .i64 k, .agg #[.int .i64 op, .int .i64 a, .int .i64 b, .int .i64 c, .int .i64 n]] w (BoolPost (!hasF 3 op || inR 0 M n) w) := by
  have HF := Lib.hid (fun w' (hb : Below w.heap.size w w') => formOf_any w' ⟨op, a, b, c, n⟩ (hF.below hb))
  unfold FormPost at HF
  simp only [Bool.and_eq_true] at hyes
  obtain ⟨⟨⟨hok, hpa⟩, hpb⟩, hpc⟩ := hyes
  rw [hok] at HF
  simp only [if_true] at HF
  have hop : 1 ≤ op ∧ op ≤ 22 := by
    unfold formOk at hok
    simp only [Bool.and_eq_true, decide_eq_true_eq] at hok
    exact hok.1
  have b3 := bit3 hop.1 hop.2
  generalize nameOf op = nm at *
  generalize fieldsOf op = F at *
  generalize hasF 3 op = g3 at *
  have HA := Lib.hid (within_named a 0 7 true hpa)
  have HB := Lib.hid (within_named b 0 7 true hpb)
  have HC := Lib.hid (within_named c 0 7 true hpc)
  have HN := Lib.hid (within_named n 0 M _ rfl)
  generalize inR 0 M n = pn at *
  clear hok hpa hpb hpc hF hop
  have HM := Lib.hid hM
  have B3 := Lib.hid b3
  clear hM b3
  have C0 := Lib.hid c0; have C1 := Lib.hid c1; have C2 := Lib.hid c2
  clear c0 c1 c2
  unfold BoolPost
  go_enter Tryd.func98, Tryd.ntmps98
  go_wp2_with (fail)
  go_at_call 124
  refine (HF.out _ (below2 _ _ _)).mono ?_
  rintro e w1 ⟨rfl, hb⟩
  obtain ⟨hc, hf⟩ := bcell hb
  have hw1 := Below.trans (below2 w _ _) (hb.mono (by simp; omega))
  have hsz := hb.size
  simp at hsz
  have HW := Lib.hid hw1
  have hlt : w.heap.size + 1 < w1.heap.size := by omega
  have hlt0 : w.heap.size < w1.heap.size := by omega
  have q1 : w1.cell? ⟨w.heap.size + 1, 1, none⟩ = some (.int .i64 a) := by rw [hc _ _ (by simp)]; simp [go_sem]
  have q2 : w1.cell? ⟨w.heap.size + 1, 2, none⟩ = some (.int .i64 b) := by rw [hc _ _ (by simp)]; simp [go_sem]
  have q3 : w1.cell? ⟨w.heap.size + 1, 3, none⟩ = some (.int .i64 c) := by rw [hc _ _ (by simp)]; simp [go_sem]
  have Q0 := Lib.hid (show w1.cell? ⟨w.heap.size + 1, 0, none⟩ = some (.int .i64 op) by rw [hc _ _ (by simp)]; simp [go_sem])
  have Q4 := Lib.hid (show w1.cell? ⟨w.heap.size + 1, 4, none⟩ = some (.int .i64 n) by rw [hc _ _ (by simp)]; simp [go_sem])
  have QV := Lib.hid (show w1.cell? ⟨w.heap.size, 0, none⟩ = some (.slice (some ⟨vb, vo, none⟩) len vc) by rw [hc _ _ (by simp; omega)]; simp [go_sem])
  clear hw1 hb HF hc hf
  go_wp2_with (fail)
  go_at_call 52
  refine (HA.out _).mono ?_
  rintro e w2 ⟨rfl, hw2⟩
  have r0 : w2.cell? ⟨w.heap.size + 1, 0, none⟩ = some (.int .i64 op) := by
    rw [← hw2]; simp [go_sem, hlt]; exact Q0.out
  have r2 : w2.cell? ⟨w.heap.size + 1, 2, none⟩ = some (.int .i64 b) := by
    rw [← hw2]; simp [go_sem, hlt]; exact q2
  have r3 : w2.cell? ⟨w.heap.size + 1, 3, none⟩ = some (.int .i64 c) := by
    rw [← hw2]; simp [go_sem, hlt]; exact q3
  have r4 : w2.cell? ⟨w.heap.size + 1, 4, none⟩ = some (.int .i64 n) := by
    rw [← hw2]; simp [go_sem, hlt]; exact Q4.out
  have rv : w2.cell? ⟨w.heap.size, 0, none⟩ = some (.slice (some ⟨vb, vo, none⟩) len vc) := by
    rw [← hw2]; simp [go_sem, hlt0]; exact QV.out
  have rF : w2.cell? ⟨w1.heap.size, 1, none⟩ = some (.int .i64 F) := by
    rw [← hw2]; simp [go_sem]
  have hB2 : Below w.heap.size w w2 := by
    rw [← hw2]
    have hw1 := HW.out
    (repeat' (first | exact Below.refl _ _ | assumption | (refine Below.setCell ?_ ?_ _) | (refine Below.alloc ?_ ?_ _) | (refine belowDrewN ?_ _) | omega | (simp; done) | (simp; omega)))
  have k0 : w2.cell? ⟨vb, vo + k * 3, none⟩ = some (.int .i64 pr) := by rw [hB2.cell (p := ⟨vb, vo + k * 3, none⟩) hvb]; exact C0.out
  have k1 : w2.cell? ⟨vb, vo + k * 3 + 1, none⟩ = some (.int .i64 sl) := by rw [hB2.cell (p := ⟨vb, vo + k * 3 + 1, none⟩) hvb]; exact C1.out
  have k2 : w2.cell? ⟨vb, vo + k * 3 + 2, none⟩ = some (.slice la il lc) := by rw [hB2.cell (p := ⟨vb, vo + k * 3 + 2, none⟩) hvb]; exact C2.out
  have HB2 := Lib.hid hB2
  clear hw2 q1 q2 q3 Q0 Q4 QV HW HA C0 C1 C2 hB2
  go_wp2_with (fail)
  go_at_call 52
  refine (HB.out _).mono ?_
  rintro e _ ⟨rfl, rfl⟩
  go_wp2_with (fail)
  go_at_call 52
  refine (HC.out _).mono ?_
  rintro e _ ⟨rfl, rfl⟩
  clear HB HC r2 r3
  have b3 := B3.out
  clear B3
  by_cases h14 : op = 14
  · subst h14
    obtain rfl : M = (k : Int) - 1 := by rw [HM.out]; simp
    cases g3
    · simp only [Bool.not_false] at b3
      go_wp2_with (fail)
      go_ret
      exact ⟨by simp, HB2.out⟩
    · simp only [Bool.not_true] at b3
      go_wp2_with (fail)
      go_at_call 52
      refine (HN.out _).mono ?_
      rintro e _ ⟨rfl, rfl⟩
      go_wp2_with (fail)
      go_ret
      exact ⟨by simp, HB2.out⟩
  by_cases h15 : op = 15
  · subst h15
    obtain rfl : M = sl - 1 := by rw [HM.out]; simp
    cases g3
    · simp only [Bool.not_false] at b3
      go_wp2_with (fail)
      go_ret
      exact ⟨by simp, HB2.out⟩
    · simp only [Bool.not_true] at b3
      go_wp2_with (fail)
      go_at_call 52
      refine (HN.out _).mono ?_
      rintro e _ ⟨rfl, rfl⟩
      go_wp2_with (fail)
      go_ret
      exact ⟨by simp, HB2.out⟩
  by_cases h16 : op = 16
  · subst h16
    obtain rfl : M = sl - 1 := by rw [HM.out]; simp
    cases g3
    · simp only [Bool.not_false] at b3
      go_wp2_with (fail)
      go_ret
      exact ⟨by simp, HB2.out⟩
    · simp only [Bool.not_true] at b3
      go_wp2_with (fail)
      go_at_call 52
      refine (HN.out _).mono ?_
      rintro e _ ⟨rfl, rfl⟩
      go_wp2_with (fail)
      go_ret
      exact ⟨by simp, HB2.out⟩
  by_cases h17 : op = 17
  · subst h17
    obtain rfl : M = 2 := by rw [HM.out]; simp
    cases g3
    · simp only [Bool.not_false] at b3
      go_wp2_with (fail)
      go_ret
      exact ⟨by simp, HB2.out⟩
    · simp only [Bool.not_true] at b3
      go_wp2_with (fail)
      go_at_call 52
      refine (HN.out _).mono ?_
      rintro e _ ⟨rfl, rfl⟩
      go_wp2_with (fail)
      go_ret
      exact ⟨by simp, HB2.out⟩
  by_cases h18 : op = 18
  · subst h18
    obtain rfl : M = pr - 1 := by rw [HM.out]; simp
    cases g3
    · simp only [Bool.not_false] at b3
      go_wp2_with (fail)
      go_ret
      exact ⟨by simp, HB2.out⟩
    · simp only [Bool.not_true] at b3
      go_wp2_with (fail)
      go_at_call 52
      refine (HN.out _).mono ?_
      rintro e _ ⟨rfl, rfl⟩
      go_wp2_with (fail)
      go_ret
      exact ⟨by simp, HB2.out⟩
  by_cases h20 : op = 20
  · subst h20
    obtain rfl : M = (il : Int) - 1 := by rw [HM.out]; simp
    cases g3
    · simp only [Bool.not_false] at b3
      go_wp2_with (fail)
      go_ret
      exact ⟨by simp, HB2.out⟩
    · simp only [Bool.not_true] at b3
      go_wp2_with (fail)
      go_at_call 52
      refine (HN.out _).mono ?_
      rintro e _ ⟨rfl, rfl⟩
      go_wp2_with (fail)
      go_ret
      exact ⟨by simp, HB2.out⟩
  by_cases h21 : op = 21
  · subst h21
    obtain rfl : M = (il : Int) - 1 := by rw [HM.out]; simp
    cases g3
    · simp only [Bool.not_false] at b3
      go_wp2_with (fail)
      go_ret
      exact ⟨by simp, HB2.out⟩
    · simp only [Bool.not_true] at b3
      go_wp2_with (fail)
      go_at_call 52
      refine (HN.out _).mono ?_
      rintro e _ ⟨rfl, rfl⟩
      go_wp2_with (fail)
      go_ret
      exact ⟨by simp, HB2.out⟩
  obtain rfl : M = 255 := by rw [HM.out]; simp [h14, h15, h16, h17, h18, h20, h21]
  cases g3
  · simp only [Bool.not_false] at b3
    go_wp2_with (fail)
    go_ret
    exact ⟨by simp, HB2.out⟩
  · simp only [Bool.not_true] at b3
    go_wp2_with (fail)
    go_at_call 52
    refine (HN.out _).mono ?_
    rintro e _ ⟨rfl, rfl⟩
    go_wp2_with (fail)
    go_ret
    exact ⟨by simp, HB2.out⟩

end Go.Proofs.YtbdbmmdnidonjaaDoor
