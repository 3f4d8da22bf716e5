/- Is a program of the machine valid: impl.MachValid. Words, fields of the ops, as the reference has them. Which fields are not named: l22Rest. Is an instruction valid, as the reference has it: l22Ins. Is a program of the machine valid, as the reference has it: spec.MachValid. Are numbers so many bytes: impl.bytesOk, spec.l5Values. Can a program be run with numbers: impl.machRuns, spec.l22Fits. -/
import Derived.Test.YtbdbmmdnidonjaaDoorUJh
import Derived.Test.YtbdbmmdnidonjaaDoorUJc
import Derived.Deep.RegionHeld3
set_option linter.unusedVariables false
set_option linter.unusedSimpArgs false
set_option maxRecDepth 100000
namespace Go.Proofs.YtbdbmmdnidonjaaDoor
open Go.RowKit
theorem minsOk_any (w : World) (v : Value) (fs : List Mf) (k : Nat) (f : Mf) (x : Mi) (hF : Forms w) (hm : MfsAt w v fs) (hk : fs[k]? = some f) (hlen : fs.length ≤ 1048576)
  (hs0 : 0 ≤ f.slots) (hs1 : f.slots ≤ 64) (hp0 : 0 ≤ f.params) (hp1 : f.params ≤ 3) (hil : f.ins.length ≤ 1048576) :
  Calls Tryd.prog 98 #[.agg #[v], .int .i64 k, x.val] w (BoolPost (insOk k f x) w) := by
 cases hno : (formOk x && inR 0 7 x.a && inR 0 7 x.b && inR 0 7 x.c)
 ·have e : insOk k f x = false := by unfold insOk; rw [hno]; rfl
  rw [e]
  exact minsOk_no w v x.op x.a x.b x.c x.n k hF hno
 ·have e : insOk k f x = (!hasF 3 x.op || inR 0 (mostOf k f x.op) x.n) := by unfold insOk; rw [hno]; rfl
  rw [e]
  obtain ⟨b, off, cap, iv, rfl, hb, c0, c1, c2, la, lc, rfl, hmi⟩ := hm.get hk
  exact minsOk_yes w b off cap k fs.length f.params f.slots la f.ins.length lc x.op x.a x.b x.c x.n hF hno (idx_lt hk) hlen hb c0 c1 c2 hs0 hs1 hp0 hp1 hil _ rfl
set_option maxHeartbeats 1000000 in
theorem clo_any (w : World) (op a b c n : Int) (bm bk k : Nat) (v : Value) (r : Bool)
  (hr : ∀ w', Below w.heap.size w w' → Calls Tryd.prog 98 #[.agg #[v], .int .i64 k, .agg #[.int .i64 op, .int .i64 a, .int .i64 b, .int .i64 c, .int .i64 n]] w' (BoolPost r w'))
  (hm : w.cell? ⟨bm, 0, none⟩ = some v) (hk : w.cell? ⟨bk, 0, none⟩ = some (.int .i64 k)) :
  Calls Tryd.prog 97 #[.agg #[.int .i64 op, .int .i64 a, .int .i64 b, .int .i64 c, .int .i64 n], .pointer (some ⟨bm, 0, none⟩), .pointer (some ⟨bk, 0, none⟩)] w (BoolPost (!r) w) := by
 have hml := World.block_lt_of_cell? _ _ hm
 have hkl := World.block_lt_of_cell? _ _ hk
 have HR := Lib.hid hr
 clear hr
 unfold BoolPost at *
 have m1 : ∀ o, (w.alloc o).cell? ⟨bm, 0, none⟩ = some v := fun o => by rw [(below1 w o).cell (p := ⟨bm, 0, none⟩) hml]; exact hm
 have m2 : ∀ o, (w.alloc o).cell? ⟨bk, 0, none⟩ = some (.int .i64 k) := fun o => by rw [(below1 w o).cell (p := ⟨bk, 0, none⟩) hkl]; exact hk
 go_enter Tryd.func97, Tryd.ntmps97
 go_wp2_with (fail)
 go_at_call 98
 refine (HR.out _ (below1 _ _)).mono ?_
 rintro e w1 ⟨rfl, hb⟩
 go_wp2_with (fail)
 go_ret
 exact ⟨rfl, (below1 _ _).trans (hb.mono (by simp))⟩
/-- at least 0, just if some element is one -/
def IdxPost (p : Bool) (w : World) (e : Ending) (w' : World) : Prop := ∃ z : Int, e = .returned (.int .i64 z) ∧ (decide (0 ≤ z) = p) ∧ Below w.heap.size w w'
set_option maxHeartbeats 1000000 in
theorem idxMins_any (w : World) (v fv p1 p2 : Value) (xs : List Mi) (P : Mi → Bool) (h : MisAt w v xs) (hm : xs.length ≤ 1048576) (hfv : fv = .func (.func 97) #[] #[p1, p2])
  (hP : ∀ w' x, Below w.heap.size w w' → x ∈ xs → Calls Tryd.prog 97 #[.agg #[.int .i64 x.op, .int .i64 x.a, .int .i64 x.b, .int .i64 x.c, .int .i64 x.n], p1, p2] w' (BoolPost (P x) w')) :
  Calls Tryd.prog 123 #[v, fv] w (IdxPost (xs.any P) w) := by
 obtain ⟨a, cap, rfl, hc⟩ := h
 subst hfv
 obtain ⟨n, hl⟩ : ∃ n, n = xs.length := ⟨_, rfl⟩
 rw [← hl] at hm ⊢
 have Hc := Lib.hid hc
 have Hl := Lib.hid hl
 have HP := Lib.hid hP
 obtain ⟨p, hp⟩ : ∃ p, p = xs.any P := ⟨_, rfl⟩
 rw [← hp]
 have Hp := Lib.hid hp
 clear hc hl hP hp
 unfold IdxPost
 go_enter Tryd.func123, Tryd.ntmps123
 go_wp2_with (fail)
 go_loopw [8] (fun i wr => ∃ k : Nat, k ≤ n ∧ i = .int .i64 k ∧ Hid ((xs.take k).any P = false) ∧ Below w.heap.size w wr) (fun i _ => n - (intOf i).toNat)
 case atStart => exact ⟨0, Nat.zero_le _, rfl, by simp [Hid], Below.refl _ _⟩
 case round =>
  obtain ⟨k, hk, rfl, hno, hB⟩ := hrel
  obtain ⟨wo, rfl⟩ : ∃ wo : World, wo = wr := ⟨_, rfl⟩
  by_cases hlt : k < n
  ·have hkl : k < xs.length := by rw [← Hl.out]; exact hlt
   obtain ⟨x, hx⟩ : ∃ x, x = xs[k] := ⟨_, rfl⟩
   have hxk : xs[k]? = some x := by rw [hx]; exact List.getElem?_eq_getElem hkl
   have hmem : x ∈ xs := by rw [hx]; exact List.getElem_mem hkl
   have htk : (xs.take (k + 1)).any P = P x := by
    rw [List.take_succ_eq_append_getElem hkl, List.any_append, hno.out, ← hx]; simp
   obtain ⟨b, off, rfl, c0, c1, c2, c3, c4⟩ := Hc.out k x hxk
   have hbl : b < w.heap.size := World.block_lt_of_cell? w ⟨b, off + k * 5, none⟩ c0
   rw [← hB.cell (p := ⟨b, off + k * 5, none⟩) hbl] at c0
   rw [← hB.cell (p := ⟨b, off + k * 5 + 1, none⟩) hbl] at c1
   rw [← hB.cell (p := ⟨b, off + k * 5 + 2, none⟩) hbl] at c2
   rw [← hB.cell (p := ⟨b, off + k * 5 + 3, none⟩) hbl] at c3
   rw [← hB.cell (p := ⟨b, off + k * 5 + 4, none⟩) hbl] at c4
   have k0 : (0 : Int) ≤ k := by omega
   have k1 : (k : Int) < n := by omega
   have HPx := HP.out wo x hB hmem
   have hpP : P x = true → p = true := fun h => by rw [Hp.out, List.any_eq_true]; exact ⟨x, hmem, h⟩
   unfold BoolPost at HPx
   obtain ⟨px, hpx⟩ : ∃ px, px = P x := ⟨_, rfl⟩
   rw [← hpx] at HPx htk hpP
   have HX := Lib.hid HPx
   have HB := Lib.hid hB
   have HT := Lib.hid htk
   have HPP := Lib.hid hpP
   clear hB hx hxk hmem hno hpx HPx htk hpP
   go_wp2_with (fail)
   go_at_call 97
   refine HX.out.mono ?_
   rintro e w1 ⟨rfl, hb⟩
   have HB1 := Lib.hid (HB.out.trans (hb.mono HB.out.size))
   clear hb HX HB
   cases px
   ·go_wp2_with (fail)
    go_roundw
    case rel => exact ⟨k + 1, by omega, by go_num, HT, HB1.out⟩
    case measure => simp [intOf]; omega
   ·go_wp2_with (fail)
    go_ret
    have hpt : p = true := by simpa using HPP.out
    exact ⟨_, rfl, by rw [hpt]; simp, HB1.out⟩
  ·obtain rfl : k = n := by omega
   have hall : xs.take k = xs := by rw [Hl.out]; exact List.take_length
   rw [hall] at hno
   go_wp2_with (fail)
   go_ret
   exact ⟨_, rfl, by rw [Hp.out, hno.out]; rfl, hB⟩
set_option maxHeartbeats 1000000 in
theorem containsMins_any (w : World) (v fv p1 p2 : Value) (xs : List Mi) (P : Mi → Bool) (h : MisAt w v xs) (hm : xs.length ≤ 1048576) (hfv : fv = .func (.func 97) #[] #[p1, p2])
  (hP : ∀ w' x, Below w.heap.size w w' → x ∈ xs → Calls Tryd.prog 97 #[.agg #[.int .i64 x.op, .int .i64 x.a, .int .i64 x.b, .int .i64 x.c, .int .i64 x.n], p1, p2] w' (BoolPost (P x) w')) :
  Calls Tryd.prog 96 #[v, fv] w (BoolPost (xs.any P) w) := by
 have HI := Lib.hid (idxMins_any w v fv p1 p2 xs P h hm hfv hP)
 obtain ⟨a, cap, rfl, hc⟩ := h
 subst hfv
 generalize xs.any P = p at *
 generalize xs.length = n at *
 clear hP hc hm
 unfold BoolPost
 go_enter Tryd.func96, Tryd.ntmps96
 go_wp2_with (fail)
 go_at_call 123
 refine HI.out.mono ?_
 rintro e w1 ⟨z, rfl, hz, hb⟩
 subst hz
 go_wp2_with (fail)
 go_ret
 exact ⟨rfl, hb⟩
def lastOp (f : Mf) : Int := ((f.ins[f.ins.length - 1]?).map Mi.op).getD 0
def lastOk (f : Mf) : Bool := decide (lastOp f = 20) || decide (lastOp f = 22)
def fnOk (k : Nat) (f : Mf) : Bool := inR 0 3 f.params && inR 0 64 f.slots && decide (f.ins.length ≠ 0) && lastOk f && !(f.ins.any fun x => !insOk k f x)
def MachOk (fs : List Mf) : Prop := (1 ≤ fs.length ∧ fs.length ≤ 4) ∧ (∀ k f, fs[k]? = some f → fnOk k f = true) ∧ sumIns fs ≤ 2000
def ValidPost (fs : List Mf) (w : World) (e : Ending) (w' : World) : Prop := ∃ b, e = .returned (.bool b) ∧ (b = true ↔ MachOk fs) ∧ Below w.heap.size w w'
theorem inR_iff {lo hi n : Int} : inR lo hi n = true ↔ lo ≤ n ∧ n ≤ hi := by simp [inR]
set_option maxHeartbeats 4000000 in
theorem machValid_any (w : World) (v : Value) (fs : List Mf) (hF : Forms w) (hm : MfsAt w v fs) (hle : MfsLe fs) :
  Calls Tryd.prog 74 #[.agg #[v]] w (ValidPost fs w) := by
 have HF := Lib.hid hF
 have HM := Lib.hid hm
 have HLE := Lib.hid hle
 have hlen := hle.1
 obtain ⟨a, cap, rfl, hc⟩ := hm
 obtain ⟨n, hn⟩ : ∃ n, n = fs.length := ⟨_, rfl⟩
 rw [← hn] at HM hlen ⊢
 obtain ⟨pn, hpn⟩ : ∃ pn, inR 1 4 (n : Int) = pn := ⟨_, rfl⟩
 have HW := Lib.hid (within_named (n : Int) 1 4 pn hpn)
 have HPN := Lib.hid hpn
 have Hn := Lib.hid hn
 clear hF hle hc hpn hn
 have h0 : (w.alloc (.cells #[.slice a n cap] 25)).cell? ⟨w.heap.size, 0, none⟩ = some (.slice a n cap) := by
  rw [World.cell?_alloc_at _ _ _ _ rfl]; rfl
 unfold ValidPost
 go_enter Tryd.func74, Tryd.ntmps74
 go_wp2_with (fail)
 go_at_call 52
 refine (HW.out _).mono ?_
 rintro e w1 ⟨rfl, hw1⟩
 rw [hw1] at h0
 have HB1 : Hid (Below w.heap.size w w1) := by rw [← hw1]; exact Lib.hid (below1 _ _)
 have hsz : w.heap.size < w1.heap.size := by rw [← hw1]; simp
 clear hw1
 cases pn
 ·go_wp2_with (fail)
  go_ret
  refine ⟨_, rfl, ⟨(fun h => by cases h), fun h => ?_⟩, HB1.out⟩
  have := HPN.out
  obtain ⟨⟨h1, h2⟩, _⟩ := h
  rw [← Hn.out] at h1 h2
  have h3 : inR 1 4 (n : Int) = true := inR_iff.mpr ⟨by omega, by omega⟩
  rw [this] at h3; cases h3
 have hn4 : 1 ≤ n ∧ n ≤ 4 := by
  have := inR_iff.mp HPN.out
  omega
 clear HPN HW hlen
 go_wp2_with (fail)
 go_loopw [3, 15] (fun s i wr => ∃ (k : Nat) (q : Int), k ≤ n ∧ i = .int .i64 k ∧ s = .int .i64 q ∧ Hid (q = sumIns (fs.take k)) ∧ 0 ≤ q ∧ q ≤ 1048576 * k ∧ Hid (∀ j f, j < k → fs[j]? = some f → fnOk j f = true) ∧ Below w1.heap.size w1 wr) (fun _ i _ => n - (intOf i).toNat)
 case atStart => exact ⟨0, 0, Nat.zero_le _, rfl, rfl, by simp [Hid, sumIns], by omega, by omega, by simp [Hid], Below.refl _ _⟩
 case round =>
  obtain ⟨k, q, hk, rfl, rfl, hq, hq0, hq1, hall, hB⟩ := hrel
  obtain ⟨wo, rfl⟩ : ∃ wo : World, wo = wr := ⟨_, rfl⟩
  by_cases hlt : k < n
  ·have hkl : k < fs.length := by rw [← Hn.out]; exact hlt
   obtain ⟨f, hf⟩ : ∃ f, f = fs[k] := ⟨_, rfl⟩
   have hfk : fs[k]? = some f := by rw [hf]; exact List.getElem?_eq_getElem hkl
   have hmem : f ∈ fs := by rw [hf]; exact List.getElem_mem hkl
   have hil := HLE.out.2 f hmem
   have hq' : q + f.ins.length = sumIns (fs.take (k + 1)) := by rw [take_snocF fs k f hfk, hq.out]
   have hBw := HB1.out.trans (hB.mono (Nat.le_of_lt hsz))
   have hmo : MfsAt wo (.slice a n cap) fs := HM.out.below hBw
   obtain ⟨b, off, cap', iv, hv, hb, c0, c1, c2, hmi⟩ := HM.out.get hfk
   have hmi2 := hmi
   obtain ⟨la, lc, rfl, _⟩ := hmi2
   injection hv with hv1 hv2 hv3
   subst hv1 hv3
   clear hv2
   have d0 := c0; have d1 := c1; have d2 := c2
   rw [← hBw.cell (p := ⟨b, off + k * 3, none⟩) hb] at d0
   rw [← hBw.cell (p := ⟨b, off + k * 3 + 1, none⟩) hb] at d1
   rw [← hBw.cell (p := ⟨b, off + k * 3 + 2, none⟩) hb] at d2
   have e0 : wo.cell? ⟨w.heap.size, 0, none⟩ = some (.slice (some ⟨b, off, none⟩) n cap) := by rw [hB.cell (p := ⟨w.heap.size, 0, none⟩) hsz]; exact h0
   have k0 : (0 : Int) ≤ k := by omega
   have k1 : (k : Int) < n := by omega
   obtain ⟨nl, hnl⟩ : ∃ nl, nl = f.ins.length := ⟨_, rfl⟩
   rw [← hnl] at hil hq' d2
   obtain ⟨pr, hpr⟩ : ∃ p, p = f.params := ⟨_, rfl⟩
   rw [← hpr] at d0
   obtain ⟨sl, hsl⟩ : ∃ p, p = f.slots := ⟨_, rfl⟩
   rw [← hsl] at d1
   obtain ⟨pa, hpa⟩ : ∃ p, inR 0 3 pr = p := ⟨_, rfl⟩
   obtain ⟨pb, hpb⟩ : ∃ p, inR 0 64 sl = p := ⟨_, rfl⟩
   have WA := Lib.hid (within_named pr 0 3 pa hpa)
   have WB := Lib.hid (within_named sl 0 64 pb hpb)
   have HNL := Lib.hid hnl
   have HPR := Lib.hid hpr
   have HSL := Lib.hid hsl
   have HPA := Lib.hid hpa
   have HPB := Lib.hid hpb
   have HFK := Lib.hid hfk
   have HMO := Lib.hid hmo
   have HMI := Lib.hid hmi
   have HQ := Lib.hid hq'
   have HBW := Lib.hid hBw
   have HB := Lib.hid hB
   clear hnl hpr hsl hpa hpb hf hfk hmem hq hmo hmi hq' hBw hB c0 c1 c2
   go_wp2_with (fail)
   go_at_call 52
   refine (WA.out _).mono ?_
   rintro e w2 ⟨rfl, hw2⟩
   have g0 : w2.cell? ⟨wo.heap.size, 0, none⟩ = some (.int .i64 k) := by
    rw [← hw2]; simp [go_sem]
   have g1 : w2.cell? ⟨wo.heap.size + 1, 0, none⟩ = some (.int .i64 pr) := by
    rw [← hw2]; simp [go_sem]
   have g2 : w2.cell? ⟨wo.heap.size + 1, 1, none⟩ = some (.int .i64 sl) := by
    rw [← hw2]; simp [go_sem]
   have g3 : w2.cell? ⟨wo.heap.size + 1, 2, none⟩ = some (.slice la nl lc) := by
    rw [← hw2]; simp [go_sem]
   have hB2 : Below wo.heap.size wo w2 := by
    rw [← hw2]; (repeat' (first | exact Below.refl _ _ | assumption | (refine Below.setCell ?_ ?_ _) | (refine Below.alloc ?_ ?_ _) | (refine belowDrewN ?_ _) | omega | (simp; done) | (simp; omega)))
   clear hw2 WA d0 d1 d2
   have NO : fnOk k f = false → ¬ MachOk fs := fun h hM => by
    have := hM.2.1 k f HFK.out
    rw [h] at this; cases this
   have HNO := Lib.hid NO
   have hBw2 : Below w.heap.size w w2 := HBW.out.trans (hB2.mono (HBW.out.size))
   have hB12 : Below w1.heap.size w1 w2 := HB.out.trans (hB2.mono (HB.out.size))
   have e0' : w2.cell? ⟨w.heap.size, 0, none⟩ = some (.slice (some ⟨b, off, none⟩) n cap) := by
    rw [hB2.cell (p := ⟨w.heap.size, 0, none⟩) (by have := HB.out.size; show w.heap.size < wo.heap.size; omega)]; exact e0
   have HM2 : Hid (MfsAt w2 (.slice (some ⟨b, off, none⟩) n cap) fs) := Lib.hid (HM.out.below hBw2)
   have HI2 : Hid (MisAt w2 (.slice la nl lc) f.ins) := by rw [HNL.out]; exact Lib.hid (HMI.out.below hBw2)
   have HF2 := Lib.hid (HF.out.below hBw2)
   have HBw2 := Lib.hid hBw2
   have HB12 := Lib.hid hB12
   have hwlt : wo.heap.size < w2.heap.size := World.block_lt_of_cell? _ _ g0
   have G0 := Lib.hid g0
   have E0 := Lib.hid e0'
   clear NO hBw2 hB12 hB2 e0 e0' HB HBW HMO HMI g0
   cases pa
   ·go_wp2_with (fail)
    go_ret
    refine ⟨_, rfl, ⟨(fun h => by cases h), fun h => absurd h (HNO.out ?_)⟩, HBw2.out⟩
    unfold fnOk; rw [← HPR.out, HPA.out]; rfl
   go_wp2_with (fail)
   go_at_call 52
   refine (WB.out _).mono ?_
   rintro e _ ⟨rfl, rfl⟩
   cases pb
   ·go_wp2_with (fail)
    go_ret
    refine ⟨_, rfl, ⟨(fun h => by cases h), fun h => absurd h (HNO.out ?_)⟩, HBw2.out⟩
    unfold fnOk; rw [← HPR.out, HPA.out, ← HSL.out, HPB.out]; rfl
   cases nl with
   |zero =>
    go_wp2_with (fail)
    go_ret
    refine ⟨_, rfl, ⟨(fun h => by cases h), fun h => absurd h (HNO.out ?_)⟩, HBw2.out⟩
    unfold fnOk; rw [← HNL.out]; simp
   |succ m =>
   have hml : m < f.ins.length := by rw [← HNL.out]; omega
   obtain ⟨x, hx⟩ : ∃ x, f.ins[m]? = some x := ⟨_, List.getElem?_eq_getElem hml⟩
   have hlo : lastOp f = x.op := by unfold lastOp; rw [← HNL.out, Nat.add_sub_cancel, hx]; rfl
   obtain ⟨la', lc', hv, hcc⟩ := HI2.out
   injection hv with hv1 hv2 hv3
   subst hv1 hv3
   obtain ⟨bi, oi, rfl, x0, _⟩ := hcc m x hx
   obtain ⟨lo, hlo2⟩ : ∃ lo, lo = x.op := ⟨_, rfl⟩
   rw [← hlo2] at hlo x0
   have HLO := Lib.hid hlo
   clear hcc hv2 hx hlo hlo2
   have hmm : ((m + 1 : Nat) : Int) - 1 = m := by omega
   have hm0 : (0 : Int) ≤ m := by omega
   by_cases hl2 : lo = 20 ∨ lo = 22
   case neg =>
    have hl20 : ¬ lo = 20 := fun h => hl2 (.inl h)
    have hl22 : ¬ lo = 22 := fun h => hl2 (.inr h)
    have d20 : decide (lo = 20) = false := by simpa using hl20
    have d22 : decide (lo = 22) = false := by simpa using hl22
    have b20 : (lo == 20) = false := by simpa using hl20
    have b22 : (lo == 22) = false := by simpa using hl22
    have n20 : (lo != 20) = true := by simpa using hl20
    have n22 : (lo != 22) = true := by simpa using hl22
    go_wp2_with (fail)
    go_ret
    refine ⟨_, rfl, ⟨(fun h => by cases h), fun h => absurd h (HNO.out ?_)⟩, HBw2.out⟩
    unfold fnOk lastOk
    rw [HLO.out]
    simp [hl20, hl22]
   have hLK : lastOk f = true := by
    unfold lastOk; rw [HLO.out]
    rcases hl2 with h | h <;> simp [h]
   have HLK := Lib.hid hLK
   have hPA' : inR 0 3 f.params = true := by rw [← HPR.out]; exact HPA.out
   have hPB' : inR 0 64 f.slots = true := by rw [← HSL.out]; exact HPB.out
   have hr1 := inR_iff.mp hPA'
   have hr2 := inR_iff.mp hPB'
   have HCON := containsMins_any w2 (.slice (some ⟨bi, oi, none⟩) (m + 1) lc) (.func (.func 97) #[] #[.pointer (some ⟨w.heap.size, 0, none⟩), .pointer (some ⟨wo.heap.size, 0, none⟩)]) (.pointer (some ⟨w.heap.size, 0, none⟩)) (.pointer (some ⟨wo.heap.size, 0, none⟩)) f.ins (fun x => !insOk k f x) HI2.out (by rw [← HNL.out]; exact hil) rfl
    (fun w' x hb _ => clo_any w' x.op x.a x.b x.c x.n w.heap.size wo.heap.size k _ (insOk k f x) (fun w3 hb3 => minsOk_any w3 _ fs k f x (HF2.out.below (hb.trans (hb3.mono hb.size))) (HM2.out.below (hb.trans (hb3.mono hb.size))) HFK.out HLE.out.1 hr2.1 hr2.2 hr1.1 hr1.2 (HLE.out.2 f (List.mem_of_getElem? HFK.out)))
     (by rw [hb.cell (p := ⟨w.heap.size, 0, none⟩) (World.block_lt_of_cell? _ _ E0.out)]; exact E0.out)
     (by rw [hb.cell (p := ⟨wo.heap.size, 0, none⟩) hwlt]; exact G0.out))
   obtain ⟨pc, hpc⟩ : ∃ pc, pc = f.ins.any (fun x => !insOk k f x) := ⟨_, rfl⟩
   rw [← hpc] at HCON
   have HC := Lib.hid HCON
   have HPC := Lib.hid hpc
   clear HCON hpc hLK hPA' hPB' hr1 hr2
   have g4 := G0.out
   clear HLO
   rcases hl2 with rfl | rfl
   all_goals go_wp2_with (fail)
   all_goals go_at_call 96
   all_goals refine HC.out.mono ?_
   all_goals (rintro e w3 ⟨rfl, hb3⟩)
   all_goals
    cases pc
    ·have hfo : fnOk k f = true := by
      unfold fnOk
      rw [← HPR.out, ← HSL.out, HPA.out, HPB.out, HLK.out, ← HPC.out, ← HNL.out]; simp
     have HFO := Lib.hid hfo
     have HB13 := Lib.hid (HB12.out.trans (hb3.mono HB12.out.size))
     clear hfo hb3 HC
     go_wp2_with (fail)
     go_roundw
     case rel =>
      refine ⟨k + 1, q + (m + 1 : Nat), by omega, by go_num, by go_num, HQ, by omega, by omega, ?_, HB13.out⟩
      apply Lib.hid
      intro j f' hj hf'
      rcases Nat.lt_or_ge j k with h | h
      ·exact hall.out j f' h hf'
      ·obtain rfl : j = k := by omega
       rw [HFK.out] at hf'; injection hf' with hf'; rw [← hf']; exact HFO.out
     case measure => simp [intOf]; omega
    ·have HBw3 := Lib.hid (HBw2.out.trans (hb3.mono HBw2.out.size))
     clear hb3 HC
     go_wp2_with (fail)
     go_ret
     refine ⟨_, rfl, ⟨(fun h => by cases h), fun h => absurd h (HNO.out ?_)⟩, HBw3.out⟩
     unfold fnOk; rw [← HPC.out]; simp
  ·obtain rfl : k = n := by omega
   have hqq : q = sumIns fs := by rw [hq.out]; congr 1; rw [Hn.out]; exact List.take_length
   have hB' := HB1.out.trans (hB.mono (Nat.le_of_lt hsz))
   have HQQ := Lib.hid hqq
   clear hqq
   go_wp2_with (fail)
   go_ret
   refine ⟨_, rfl, ⟨fun h => ⟨by rw [← Hn.out]; exact hn4, fun j f hf => hall.out j f (by rw [Hn.out]; exact idx_lt hf) hf, ?_⟩, fun h => ?_⟩, hB'⟩
   ·rw [← HQQ.out]; simpa using h
   ·have := h.2.2
    rw [← HQQ.out] at this
    simpa using this
end Go.Proofs.YtbdbmmdnidonjaaDoor
set_option maxRecDepth 100000
namespace Go.Proofs.YtbdbmmdnidonjaaDoor
open Go.RowKit
def fieldStr (op : Int) : ByteArray :=
 if op = 1 then ⟨#[65, 78]⟩ else if op = 2 then ⟨#[65, 66]⟩ else if op = 3 then ⟨#[65, 66, 67]⟩ else if op = 4 then ⟨#[65, 66, 67]⟩ else if op = 5 then ⟨#[65, 66, 67]⟩ else if op = 6 then ⟨#[65, 66, 67]⟩ else if op = 7 then ⟨#[65, 66, 67]⟩ else if op = 8 then ⟨#[65, 66, 67]⟩ else if op = 9 then ⟨#[65, 66, 67]⟩ else if op = 10 then ⟨#[65, 66]⟩ else if op = 11 then ⟨#[65, 66]⟩ else if op = 12 then ⟨#[65, 66]⟩ else if op = 13 then ⟨#[65]⟩ else if op = 14 then ⟨#[78]⟩ else if op = 15 then ⟨#[65, 78]⟩ else if op = 16 then ⟨#[65, 78]⟩ else if op = 17 then ⟨#[65, 78]⟩ else if op = 18 then ⟨#[65, 78]⟩ else if op = 19 then ⟨#[65]⟩ else if op = 20 then ⟨#[78]⟩ else if op = 21 then ⟨#[65, 78]⟩ else ⟨#[65]⟩
def wordsA : Array Value := #[.string ⟨#[]⟩, .string ⟨#[115, 101, 116]⟩, .string ⟨#[109, 111, 118, 101]⟩, .string ⟨#[97, 100, 100]⟩, .string ⟨#[115, 117, 98]⟩, .string ⟨#[109, 117, 108]⟩, .string ⟨#[100, 105, 118]⟩, .string ⟨#[114, 101, 109]⟩, .string ⟨#[108, 101, 115, 115]⟩, .string ⟨#[115, 97, 109, 101]⟩, .string ⟨#[110, 111, 116]⟩, .string ⟨#[108, 111, 97, 100]⟩, .string ⟨#[115, 116, 111, 114, 101]⟩, .string ⟨#[115, 97, 121]⟩, .string ⟨#[99, 97, 108, 108]⟩, .string ⟨#[107, 101, 101, 112]⟩, .string ⟨#[116, 97, 107, 101]⟩, .string ⟨#[103, 105, 118, 101]⟩, .string ⟨#[102, 101, 116, 99, 104]⟩, .string ⟨#[114, 101, 115, 117, 108, 116]⟩, .string ⟨#[106, 117, 109, 112]⟩, .string ⟨#[98, 114, 97, 110, 99, 104]⟩, .string ⟨#[98, 97, 99, 107]⟩]
def fieldsA : Array Value := #[.string ⟨#[]⟩, .string ⟨#[65, 78]⟩, .string ⟨#[65, 66]⟩, .string ⟨#[65, 66, 67]⟩, .string ⟨#[65, 66, 67]⟩, .string ⟨#[65, 66, 67]⟩, .string ⟨#[65, 66, 67]⟩, .string ⟨#[65, 66, 67]⟩, .string ⟨#[65, 66, 67]⟩, .string ⟨#[65, 66, 67]⟩, .string ⟨#[65, 66]⟩, .string ⟨#[65, 66]⟩, .string ⟨#[65, 66]⟩, .string ⟨#[65]⟩, .string ⟨#[78]⟩, .string ⟨#[65, 78]⟩, .string ⟨#[65, 78]⟩, .string ⟨#[65, 78]⟩, .string ⟨#[65, 78]⟩, .string ⟨#[65]⟩, .string ⟨#[78]⟩, .string ⟨#[65, 78]⟩, .string ⟨#[65]⟩]
theorem wordsA_at {u : Nat} (h1 : 1 ≤ u) (h2 : u ≤ 22) : wordsA[u]? = some (.string (nameOf u)) := by
 rcases (show u = 1 ∨ u = 2 ∨ u = 3 ∨ u = 4 ∨ u = 5 ∨ u = 6 ∨ u = 7 ∨ u = 8 ∨ u = 9 ∨ u = 10 ∨ u = 11 ∨ u = 12 ∨ u = 13 ∨ u = 14 ∨ u = 15 ∨ u = 16 ∨ u = 17 ∨ u = 18 ∨ u = 19 ∨ u = 20 ∨ u = 21 ∨ u = 22 by omega) with h | h | h | h | h | h | h | h | h | h | h | h | h | h | h | h | h | h | h | h | h | h <;> subst h <;> rfl
theorem fieldsA_at {u : Nat} (h1 : 1 ≤ u) (h2 : u ≤ 22) : fieldsA[u]? = some (.string (fieldStr u)) := by
 rcases (show u = 1 ∨ u = 2 ∨ u = 3 ∨ u = 4 ∨ u = 5 ∨ u = 6 ∨ u = 7 ∨ u = 8 ∨ u = 9 ∨ u = 10 ∨ u = 11 ∨ u = 12 ∨ u = 13 ∨ u = 14 ∨ u = 15 ∨ u = 16 ∨ u = 17 ∨ u = 18 ∨ u = 19 ∨ u = 20 ∨ u = 21 ∨ u = 22 by omega) with h | h | h | h | h | h | h | h | h | h | h | h | h | h | h | h | h | h | h | h | h | h <;> subst h <;> rfl
/-- is a byte among those of a string? -/
def inS (s : ByteArray) (c : UInt8) : Bool := s.data.toList.any (· == c)
theorem fieldStr_in0 {op : Int} (h1 : 1 ≤ op) (h2 : op ≤ 22) : inS (fieldStr op) 65 = hasF 0 op := by
 rcases op_cases h1 h2 with h | h | h | h | h | h | h | h | h | h | h | h | h | h | h | h | h | h | h | h | h | h <;> subst h <;> decide
theorem fieldStr_in1 {op : Int} (h1 : 1 ≤ op) (h2 : op ≤ 22) : inS (fieldStr op) 66 = hasF 1 op := by
 rcases op_cases h1 h2 with h | h | h | h | h | h | h | h | h | h | h | h | h | h | h | h | h | h | h | h | h | h <;> subst h <;> decide
theorem fieldStr_in2 {op : Int} (h1 : 1 ≤ op) (h2 : op ≤ 22) : inS (fieldStr op) 67 = hasF 2 op := by
 rcases op_cases h1 h2 with h | h | h | h | h | h | h | h | h | h | h | h | h | h | h | h | h | h | h | h | h | h <;> subst h <;> decide
theorem fieldStr_in3 {op : Int} (h1 : 1 ≤ op) (h2 : op ≤ 22) : inS (fieldStr op) 78 = hasF 3 op := by
 rcases op_cases h1 h2 with h | h | h | h | h | h | h | h | h | h | h | h | h | h | h | h | h | h | h | h | h | h <;> subst h <;> decide
theorem fieldStr_small {op : Int} (h1 : 1 ≤ op) (h2 : op ≤ 22) : (fieldStr op).size ≤ 3 ∧ 1 ≤ (fieldStr op).size := by
 rcases op_cases h1 h2 with h | h | h | h | h | h | h | h | h | h | h | h | h | h | h | h | h | h | h | h | h | h <;> subst h <;> decide
set_option maxHeartbeats 400000 in
theorem in_yes (w : World) (n lo hi : Int) (h1 : lo ≤ n) (h2 : n ≤ hi) : Calls Tryd.prog 61 #[.int .i64 n, .int .i64 lo, .int .i64 hi] w fun e w' => e = .returned (.bool true) ∧ w = w' := by
 have d1 : decide (lo ≤ n) = true := by simpa using h1
 have d2 : decide (n ≤ hi) = true := by simpa using h2
 go_enter Tryd.func61, Tryd.ntmps61
 go_wp2
 go_ret
 exact ⟨rfl, rfl⟩
set_option maxHeartbeats 400000 in
theorem in_low (w : World) (n lo hi : Int) (h1 : n < lo) : Calls Tryd.prog 61 #[.int .i64 n, .int .i64 lo, .int .i64 hi] w fun e w' => e = .returned (.bool false) ∧ w = w' := by
 have d1 : decide (lo ≤ n) = false := by simpa using h1
 go_enter Tryd.func61, Tryd.ntmps61
 go_wp2
 go_ret
 exact ⟨rfl, rfl⟩
set_option maxHeartbeats 400000 in
theorem in_high (w : World) (n lo hi : Int) (h1 : lo ≤ n) (h2 : hi < n) : Calls Tryd.prog 61 #[.int .i64 n, .int .i64 lo, .int .i64 hi] w fun e w' => e = .returned (.bool false) ∧ w = w' := by
 have d1 : decide (lo ≤ n) = true := by simpa using h1
 have d2 : decide (n ≤ hi) = false := by simpa using h2
 go_enter Tryd.func61, Tryd.ntmps61
 go_wp2
 go_ret
 exact ⟨rfl, rfl⟩
theorem l1In_any (w : World) (n lo hi : Int) : Calls Tryd.prog 61 #[.int .i64 n, .int .i64 lo, .int .i64 hi] w fun e w' => e = .returned (.bool (inR lo hi n)) ∧ w = w' := by
 by_cases h1 : lo ≤ n
 ·by_cases h2 : n ≤ hi
  ·have e : inR lo hi n = true := by simp [inR, h1, h2]
   rw [e]; exact in_yes w n lo hi h1 h2
  ·have e : inR lo hi n = false := by simp [inR, h2]
   rw [e]; exact in_high w n lo hi h1 (by omega)
 ·have e : inR lo hi n = false := by simp [inR, h1]
  rw [e]; exact in_low w n lo hi (by omega)
theorem l1In_named (n lo hi : Int) (p : Bool) (hp : inR lo hi n = p) (w : World) : Calls Tryd.prog 61 #[.int .i64 n, .int .i64 lo, .int .i64 hi] w fun e w' => e = .returned (.bool p) ∧ w = w' := by
 rw [← hp]; exact l1In_any w n lo hi
def opIn (op : Int) : Bool := inR 1 22 op
def WordPost (op : Int) (w : World) (e : Ending) (w' : World) : Prop :=
 e = .returned (.tuple #[.string (if opIn op then nameOf op else ⟨#[]⟩), .string (if opIn op then fieldStr op else ⟨#[]⟩)]) ∧ Below w.heap.size w w'
set_option maxHeartbeats 1000000 in
theorem l22Word_out (w : World) (op : Int) (h : opIn op = false) : Calls Tryd.prog 130 #[.int .i64 op] w (WordPost op w) := by
 have HI := Lib.hid (l1In_named op 1 22 _ h)
 unfold WordPost
 rw [h]
 simp only [Bool.false_eq_true, if_false]
 clear h
 go_enter Tryd.func130, Tryd.ntmps130
 go_wp2_with (fail)
 go_at_call 61
 refine (HI.out _).mono ?_
 rintro e w1 ⟨rfl, hw1⟩
 have hB : Below w.heap.size w w1 := by rw [← hw1]; (repeat' (first | exact Below.refl _ _ | assumption | (refine Below.setCell ?_ ?_ _) | (refine Below.alloc ?_ ?_ _) | (refine belowDrewN ?_ _) | omega | (simp; done) | (simp; omega)))
 clear hw1
 go_wp2_with (fail)
 go_ret2
 exact ⟨rfl, hB⟩
set_option maxHeartbeats 1000000 in
theorem l22Word_in (w : World) (u : Nat) (h1 : 1 ≤ u) (h2 : u ≤ 22) : Calls Tryd.prog 130 #[.int .i64 u] w (WordPost u w) := by
 have hin : opIn (u : Int) = true := inR_iff.mpr ⟨by omega, by omega⟩
 have HI := Lib.hid (l1In_named (u : Int) 1 22 _ hin)
 unfold WordPost
 rw [hin]
 simp only [if_true]
 have HA : Hid (((w.alloc (.cells wordsA 9)).alloc (.cells fieldsA 9)).cell? ⟨w.heap.size, u, none⟩ = some (.string (nameOf u))) := by
  apply Lib.hid
  rw [World.cell?_alloc_past _ _ _ (by simp), World.cell?_alloc_at _ _ _ _ rfl]
  exact wordsA_at h1 h2
 have HB : Hid (((w.alloc (.cells wordsA 9)).alloc (.cells fieldsA 9)).cell? ⟨w.heap.size + 1, u, none⟩ = some (.string (fieldStr u))) := by
  apply Lib.hid
  rw [World.cell?_alloc_at _ _ _ _ (by simp)]
  exact fieldsA_at h1 h2
 have u1 : (1 : Int) ≤ u := by omega
 have u2 : (u : Int) ≤ 22 := by omega
 have u0 : (0 : Int) ≤ u := by omega
 have u3 : (u : Int) < 23 := by omega
 generalize nameOf (u : Int) = nm at *
 generalize fieldStr (u : Int) = fm at *
 clear hin
 go_enter Tryd.func130, Tryd.ntmps130
 go_wp2_with (fail)
 go_at_call 61
 refine (HI.out _).mono ?_
 rintro e w1 ⟨rfl, hw1⟩
 have ha : w1.cell? ⟨w.heap.size, u, none⟩ = some (.string nm) := by rw [← hw1]; exact HA.out
 have hb : w1.cell? ⟨w.heap.size + 1, u, none⟩ = some (.string fm) := by rw [← hw1]; exact HB.out
 have hB : Below w.heap.size w w1 := by rw [← hw1]; (repeat' (first | exact Below.refl _ _ | assumption | (refine Below.setCell ?_ ?_ _) | (refine Below.alloc ?_ ?_ _) | (refine belowDrewN ?_ _) | omega | (simp; done) | (simp; omega)))
 clear hw1 HA HB
 go_wp2_with (fail)
 go_quiet (fail)
 go_wp2_with (fail)
 go_ret2
 exact ⟨rfl, belowDrewN hB _⟩
theorem l22Word_any (w : World) (op : Int) : Calls Tryd.prog 130 #[.int .i64 op] w (WordPost op w) := by
 cases h : opIn op
 ·exact l22Word_out w op h
 ·have h2 := inR_iff.mp h
  obtain ⟨u, rfl⟩ := Int.eq_ofNat_of_zero_le (show 0 ≤ op by omega)
  exact l22Word_in w u (by omega) (by omega)
/-- the field of a letter -/
def fieldAt (x : Mi) (c : UInt8) : Int := if c = 65 then x.a else if c = 66 then x.b else if c = 67 then x.c else x.n
set_option maxHeartbeats 1000000 in
theorem l22Field_any (w : World) (op a b c n : Int) (q : UInt8) : Calls Tryd.prog 132 #[.agg #[.int .i64 op, .int .i64 a, .int .i64 b, .int .i64 c, .int .i64 n], .int .u8 q.toNat] w fun e w' => e = .returned (.int .i64 (fieldAt ⟨op, a, b, c, n⟩ q)) ∧ Below w.heap.size w w' := by
 unfold fieldAt
 by_cases h65 : q = 65
 ·subst h65
  rw [if_pos rfl]
  go_enter Tryd.func132, Tryd.ntmps132
  go_wp2_with (fail)
  go_ret
  exact ⟨rfl, by (repeat' (first | exact Below.refl _ _ | assumption | (refine Below.setCell ?_ ?_ _) | (refine Below.alloc ?_ ?_ _) | (refine belowDrewN ?_ _) | omega | (simp; done) | (simp; omega)))⟩
 rw [if_neg h65]
 have n65 : ¬ ((q.toNat : Int) = 65) := fun h => h65 (by apply UInt8.toNat_inj.mp; show q.toNat = 65; omega)
 by_cases h66 : q = 66
 ·subst h66
  rw [if_pos rfl]
  go_enter Tryd.func132, Tryd.ntmps132
  go_wp2_with (fail)
  go_ret
  exact ⟨rfl, by (repeat' (first | exact Below.refl _ _ | assumption | (refine Below.setCell ?_ ?_ _) | (refine Below.alloc ?_ ?_ _) | (refine belowDrewN ?_ _) | omega | (simp; done) | (simp; omega)))⟩
 rw [if_neg h66]
 have n66 : ¬ ((q.toNat : Int) = 66) := fun h => h66 (by apply UInt8.toNat_inj.mp; show q.toNat = 66; omega)
 by_cases h67 : q = 67
 ·subst h67
  rw [if_pos rfl]
  go_enter Tryd.func132, Tryd.ntmps132
  go_wp2_with (fail)
  go_ret
  exact ⟨rfl, by (repeat' (first | exact Below.refl _ _ | assumption | (refine Below.setCell ?_ ?_ _) | (refine Below.alloc ?_ ?_ _) | (refine belowDrewN ?_ _) | omega | (simp; done) | (simp; omega)))⟩
 rw [if_neg h67]
 have n67 : ¬ ((q.toNat : Int) = 67) := fun h => h67 (by apply UInt8.toNat_inj.mp; show q.toNat = 67; omega)
 obtain ⟨z, hz⟩ : ∃ z : Int, z = q.toNat := ⟨_, rfl⟩
 rw [← hz] at n65 n66 n67 ⊢
 have e65 : (z == 65) = false := by simpa using n65
 have e66 : (z == 66) = false := by simpa using n66
 have e67 : (z == 67) = false := by simpa using n67
 clear hz
 go_enter Tryd.func132, Tryd.ntmps132
 go_wp2_with (fail)
 go_ret
 exact ⟨rfl, by (repeat' (first | exact Below.refl _ _ | assumption | (refine Below.setCell ?_ ?_ _) | (refine Below.alloc ?_ ?_ _) | (refine belowDrewN ?_ _) | omega | (simp; done) | (simp; omega)))⟩
end Go.Proofs.YtbdbmmdnidonjaaDoor
set_option maxRecDepth 100000
namespace Go.Proofs.YtbdbmmdnidonjaaDoor
open Go.RowKit
theorem listLen (s : ByteArray) : s.data.toList.length = s.size := by show s.data.toList.length = s.data.size; exact Array.length_toList
theorem inS_step (s : ByteArray) (c : UInt8) (j : Nat) (h : j < s.size) : (s.data.toList.take (j + 1)).any (· == c) = ((s.data.toList.take j).any (· == c) || s[j] == c) := by
 have hl : j < s.data.toList.length := by rw [listLen]; exact h
 rw [List.take_succ_eq_append_getElem hl, List.any_append]
 simp
 rfl
theorem inS_all (s : ByteArray) (c : UInt8) : (s.data.toList.take s.size).any (· == c) = inS s c := by
 unfold inS; rw [← listLen, List.take_length]
def restS (x : Mi) (s : ByteArray) : Bool := (inS s 65 || x.a == 0) && (inS s 66 || x.b == 0) && (inS s 67 || x.c == 0) && (inS s 78 || x.n == 0)
set_option maxHeartbeats 4000000 in
theorem l22Rest_any (w : World) (op a b c n : Int) (s : ByteArray) (hs : s.size ≤ 3) :
  Calls Tryd.prog 131 #[.agg #[.int .i64 op, .int .i64 a, .int .i64 b, .int .i64 c, .int .i64 n], .string s] w (BoolPost (restS ⟨op, a, b, c, n⟩ s) w) := by
 obtain ⟨ok, hok⟩ : ∃ ok, ok = restS ⟨op, a, b, c, n⟩ s := ⟨_, rfl⟩
 rw [← hok]
 unfold restS at hok
 simp only [] at hok
 obtain ⟨g0, hg0⟩ : ∃ g, g = inS s 65 := ⟨_, rfl⟩
 rw [← hg0] at hok
 have G0 := Lib.hid hg0
 clear hg0
 obtain ⟨g1, hg1⟩ : ∃ g, g = inS s 66 := ⟨_, rfl⟩
 rw [← hg1] at hok
 have G1 := Lib.hid hg1
 clear hg1
 obtain ⟨g2, hg2⟩ : ∃ g, g = inS s 67 := ⟨_, rfl⟩
 rw [← hg2] at hok
 have G2 := Lib.hid hg2
 clear hg2
 obtain ⟨g3, hg3⟩ : ∃ g, g = inS s 78 := ⟨_, rfl⟩
 rw [← hg3] at hok
 have G3 := Lib.hid hg3
 clear hg3
 have HOK := Lib.hid hok
 clear hok
 have HFA : Hid (∀ w' (q : UInt8), Calls Tryd.prog 132 #[.agg #[.int .i64 op, .int .i64 a, .int .i64 b, .int .i64 c, .int .i64 n], .int .u8 q.toNat] w' fun e w'' => e = .returned (.int .i64 (fieldAt ⟨op, a, b, c, n⟩ q)) ∧ Below w'.heap.size w' w'') := Lib.hid (fun w' q => l22Field_any w' op a b c n q)
 obtain ⟨w0, hw0⟩ : ∃ w0, w0 = w.alloc (.cells #[.int .i64 op, .int .i64 a, .int .i64 b, .int .i64 c, .int .i64 n] 124) := ⟨_, rfl⟩
 have z0 : w0.cell? ⟨w.heap.size, 0, none⟩ = some (.int .i64 op) := by rw [hw0]; simp [go_sem]
 have z1 : w0.cell? ⟨w.heap.size, 1, none⟩ = some (.int .i64 a) := by rw [hw0]; simp [go_sem]
 have z2 : w0.cell? ⟨w.heap.size, 2, none⟩ = some (.int .i64 b) := by rw [hw0]; simp [go_sem]
 have z3 : w0.cell? ⟨w.heap.size, 3, none⟩ = some (.int .i64 c) := by rw [hw0]; simp [go_sem]
 have z4 : w0.cell? ⟨w.heap.size, 4, none⟩ = some (.int .i64 n) := by rw [hw0]; simp [go_sem]
 have hBW : Below w.heap.size w w0 := by rw [hw0]; exact below1 _ _
 have hlt0 : w.heap.size < w0.heap.size := by rw [hw0]; simp
 have HBW := Lib.hid hBW
 have HW0 := Lib.hid hw0
 have Z0 := Lib.hid z0; have Z1 := Lib.hid z1; have Z2 := Lib.hid z2; have Z3 := Lib.hid z3; have Z4 := Lib.hid z4
 clear hBW hw0 z0 z1 z2 z3 z4
 unfold BoolPost
 go_enter Tryd.func131, Tryd.ntmps131
 go_wp2_with (fail)
 rw [← HW0.out]
 go_loopw [5] (fun i wr => ∃ k : Nat, k ≤ 4 ∧ i = .int .i64 k ∧ Hid (k ≤ 0 ∨ (g0 || a == 0) = true) ∧ Hid (k ≤ 1 ∨ (g1 || b == 0) = true) ∧ Hid (k ≤ 2 ∨ (g2 || c == 0) = true) ∧ Hid (k ≤ 3 ∨ (g3 || n == 0) = true) ∧ Below w0.heap.size w0 wr) (fun i _ => 4 - (intOf i).toNat)
 case atStart => exact ⟨0, by omega, rfl, by simp [Hid], by simp [Hid], by simp [Hid], by simp [Hid], Below.refl _ _⟩
 case round =>
  obtain ⟨k, hk, rfl, hr0, hr1, hr2, hr3, hB⟩ := hrel
  obtain ⟨wo, rfl⟩ : ∃ wo : World, wo = wr := ⟨_, rfl⟩
  have HB := Lib.hid hB
  rcases (show k = 0 ∨ k = 1 ∨ k = 2 ∨ k = 3 ∨ k = 4 by omega) with rfl | rfl | rfl | rfl | rfl
  ·go_wp2_with (fail)
   go_loop [7, 8] (fun m i => ∃ j : Nat, j ≤ s.size ∧ i = .int .i64 j ∧ ∃ q : Bool, m = .bool q ∧ Hid (q = (s.data.toList.take j).any (· == 65))) (fun _ i => s.size - (intOf i).toNat)
   case atStart => exact ⟨0, Nat.zero_le _, rfl, false, rfl, by simp [Hid]⟩
   case round =>
    obtain ⟨j, hj, rfl, q, rfl, hq⟩ := hrel
    by_cases hlt : j < s.size
    ·have hst := inS_step s 65 j hlt
     rw [← hq.out] at hst
     have hch : ((s[j].toNat : Int) == 65) = (s[j] == 65) := by
      by_cases h : s[j] = 65
      ·rw [h]; rfl
      ·have h2 : ¬ ((s[j].toNat : Int) = 65) := fun h' => h (by apply UInt8.toNat_inj.mp; show s[j].toNat = 65; omega)
       have e1 : ((s[j].toNat : Int) == 65) = false := by simpa using h2
       have e2 : (s[j] == 65) = false := by simpa using h
       rw [e1, e2]
     obtain ⟨t, ht⟩ : ∃ t, t = (s[j] == 65) := ⟨_, rfl⟩
     rw [← ht] at hst hch
     have HST := Lib.hid hst
     clear hst ht hq
     cases q
     ·cases t
      ·go_wp2_with (fail)
       go_round
       case rel => exact ⟨j + 1, by omega, by go_num, false, congrArg Value.bool hch, HST.out.symm⟩
       case measure => simp [intOf]; omega
      ·go_wp2_with (fail)
       go_round
       case rel => exact ⟨j + 1, by omega, by go_num, true, congrArg Value.bool hch, HST.out.symm⟩
       case measure => simp [intOf]; omega
     ·go_wp2_with (fail)
      go_round
      case rel => exact ⟨j + 1, by omega, by go_num, true, rfl, by rw [HST.out]; simp [Hid]⟩
      case measure => simp [intOf]; omega
    ·obtain rfl : j = s.size := by omega
     have hqg : q = g0 := by rw [hq.out, inS_all, G0.out]
     have HQG := Lib.hid hqg
     clear hqg hq
     have y0 : wo.cell? ⟨w.heap.size, 0, none⟩ = some (.int .i64 op) := by rw [HB.out.cell (p := ⟨w.heap.size, 0, none⟩) hlt0]; exact Z0.out
     have y1 : wo.cell? ⟨w.heap.size, 1, none⟩ = some (.int .i64 a) := by rw [HB.out.cell (p := ⟨w.heap.size, 1, none⟩) hlt0]; exact Z1.out
     have y2 : wo.cell? ⟨w.heap.size, 2, none⟩ = some (.int .i64 b) := by rw [HB.out.cell (p := ⟨w.heap.size, 2, none⟩) hlt0]; exact Z2.out
     have y3 : wo.cell? ⟨w.heap.size, 3, none⟩ = some (.int .i64 c) := by rw [HB.out.cell (p := ⟨w.heap.size, 3, none⟩) hlt0]; exact Z3.out
     have y4 : wo.cell? ⟨w.heap.size, 4, none⟩ = some (.int .i64 n) := by rw [HB.out.cell (p := ⟨w.heap.size, 4, none⟩) hlt0]; exact Z4.out
     cases q
     ·go_wp2_with (fail)
      go_at_call 132
      refine (HFA.out _ 65).mono ?_
      rintro e w2 ⟨rfl, hb⟩
      have hf : fieldAt ⟨op, a, b, c, n⟩ 65 = a := by rfl
      rw [hf]
      have hB2 := HB.out.trans (hb.mono HB.out.size)
      have HB2 := Lib.hid hB2
      clear hb hB2 hf y0 y1 y2 y3 y4
      by_cases hz : a = 0
      ·have hz2 : (a == 0) = true := by simpa using hz
       subst hz
       go_wp2_with (fail)
       go_roundw
       case rel =>
        have BB := HB2.out
        exact ⟨1, by omega, by rfl, hidR (by simp), by simp [Hid], by simp [Hid], by simp [Hid], BB⟩
       case measure => simp [intOf]
      ·have d1 : decide (a = 0) = false := by simpa using hz
       have d2 : (a == 0) = false := by simpa using hz
       have d3 : (a != 0) = true := by simpa using hz
       have hf : ok = false := by
        have := HOK.out
        rw [this, d2, ← HQG.out]; simp
       subst hf
       go_wp2_with (fail)
       go_ret
       exact ⟨rfl, HBW.out.trans (HB2.out.mono (Nat.le_of_lt hlt0))⟩
     ·go_wp2_with (fail)
      go_roundw
      case rel =>
       have BB := HB.out
       exact ⟨1, by omega, by rfl, hidR (by rw [← HQG.out]; rfl), by simp [Hid], by simp [Hid], by simp [Hid], BB⟩
      case measure => simp [intOf]
  ·go_wp2_with (fail)
   go_loop [7, 8] (fun m i => ∃ j : Nat, j ≤ s.size ∧ i = .int .i64 j ∧ ∃ q : Bool, m = .bool q ∧ Hid (q = (s.data.toList.take j).any (· == 66))) (fun _ i => s.size - (intOf i).toNat)
   case atStart => exact ⟨0, Nat.zero_le _, rfl, false, rfl, by simp [Hid]⟩
   case round =>
    obtain ⟨j, hj, rfl, q, rfl, hq⟩ := hrel
    by_cases hlt : j < s.size
    ·have hst := inS_step s 66 j hlt
     rw [← hq.out] at hst
     have hch : ((s[j].toNat : Int) == 66) = (s[j] == 66) := by
      by_cases h : s[j] = 66
      ·rw [h]; rfl
      ·have h2 : ¬ ((s[j].toNat : Int) = 66) := fun h' => h (by apply UInt8.toNat_inj.mp; show s[j].toNat = 66; omega)
       have e1 : ((s[j].toNat : Int) == 66) = false := by simpa using h2
       have e2 : (s[j] == 66) = false := by simpa using h
       rw [e1, e2]
     obtain ⟨t, ht⟩ : ∃ t, t = (s[j] == 66) := ⟨_, rfl⟩
     rw [← ht] at hst hch
     have HST := Lib.hid hst
     clear hst ht hq
     cases q
     ·cases t
      ·go_wp2_with (fail)
       go_round
       case rel => exact ⟨j + 1, by omega, by go_num, false, congrArg Value.bool hch, HST.out.symm⟩
       case measure => simp [intOf]; omega
      ·go_wp2_with (fail)
       go_round
       case rel => exact ⟨j + 1, by omega, by go_num, true, congrArg Value.bool hch, HST.out.symm⟩
       case measure => simp [intOf]; omega
     ·go_wp2_with (fail)
      go_round
      case rel => exact ⟨j + 1, by omega, by go_num, true, rfl, by rw [HST.out]; simp [Hid]⟩
      case measure => simp [intOf]; omega
    ·obtain rfl : j = s.size := by omega
     have hqg : q = g1 := by rw [hq.out, inS_all, G1.out]
     have HQG := Lib.hid hqg
     clear hqg hq
     have y0 : wo.cell? ⟨w.heap.size, 0, none⟩ = some (.int .i64 op) := by rw [HB.out.cell (p := ⟨w.heap.size, 0, none⟩) hlt0]; exact Z0.out
     have y1 : wo.cell? ⟨w.heap.size, 1, none⟩ = some (.int .i64 a) := by rw [HB.out.cell (p := ⟨w.heap.size, 1, none⟩) hlt0]; exact Z1.out
     have y2 : wo.cell? ⟨w.heap.size, 2, none⟩ = some (.int .i64 b) := by rw [HB.out.cell (p := ⟨w.heap.size, 2, none⟩) hlt0]; exact Z2.out
     have y3 : wo.cell? ⟨w.heap.size, 3, none⟩ = some (.int .i64 c) := by rw [HB.out.cell (p := ⟨w.heap.size, 3, none⟩) hlt0]; exact Z3.out
     have y4 : wo.cell? ⟨w.heap.size, 4, none⟩ = some (.int .i64 n) := by rw [HB.out.cell (p := ⟨w.heap.size, 4, none⟩) hlt0]; exact Z4.out
     cases q
     ·go_wp2_with (fail)
      go_at_call 132
      refine (HFA.out _ 66).mono ?_
      rintro e w2 ⟨rfl, hb⟩
      have hf : fieldAt ⟨op, a, b, c, n⟩ 66 = b := by rfl
      rw [hf]
      have hB2 := HB.out.trans (hb.mono HB.out.size)
      have HB2 := Lib.hid hB2
      clear hb hB2 hf y0 y1 y2 y3 y4
      by_cases hz : b = 0
      ·have hz2 : (b == 0) = true := by simpa using hz
       subst hz
       go_wp2_with (fail)
       go_roundw
       case rel =>
        have BB := HB2.out
        exact ⟨2, by omega, by rfl, hidR (hr0.out.resolve_left (by omega)), hidR (by simp), by simp [Hid], by simp [Hid], BB⟩
       case measure => simp [intOf]
      ·have d1 : decide (b = 0) = false := by simpa using hz
       have d2 : (b == 0) = false := by simpa using hz
       have d3 : (b != 0) = true := by simpa using hz
       have hf : ok = false := by
        have := HOK.out
        rw [this, d2, ← HQG.out]; simp
       subst hf
       go_wp2_with (fail)
       go_ret
       exact ⟨rfl, HBW.out.trans (HB2.out.mono (Nat.le_of_lt hlt0))⟩
     ·go_wp2_with (fail)
      go_roundw
      case rel =>
       have BB := HB.out
       exact ⟨2, by omega, by rfl, hidR (hr0.out.resolve_left (by omega)), hidR (by rw [← HQG.out]; rfl), by simp [Hid], by simp [Hid], BB⟩
      case measure => simp [intOf]
  ·go_wp2_with (fail)
   go_loop [7, 8] (fun m i => ∃ j : Nat, j ≤ s.size ∧ i = .int .i64 j ∧ ∃ q : Bool, m = .bool q ∧ Hid (q = (s.data.toList.take j).any (· == 67))) (fun _ i => s.size - (intOf i).toNat)
   case atStart => exact ⟨0, Nat.zero_le _, rfl, false, rfl, by simp [Hid]⟩
   case round =>
    obtain ⟨j, hj, rfl, q, rfl, hq⟩ := hrel
    by_cases hlt : j < s.size
    ·have hst := inS_step s 67 j hlt
     rw [← hq.out] at hst
     have hch : ((s[j].toNat : Int) == 67) = (s[j] == 67) := by
      by_cases h : s[j] = 67
      ·rw [h]; rfl
      ·have h2 : ¬ ((s[j].toNat : Int) = 67) := fun h' => h (by apply UInt8.toNat_inj.mp; show s[j].toNat = 67; omega)
       have e1 : ((s[j].toNat : Int) == 67) = false := by simpa using h2
       have e2 : (s[j] == 67) = false := by simpa using h
       rw [e1, e2]
     obtain ⟨t, ht⟩ : ∃ t, t = (s[j] == 67) := ⟨_, rfl⟩
     rw [← ht] at hst hch
     have HST := Lib.hid hst
     clear hst ht hq
     cases q
     ·cases t
      ·go_wp2_with (fail)
       go_round
       case rel => exact ⟨j + 1, by omega, by go_num, false, congrArg Value.bool hch, HST.out.symm⟩
       case measure => simp [intOf]; omega
      ·go_wp2_with (fail)
       go_round
       case rel => exact ⟨j + 1, by omega, by go_num, true, congrArg Value.bool hch, HST.out.symm⟩
       case measure => simp [intOf]; omega
     ·go_wp2_with (fail)
      go_round
      case rel => exact ⟨j + 1, by omega, by go_num, true, rfl, by rw [HST.out]; simp [Hid]⟩
      case measure => simp [intOf]; omega
    ·obtain rfl : j = s.size := by omega
     have hqg : q = g2 := by rw [hq.out, inS_all, G2.out]
     have HQG := Lib.hid hqg
     clear hqg hq
     have y0 : wo.cell? ⟨w.heap.size, 0, none⟩ = some (.int .i64 op) := by rw [HB.out.cell (p := ⟨w.heap.size, 0, none⟩) hlt0]; exact Z0.out
     have y1 : wo.cell? ⟨w.heap.size, 1, none⟩ = some (.int .i64 a) := by rw [HB.out.cell (p := ⟨w.heap.size, 1, none⟩) hlt0]; exact Z1.out
     have y2 : wo.cell? ⟨w.heap.size, 2, none⟩ = some (.int .i64 b) := by rw [HB.out.cell (p := ⟨w.heap.size, 2, none⟩) hlt0]; exact Z2.out
     have y3 : wo.cell? ⟨w.heap.size, 3, none⟩ = some (.int .i64 c) := by rw [HB.out.cell (p := ⟨w.heap.size, 3, none⟩) hlt0]; exact Z3.out
     have y4 : wo.cell? ⟨w.heap.size, 4, none⟩ = some (.int .i64 n) := by rw [HB.out.cell (p := ⟨w.heap.size, 4, none⟩) hlt0]; exact Z4.out
     cases q
     ·go_wp2_with (fail)
      go_at_call 132
      refine (HFA.out _ 67).mono ?_
      rintro e w2 ⟨rfl, hb⟩
      have hf : fieldAt ⟨op, a, b, c, n⟩ 67 = c := by rfl
      rw [hf]
      have hB2 := HB.out.trans (hb.mono HB.out.size)
      have HB2 := Lib.hid hB2
      clear hb hB2 hf y0 y1 y2 y3 y4
      by_cases hz : c = 0
      ·have hz2 : (c == 0) = true := by simpa using hz
       subst hz
       go_wp2_with (fail)
       go_roundw
       case rel =>
        have BB := HB2.out
        exact ⟨3, by omega, by rfl, hidR (hr0.out.resolve_left (by omega)), hidR (hr1.out.resolve_left (by omega)), hidR (by simp), by simp [Hid], BB⟩
       case measure => simp [intOf]
      ·have d1 : decide (c = 0) = false := by simpa using hz
       have d2 : (c == 0) = false := by simpa using hz
       have d3 : (c != 0) = true := by simpa using hz
       have hf : ok = false := by
        have := HOK.out
        rw [this, d2, ← HQG.out]; simp
       subst hf
       go_wp2_with (fail)
       go_ret
       exact ⟨rfl, HBW.out.trans (HB2.out.mono (Nat.le_of_lt hlt0))⟩
     ·go_wp2_with (fail)
      go_roundw
      case rel =>
       have BB := HB.out
       exact ⟨3, by omega, by rfl, hidR (hr0.out.resolve_left (by omega)), hidR (hr1.out.resolve_left (by omega)), hidR (by rw [← HQG.out]; rfl), by simp [Hid], BB⟩
      case measure => simp [intOf]
  ·go_wp2_with (fail)
   go_loop [7, 8] (fun m i => ∃ j : Nat, j ≤ s.size ∧ i = .int .i64 j ∧ ∃ q : Bool, m = .bool q ∧ Hid (q = (s.data.toList.take j).any (· == 78))) (fun _ i => s.size - (intOf i).toNat)
   case atStart => exact ⟨0, Nat.zero_le _, rfl, false, rfl, by simp [Hid]⟩
   case round =>
    obtain ⟨j, hj, rfl, q, rfl, hq⟩ := hrel
    by_cases hlt : j < s.size
    ·have hst := inS_step s 78 j hlt
     rw [← hq.out] at hst
     have hch : ((s[j].toNat : Int) == 78) = (s[j] == 78) := by
      by_cases h : s[j] = 78
      ·rw [h]; rfl
      ·have h2 : ¬ ((s[j].toNat : Int) = 78) := fun h' => h (by apply UInt8.toNat_inj.mp; show s[j].toNat = 78; omega)
       have e1 : ((s[j].toNat : Int) == 78) = false := by simpa using h2
       have e2 : (s[j] == 78) = false := by simpa using h
       rw [e1, e2]
     obtain ⟨t, ht⟩ : ∃ t, t = (s[j] == 78) := ⟨_, rfl⟩
     rw [← ht] at hst hch
     have HST := Lib.hid hst
     clear hst ht hq
     cases q
     ·cases t
      ·go_wp2_with (fail)
       go_round
       case rel => exact ⟨j + 1, by omega, by go_num, false, congrArg Value.bool hch, HST.out.symm⟩
       case measure => simp [intOf]; omega
      ·go_wp2_with (fail)
       go_round
       case rel => exact ⟨j + 1, by omega, by go_num, true, congrArg Value.bool hch, HST.out.symm⟩
       case measure => simp [intOf]; omega
     ·go_wp2_with (fail)
      go_round
      case rel => exact ⟨j + 1, by omega, by go_num, true, rfl, by rw [HST.out]; simp [Hid]⟩
      case measure => simp [intOf]; omega
    ·obtain rfl : j = s.size := by omega
     have hqg : q = g3 := by rw [hq.out, inS_all, G3.out]
     have HQG := Lib.hid hqg
     clear hqg hq
     have y0 : wo.cell? ⟨w.heap.size, 0, none⟩ = some (.int .i64 op) := by rw [HB.out.cell (p := ⟨w.heap.size, 0, none⟩) hlt0]; exact Z0.out
     have y1 : wo.cell? ⟨w.heap.size, 1, none⟩ = some (.int .i64 a) := by rw [HB.out.cell (p := ⟨w.heap.size, 1, none⟩) hlt0]; exact Z1.out
     have y2 : wo.cell? ⟨w.heap.size, 2, none⟩ = some (.int .i64 b) := by rw [HB.out.cell (p := ⟨w.heap.size, 2, none⟩) hlt0]; exact Z2.out
     have y3 : wo.cell? ⟨w.heap.size, 3, none⟩ = some (.int .i64 c) := by rw [HB.out.cell (p := ⟨w.heap.size, 3, none⟩) hlt0]; exact Z3.out
     have y4 : wo.cell? ⟨w.heap.size, 4, none⟩ = some (.int .i64 n) := by rw [HB.out.cell (p := ⟨w.heap.size, 4, none⟩) hlt0]; exact Z4.out
     cases q
     ·go_wp2_with (fail)
      go_at_call 132
      refine (HFA.out _ 78).mono ?_
      rintro e w2 ⟨rfl, hb⟩
      have hf : fieldAt ⟨op, a, b, c, n⟩ 78 = n := by rfl
      rw [hf]
      have hB2 := HB.out.trans (hb.mono HB.out.size)
      have HB2 := Lib.hid hB2
      clear hb hB2 hf y0 y1 y2 y3 y4
      by_cases hz : n = 0
      ·have hz2 : (n == 0) = true := by simpa using hz
       subst hz
       go_wp2_with (fail)
       go_roundw
       case rel =>
        have BB := HB2.out
        exact ⟨4, by omega, by rfl, hidR (hr0.out.resolve_left (by omega)), hidR (hr1.out.resolve_left (by omega)), hidR (hr2.out.resolve_left (by omega)), hidR (by simp), BB⟩
       case measure => simp [intOf]
      ·have d1 : decide (n = 0) = false := by simpa using hz
       have d2 : (n == 0) = false := by simpa using hz
       have d3 : (n != 0) = true := by simpa using hz
       have hf : ok = false := by
        have := HOK.out
        rw [this, d2, ← HQG.out]; simp
       subst hf
       go_wp2_with (fail)
       go_ret
       exact ⟨rfl, HBW.out.trans (HB2.out.mono (Nat.le_of_lt hlt0))⟩
     ·go_wp2_with (fail)
      go_roundw
      case rel =>
       have BB := HB.out
       exact ⟨4, by omega, by rfl, hidR (hr0.out.resolve_left (by omega)), hidR (hr1.out.resolve_left (by omega)), hidR (hr2.out.resolve_left (by omega)), hidR (by rw [← HQG.out]; rfl), BB⟩
      case measure => simp [intOf]
  ·have ht : ok = true := by
    rw [HOK.out, hr0.out.resolve_left (by omega), hr1.out.resolve_left (by omega), hr2.out.resolve_left (by omega), hr3.out.resolve_left (by omega)]; rfl
   subst ht
   go_wp2_with (fail)
   go_ret
   exact ⟨rfl, HBW.out.trans (HB.out.mono (Nat.le_of_lt hlt0))⟩
end Go.Proofs.YtbdbmmdnidonjaaDoor
set_option maxRecDepth 100000
namespace Go.Proofs.YtbdbmmdnidonjaaDoor
open Go.RowKit
theorem restS_ok {x : Mi} (h1 : 1 ≤ x.op) (h2 : x.op ≤ 22) : restS x (fieldStr x.op) = restOk x := by
 unfold restS restOk
 rw [fieldStr_in0 h1 h2, fieldStr_in1 h1 h2, fieldStr_in2 h1 h2, fieldStr_in3 h1 h2]
def regOk (x : Mi) (c : UInt8) : Bool := c == 78 || inR 0 7 (fieldAt x c)
def regs3 (x : Mi) : Bool := inR 0 7 x.a && inR 0 7 x.b && inR 0 7 x.c
theorem letters {op : Int} (h1 : 1 ≤ op) (h2 : op ≤ 22) : (fieldStr op).data.toList.all (fun c => c == 65 || c == 66 || c == 67 || c == 78) = true := by
 rcases op_cases h1 h2 with h | h | h | h | h | h | h | h | h | h | h | h | h | h | h | h | h | h | h | h | h | h <;> subst h <;> decide
theorem regs_fail {x : Mi} (h1 : 1 ≤ x.op) (h2 : x.op ≤ 22) {c : UInt8} (hc : c ∈ (fieldStr x.op).data.toList) (h : regOk x c = false) : regs3 x = false := by
 have hl := letters h1 h2
 rw [List.all_eq_true] at hl
 have := hl c hc
 simp only [Bool.or_eq_true, beq_iff_eq] at this
 unfold regOk at h
 rw [Bool.or_eq_false_iff] at h
 unfold regs3
 rcases this with ((h' | h') | h') | h'
 ·subst h'; have : inR 0 7 x.a = false := h.2; rw [this]; rfl
 ·subst h'; have : inR 0 7 x.b = false := h.2; rw [this]; simp
 ·subst h'; have : inR 0 7 x.c = false := h.2; rw [this]; simp
 ·subst h'; exact absurd h.1 (by decide)
theorem regs_all {x : Mi} {s : ByteArray} (hr : restS x s = true) (h : s.data.toList.all (regOk x) = true) : regs3 x = true := by
 rw [List.all_eq_true] at h
 have key : ∀ (c : UInt8) (v : Int), (inS s c || v == 0) = true → c ≠ 78 → fieldAt x c = v → inR 0 7 v = true := by
  intro c v hv hc hf
  rw [Bool.or_eq_true] at hv
  rcases hv with hv | hv
  ·unfold inS at hv
   rw [List.any_eq_true] at hv
   obtain ⟨d, hd, he⟩ := hv
   have : d = c := by simpa using he
   subst this
   have := h d hd
   unfold regOk at this
   rw [Bool.or_eq_true] at this
   rcases this with h' | h'
   ·exact absurd (by simpa using h') hc
   ·rw [hf] at h'; exact h'
  ·have : v = 0 := by simpa using hv
   subst this; decide
 unfold restS at hr
 simp only [Bool.and_eq_true] at hr
 obtain ⟨⟨⟨ha, hb⟩, hc⟩, _⟩ := hr
 unfold regs3
 rw [key 65 x.a ha (by decide) rfl, key 66 x.b hb (by decide) rfl, key 67 x.c hc (by decide) rfl]; rfl
theorem all_step (s : ByteArray) (P : UInt8 → Bool) (j : Nat) (h : j < s.size) : (s.data.toList.take (j + 1)).all P = ((s.data.toList.take j).all P && P s[j]) := by
 have hl : j < s.data.toList.length := by rw [listLen]; exact h
 rw [List.take_succ_eq_append_getElem hl, List.all_append]
 simp
 rfl
theorem all_all (s : ByteArray) (P : UInt8 → Bool) : (s.data.toList.take s.size).all P = s.data.toList.all P := by
 rw [← listLen, List.take_length]
theorem mem_at (s : ByteArray) (j : Nat) (h : j < s.size) : s[j] ∈ s.data.toList := by
 have hl : j < s.data.toList.length := by rw [listLen]; exact h
 exact List.getElem_mem hl
/-- a name for what formOk says where the op is one -/
theorem formOk_eq {x : Mi} (h : opIn x.op = true) : formOk x = restOk x := by
 have := inR_iff.mp h
 unfold formOk
 have d1 : decide (1 ≤ x.op) = true := by simpa using this.1
 have d2 : decide (x.op ≤ 22) = true := by simpa using this.2
 rw [d1, d2]; rfl
theorem formOk_no {x : Mi} (h : opIn x.op = false) : formOk x = false := by
 unfold opIn inR at h
 unfold formOk
 rw [h]; rfl
theorem notEmpty {s : ByteArray} (h : s ≠ ⟨#[]⟩) : s.toList.isEmpty = false := by
 rw [ByteArray.toList_eq]
 cases hl : s.data.toList with
 |nil =>
  have e : s.data = #[] := Array.toList_inj.mp (by rw [hl])
  exact absurd (by cases s; simp only [] at e; rw [e]) h
 |cons a l => rfl
set_option maxHeartbeats 2000000 in
theorem l22Ins_no (w : World) (vb vo vc k len : Nat) (pr sl : Int) (la : Option Addr) (il lc : Nat) (x : Mi) (hno : formOk x = false)
  (hkl : k < len) (c0 : w.cell? ⟨vb, vo + k * 3, none⟩ = some (.int .i64 pr)) (c1 : w.cell? ⟨vb, vo + k * 3 + 1, none⟩ = some (.int .i64 sl)) (c2 : w.cell? ⟨vb, vo + k * 3 + 2, none⟩ = some (.slice la il lc)) :
  Calls Tryd.prog 108 #[.agg #[.slice (some ⟨vb, vo, none⟩) len vc], .int .i64 k, .agg #[.int .i64 x.op, .int .i64 x.a, .int .i64 x.b, .int .i64 x.c, .int .i64 x.n]] w (BoolPost false w) := by
 have HW := Lib.hid (fun w' => l22Word_any w' x.op)
 have HR := Lib.hid (fun w' s hs => l22Rest_any w' x.op x.a x.b x.c x.n s hs)
 unfold WordPost at HW
 have hvb := World.block_lt_of_cell? _ _ c0
 obtain ⟨fw, hfw⟩ : ∃ fw, fw = (if opIn x.op then fieldStr x.op else ⟨#[]⟩) := ⟨_, rfl⟩
 obtain ⟨nw, hnw⟩ : ∃ fw, fw = (if opIn x.op then nameOf x.op else ⟨#[]⟩) := ⟨_, rfl⟩
 rw [← hfw, ← hnw] at HW
 have hcase : fw = ⟨#[]⟩ ∨ (fw ≠ ⟨#[]⟩ ∧ fw.size ≤ 3 ∧ restS x fw = false) := by
  cases h : opIn x.op
  ·left; rw [hfw, h]; rfl
  ·right
   have hi := inR_iff.mp h
   rw [h] at hfw
   simp only [if_true] at hfw
   have hsm := fieldStr_small hi.1 hi.2
   refine ⟨fun e => ?_, by rw [hfw]; exact hsm.1, ?_⟩
   ·rw [← hfw, e] at hsm; exact absurd hsm.2 (by decide)
   ·rw [hfw, restS_ok hi.1 hi.2, ← formOk_eq h]; exact hno
 obtain ⟨op, a, b, c, n⟩ := x
 simp only [] at *
 clear hfw hnw hno
 have C0 := Lib.hid c0; have C1 := Lib.hid c1; have C2 := Lib.hid c2
 have c0' : ∀ o1 o2, ((w.alloc o1).alloc o2).cell? ⟨vb, vo + k * 3, none⟩ = some (.int .i64 pr) := fun o1 o2 => by rw [(below2 w o1 o2).cell (p := ⟨vb, vo + k * 3, none⟩) hvb]; exact c0
 have c1' : ∀ o1 o2, ((w.alloc o1).alloc o2).cell? ⟨vb, vo + k * 3 + 1, none⟩ = some (.int .i64 sl) := fun o1 o2 => by rw [(below2 w o1 o2).cell (p := ⟨vb, vo + k * 3 + 1, none⟩) hvb]; exact c1
 have c2' : ∀ o1 o2, ((w.alloc o1).alloc o2).cell? ⟨vb, vo + k * 3 + 2, none⟩ = some (.slice la il lc) := fun o1 o2 => by rw [(below2 w o1 o2).cell (p := ⟨vb, vo + k * 3 + 2, none⟩) hvb]; exact c2
 clear c0 c1 c2
 unfold BoolPost at *
 go_enter Tryd.func108, Tryd.ntmps108
 go_wp2_with (fail)
 go_at_call 130
 refine (HW.out _).mono ?_
 rintro e w1 ⟨rfl, hb⟩
 have hsz := hb.size
 simp at hsz
 obtain ⟨hc, hf⟩ := bcell hb
 have q0 : w1.cell? ⟨w.heap.size + 1, 0, none⟩ = some (.int .i64 op) := by rw [hc _ _ (by simp)]; simp [go_sem]
 have q1 : w1.cell? ⟨w.heap.size + 1, 1, none⟩ = some (.int .i64 a) := by rw [hc _ _ (by simp)]; simp [go_sem]
 have q2 : w1.cell? ⟨w.heap.size + 1, 2, none⟩ = some (.int .i64 b) := by rw [hc _ _ (by simp)]; simp [go_sem]
 have q3 : w1.cell? ⟨w.heap.size + 1, 3, none⟩ = some (.int .i64 c) := by rw [hc _ _ (by simp)]; simp [go_sem]
 have q4 : w1.cell? ⟨w.heap.size + 1, 4, none⟩ = some (.int .i64 n) := by rw [hc _ _ (by simp)]; simp [go_sem]
 have hB1 : Below w.heap.size w w1 := by
  refine Below.trans ?_ (hb.mono ?_)
  ·(repeat' (first | exact Below.refl _ _ | assumption | (refine Below.setCell ?_ ?_ _) | (refine Below.alloc ?_ ?_ _) | (refine belowDrewN ?_ _) | omega | (simp; done) | (simp; omega)))
  ·simp; omega
 have HB1 := Lib.hid hB1
 clear hc hf hb hB1 HW c0' c1' c2'
 rcases hcase with rfl | ⟨hne, hs3, hrs⟩
 ·go_wp2_with (fail)
  go_ret
  exact ⟨rfl, HB1.out⟩
 ·
  have hne2 := notEmpty hne
  have HRR := Lib.hid (HR.out w1 fw hs3)
  rw [hrs] at HRR
  clear HR hrs
  go_wp2_with (fail)
  go_at_call 131
  refine HRR.out.mono ?_
  rintro e w2 ⟨rfl, hb2⟩
  have HB2 := Lib.hid (HB1.out.trans (hb2.mono HB1.out.size))
  clear hb2 HRR
  go_wp2_with (fail)
  go_ret
  exact ⟨rfl, HB2.out⟩
set_option maxHeartbeats 4000000 in
theorem l22Ins_yes (w : World) (vb vo vc k len : Nat) (pr sl : Int) (la : Option Addr) (il lc : Nat) (op a b c n : Int) (hop : opIn op = true) (hrs : restS ⟨op, a, b, c, n⟩ (fieldStr op) = true)
  (hkl : k < len) (hlen : len ≤ 1048576) (c0 : w.cell? ⟨vb, vo + k * 3, none⟩ = some (.int .i64 pr)) (c1 : w.cell? ⟨vb, vo + k * 3 + 1, none⟩ = some (.int .i64 sl)) (c2 : w.cell? ⟨vb, vo + k * 3 + 2, none⟩ = some (.slice la il lc))
  (hs0 : 0 ≤ sl) (hs1 : sl ≤ 64) (hp0 : 0 ≤ pr) (hp1 : pr ≤ 3) (hil : il ≤ 1048576) (M : Int) (R : Bool)
  (hM : M = if op = 14 then (k : Int) - 1 else if op = 15 ∨ op = 16 then sl - 1 else if op = 17 then 2 else if op = 18 then pr - 1 else if op = 20 ∨ op = 21 then (il : Int) - 1 else 255)
  (hR : R = (regs3 ⟨op, a, b, c, n⟩ && (!hasF 3 op || inR 0 M n))) :
  Calls Tryd.prog 108 #[.agg #[.slice (some ⟨vb, vo, none⟩) len vc], .int .i64 k, .agg #[.int .i64 op, .int .i64 a, .int .i64 b, .int .i64 c, .int .i64 n]] w (BoolPost R w) := by
 have HW := Lib.hid (fun w' => l22Word_any w' op)
 unfold WordPost at HW
 rw [hop] at HW
 simp only [if_true] at HW
 have hi := inR_iff.mp hop
 obtain ⟨fw, hfw⟩ : ∃ fw, fw = fieldStr op := ⟨_, rfl⟩
 have hsm := fieldStr_small hi.1 hi.2
 have hfail := fun (cc : UInt8) (hc : cc ∈ (fieldStr op).data.toList) (h : regOk ⟨op, a, b, c, n⟩ cc = false) => regs_fail (x := ⟨op, a, b, c, n⟩) hi.1 hi.2 hc h
 have hne2 : fw.toList.isEmpty = false := notEmpty (fun e => by rw [← hfw, e] at hsm; exact absurd hsm.2 (by decide))
 rw [← hfw] at HW hrs hfail hsm
 have HR := Lib.hid (fun w' => l22Rest_any w' op a b c n fw hsm.1)
 rw [hrs] at HR
 have HALL := Lib.hid (fun h => regs_all (x := ⟨op, a, b, c, n⟩) hrs h)
 have HFAIL := Lib.hid hfail
 have HFL := Lib.hid (fun w' q => l22Field_any w' op a b c n q)
 have HN := Lib.hid (l1In_named n 0 M _ rfl)
 have h3 : (op = 1 ∨ op = 14 ∨ op = 15 ∨ op = 16 ∨ op = 17 ∨ op = 18 ∨ op = 20 ∨ op = 21) ∧ hasF 3 op = true ∨ ¬ (op = 1 ∨ op = 14 ∨ op = 15 ∨ op = 16 ∨ op = 17 ∨ op = 18 ∨ op = 20 ∨ op = 21) ∧ hasF 3 op = false := by
  rcases op_cases hi.1 hi.2 with h | h | h | h | h | h | h | h | h | h | h | h | h | h | h | h | h | h | h | h | h | h <;> subst h <;> decide
 have H3 := Lib.hid h3
 have HRR := Lib.hid hR
 have HM := Lib.hid hM
 have hfs := hsm.1
 have hvb := World.block_lt_of_cell? _ _ c0
 generalize nameOf op = nm at *
 clear hfw hsm hrs hfail hop hi h3 hR hM
 have c0' : ∀ o1 o2, ((w.alloc o1).alloc o2).cell? ⟨vb, vo + k * 3, none⟩ = some (.int .i64 pr) := fun o1 o2 => by rw [(below2 w o1 o2).cell (p := ⟨vb, vo + k * 3, none⟩) hvb]; exact c0
 have c1' : ∀ o1 o2, ((w.alloc o1).alloc o2).cell? ⟨vb, vo + k * 3 + 1, none⟩ = some (.int .i64 sl) := fun o1 o2 => by rw [(below2 w o1 o2).cell (p := ⟨vb, vo + k * 3 + 1, none⟩) hvb]; exact c1
 have c2' : ∀ o1 o2, ((w.alloc o1).alloc o2).cell? ⟨vb, vo + k * 3 + 2, none⟩ = some (.slice la il lc) := fun o1 o2 => by rw [(below2 w o1 o2).cell (p := ⟨vb, vo + k * 3 + 2, none⟩) hvb]; exact c2
 clear c0 c1 c2
 unfold BoolPost at *
 go_enter Tryd.func108, Tryd.ntmps108
 go_wp2_with (fail)
 go_at_call 130
 refine (HW.out _).mono ?_
 rintro e w1 ⟨rfl, hb⟩
 have hsz := hb.size
 simp at hsz
 obtain ⟨hc, hf⟩ := bcell hb
 have q0 : w1.cell? ⟨w.heap.size + 1, 0, none⟩ = some (.int .i64 op) := by rw [hc _ _ (by simp)]; simp [go_sem]
 have q1 : w1.cell? ⟨w.heap.size + 1, 1, none⟩ = some (.int .i64 a) := by rw [hc _ _ (by simp)]; simp [go_sem]
 have q2 : w1.cell? ⟨w.heap.size + 1, 2, none⟩ = some (.int .i64 b) := by rw [hc _ _ (by simp)]; simp [go_sem]
 have q3 : w1.cell? ⟨w.heap.size + 1, 3, none⟩ = some (.int .i64 c) := by rw [hc _ _ (by simp)]; simp [go_sem]
 have q4 : w1.cell? ⟨w.heap.size + 1, 4, none⟩ = some (.int .i64 n) := by rw [hc _ _ (by simp)]; simp [go_sem]
 have q5 : w1.cell? ⟨w.heap.size + 2, 0, none⟩ = some (.int .i64 pr) := by rw [hc _ _ (by simp)]; simp [go_sem]
 have q6 : w1.cell? ⟨w.heap.size + 2, 1, none⟩ = some (.int .i64 sl) := by rw [hc _ _ (by simp)]; simp [go_sem]
 have q7 : w1.cell? ⟨w.heap.size + 2, 2, none⟩ = some (.slice la il lc) := by rw [hc _ _ (by simp)]; simp [go_sem]
 have hB1 : Below w.heap.size w w1 := by
  refine Below.trans ?_ (hb.mono ?_)
  ·(repeat' (first | exact Below.refl _ _ | assumption | (refine Below.setCell ?_ ?_ _) | (refine Below.alloc ?_ ?_ _) | (refine belowDrewN ?_ _) | omega | (simp; done) | (simp; omega)))
  ·simp; omega
 have HB1 := Lib.hid hB1
 clear hc hf hb hB1 HW c0' c1' c2'
 go_wp2_with (fail)
 go_at_call 131
 refine (HR.out _).mono ?_
 rintro e w2 ⟨rfl, hb2⟩
 have r0 : w2.cell? ⟨w.heap.size + 1, 0, none⟩ = some (.int .i64 op) := by rw [hb2.cell (p := ⟨w.heap.size + 1, 0, none⟩) (by show w.heap.size + 1 < w1.heap.size; omega)]; exact q0
 have r1 : w2.cell? ⟨w.heap.size + 1, 1, none⟩ = some (.int .i64 a) := by rw [hb2.cell (p := ⟨w.heap.size + 1, 1, none⟩) (by show w.heap.size + 1 < w1.heap.size; omega)]; exact q1
 have r2 : w2.cell? ⟨w.heap.size + 1, 2, none⟩ = some (.int .i64 b) := by rw [hb2.cell (p := ⟨w.heap.size + 1, 2, none⟩) (by show w.heap.size + 1 < w1.heap.size; omega)]; exact q2
 have r3 : w2.cell? ⟨w.heap.size + 1, 3, none⟩ = some (.int .i64 c) := by rw [hb2.cell (p := ⟨w.heap.size + 1, 3, none⟩) (by show w.heap.size + 1 < w1.heap.size; omega)]; exact q3
 have r4 : w2.cell? ⟨w.heap.size + 1, 4, none⟩ = some (.int .i64 n) := by rw [hb2.cell (p := ⟨w.heap.size + 1, 4, none⟩) (by show w.heap.size + 1 < w1.heap.size; omega)]; exact q4
 have r5 : w2.cell? ⟨w.heap.size + 2, 0, none⟩ = some (.int .i64 pr) := by rw [hb2.cell (p := ⟨w.heap.size + 2, 0, none⟩) (by show w.heap.size + 2 < w1.heap.size; omega)]; exact q5
 have r6 : w2.cell? ⟨w.heap.size + 2, 1, none⟩ = some (.int .i64 sl) := by rw [hb2.cell (p := ⟨w.heap.size + 2, 1, none⟩) (by show w.heap.size + 2 < w1.heap.size; omega)]; exact q6
 have r7 : w2.cell? ⟨w.heap.size + 2, 2, none⟩ = some (.slice la il lc) := by rw [hb2.cell (p := ⟨w.heap.size + 2, 2, none⟩) (by show w.heap.size + 2 < w1.heap.size; omega)]; exact q7
 have hsz2 : w.heap.size + 3 ≤ w2.heap.size := by have := hb2.size; omega
 have HB2 := Lib.hid (HB1.out.trans (hb2.mono HB1.out.size))
 clear hb2 HR HB1 q0 q1 q2 q3 q4 q5 q6 q7
 have Q0 := Lib.hid r0
 have Q1 := Lib.hid r1
 have Q2 := Lib.hid r2
 have Q3 := Lib.hid r3
 have Q4 := Lib.hid r4
 have Q5 := Lib.hid r5
 have Q6 := Lib.hid r6
 have Q7 := Lib.hid r7
 clear r0 r1 r2 r3 r4 r5 r6 r7
 go_wp2_with (fail)
 go_loopw [10] (fun i wr => ∃ j : Nat, j ≤ fw.size ∧ i = .int .i64 j ∧ Hid ((fw.data.toList.take j).all (regOk ⟨op, a, b, c, n⟩) = true) ∧ Below w2.heap.size w2 wr) (fun i _ => fw.size - (intOf i).toNat)
 case atStart => exact ⟨0, Nat.zero_le _, rfl, by simp [Hid], Below.refl _ _⟩
 case round =>
  obtain ⟨j, hj, rfl, hall, hB⟩ := hrel
  obtain ⟨wo, rfl⟩ : ∃ wo : World, wo = wr := ⟨_, rfl⟩
  have HB := Lib.hid hB
  have r0 : wo.cell? ⟨w.heap.size + 1, 0, none⟩ = some (.int .i64 op) := by rw [hB.cell (p := ⟨w.heap.size + 1, 0, none⟩) (by show w.heap.size + 1 < w2.heap.size; omega)]; exact Q0.out
  have r1 : wo.cell? ⟨w.heap.size + 1, 1, none⟩ = some (.int .i64 a) := by rw [hB.cell (p := ⟨w.heap.size + 1, 1, none⟩) (by show w.heap.size + 1 < w2.heap.size; omega)]; exact Q1.out
  have r2 : wo.cell? ⟨w.heap.size + 1, 2, none⟩ = some (.int .i64 b) := by rw [hB.cell (p := ⟨w.heap.size + 1, 2, none⟩) (by show w.heap.size + 1 < w2.heap.size; omega)]; exact Q2.out
  have r3 : wo.cell? ⟨w.heap.size + 1, 3, none⟩ = some (.int .i64 c) := by rw [hB.cell (p := ⟨w.heap.size + 1, 3, none⟩) (by show w.heap.size + 1 < w2.heap.size; omega)]; exact Q3.out
  have r4 : wo.cell? ⟨w.heap.size + 1, 4, none⟩ = some (.int .i64 n) := by rw [hB.cell (p := ⟨w.heap.size + 1, 4, none⟩) (by show w.heap.size + 1 < w2.heap.size; omega)]; exact Q4.out
  by_cases hlt : j < fw.size
  ·have hst := all_step fw (regOk ⟨op, a, b, c, n⟩) j hlt
   rw [hall.out, Bool.true_and] at hst
   have hmem := mem_at fw j hlt
   by_cases h78 : fw[j] = 78
   ·have hz : (fw[j].toNat : Int) = 78 := by rw [h78]; rfl
    have hok : regOk ⟨op, a, b, c, n⟩ fw[j] = true := by unfold regOk; rw [h78]; rfl
    rw [hok] at hst
    have HST := Lib.hid hst
    have d1 : ((fw[j].toNat : Int) == 78) = true := by rw [hz]; rfl
    have d2 : ((fw[j].toNat : Int) != 78) = false := by rw [hz]; rfl
    have d3 : decide ((fw[j].toNat : Int) = 78) = true := by rw [hz]; rfl
    clear hst hmem h78 hok hB hz hall
    go_wp2_with (fail)
    go_quiet (fail)
    go_wp2_with (fail)
    go_roundw
    case rel => exact ⟨j + 1, by omega, by go_num, HST, belowDrewN HB.out _⟩
    case measure => simp [intOf]; omega
   ·have hz : ¬ (fw[j].toNat : Int) = 78 := fun h => h78 (by apply UInt8.toNat_inj.mp; show fw[j].toNat = 78; omega)
    have hok : regOk ⟨op, a, b, c, n⟩ fw[j] = inR 0 7 (fieldAt ⟨op, a, b, c, n⟩ fw[j]) := by
     unfold regOk
     have : (fw[j] == 78) = false := by simpa using h78
     rw [this]; rfl
    obtain ⟨p, hp⟩ : ∃ p, inR 0 7 (fieldAt ⟨op, a, b, c, n⟩ fw[j]) = p := ⟨_, rfl⟩
    have WI := Lib.hid (l1In_named (fieldAt ⟨op, a, b, c, n⟩ fw[j]) 0 7 p hp)
    rw [hok, hp] at hst
    rw [hp] at hok
    have hbad : p = false → R = false := fun h => by
     rw [h] at hok
     rw [HRR.out, HFAIL.out _ hmem hok]; rfl
    have HBAD := Lib.hid hbad
    have HST := Lib.hid hst
    have d1 : ((fw[j].toNat : Int) == 78) = false := by simpa using hz
    have d2 : ((fw[j].toNat : Int) != 78) = true := by simpa using hz
    have d3 : decide ((fw[j].toNat : Int) = 78) = false := by simpa using hz
    have HFX := Lib.hid (fun w' => HFL.out w' fw[j])
    obtain ⟨fv, hfv⟩ : ∃ fv, fv = fieldAt ⟨op, a, b, c, n⟩ fw[j] := ⟨_, rfl⟩
    rw [← hfv] at WI HFX
    clear hst hmem h78 hok hB hz hp hfv hbad hall
    go_wp2_with (fail)
    go_still_tail 9, (by kernel_rfl)
    change wpList _ _ _ _ _ wo.drew
    have hdw := HB.out.drew
    have HD := Lib.hid hdw
    clear hdw HB r0 r1 r2 r3 r4
    generalize wo.drew = w3 at *
    go_wp2_with (fail)
    go_at_call 132
    refine (HFX.out _).mono ?_
    rintro e w4 ⟨rfl, hb4⟩
    have HB4 := Lib.hid (HD.out.trans (hb4.mono HD.out.size))
    clear hb4 HFX
    go_wp2_with (fail)
    go_at_call 61
    refine (WI.out _).mono ?_
    rintro e _ ⟨rfl, rfl⟩
    clear WI
    cases p
    ·go_wp2_with (fail)
     go_ret
     refine ⟨?_, HB2.out.trans (HB4.out.mono HB2.out.size)⟩
     rw [show R = false by simpa using HBAD.out]; rfl
    ·go_wp2_with (fail)
     go_roundw
     case rel => exact ⟨j + 1, by omega, by go_num, HST, HB4.out⟩
     case measure => simp [intOf]; omega
  ·obtain rfl : j = fw.size := by omega
   have hregs := HALL.out (by rw [← all_all]; exact hall.out)
   have hRn : R = (!hasF 3 op || inR 0 M n) := by rw [HRR.out, hregs]; rfl
   have HRN := Lib.hid hRn
   have HBB := Lib.hid (HB2.out.trans (hB.mono HB2.out.size))
   have r5 : wo.cell? ⟨w.heap.size + 2, 0, none⟩ = some (.int .i64 pr) := by rw [hB.cell (p := ⟨w.heap.size + 2, 0, none⟩) (by show w.heap.size + 2 < w2.heap.size; omega)]; exact Q5.out
   have r6 : wo.cell? ⟨w.heap.size + 2, 1, none⟩ = some (.int .i64 sl) := by rw [hB.cell (p := ⟨w.heap.size + 2, 1, none⟩) (by show w.heap.size + 2 < w2.heap.size; omega)]; exact Q6.out
   have r7 : wo.cell? ⟨w.heap.size + 2, 2, none⟩ = some (.slice la il lc) := by rw [hB.cell (p := ⟨w.heap.size + 2, 2, none⟩) (by show w.heap.size + 2 < w2.heap.size; omega)]; exact Q7.out
   clear hregs hRn hall hB HB HB2 HALL HFAIL HFL r1 r2 r3 HRR
   by_cases h1 : op = 1
   ·subst h1
    obtain rfl : M = 255 := by rw [HM.out]; simp
    have hh : hasF 3 1 = true := by decide
    have hRR : R = inR 0 (255) n := by rw [HRN.out, hh]; rfl
    have HR2 := Lib.hid hRR
    clear hRR
    go_wp2_with (fail)
    go_at_call 61
    refine (HN.out _).mono ?_
    rintro e _ ⟨rfl, rfl⟩
    go_wp2_with (fail)
    go_ret
    exact ⟨by rw [HR2.out]; rfl, HBB.out⟩
   by_cases h14 : op = 14
   ·subst h14
    obtain rfl : M = (k : Int) - 1 := by rw [HM.out]; simp
    have hh : hasF 3 14 = true := by decide
    have hRR : R = inR 0 ((k : Int) - 1) n := by rw [HRN.out, hh]; rfl
    have HR2 := Lib.hid hRR
    clear hRR
    go_wp2_with (fail)
    go_at_call 61
    refine (HN.out _).mono ?_
    rintro e _ ⟨rfl, rfl⟩
    go_wp2_with (fail)
    go_ret
    exact ⟨by rw [HR2.out]; rfl, HBB.out⟩
   by_cases h15 : op = 15
   ·subst h15
    obtain rfl : M = sl - 1 := by rw [HM.out]; simp
    have hh : hasF 3 15 = true := by decide
    have hRR : R = inR 0 (sl - 1) n := by rw [HRN.out, hh]; rfl
    have HR2 := Lib.hid hRR
    clear hRR
    go_wp2_with (fail)
    go_at_call 61
    refine (HN.out _).mono ?_
    rintro e _ ⟨rfl, rfl⟩
    go_wp2_with (fail)
    go_ret
    exact ⟨by rw [HR2.out]; rfl, HBB.out⟩
   by_cases h16 : op = 16
   ·subst h16
    obtain rfl : M = sl - 1 := by rw [HM.out]; simp
    have hh : hasF 3 16 = true := by decide
    have hRR : R = inR 0 (sl - 1) n := by rw [HRN.out, hh]; rfl
    have HR2 := Lib.hid hRR
    clear hRR
    go_wp2_with (fail)
    go_at_call 61
    refine (HN.out _).mono ?_
    rintro e _ ⟨rfl, rfl⟩
    go_wp2_with (fail)
    go_ret
    exact ⟨by rw [HR2.out]; rfl, HBB.out⟩
   by_cases h17 : op = 17
   ·subst h17
    obtain rfl : M = 2 := by rw [HM.out]; simp
    have hh : hasF 3 17 = true := by decide
    have hRR : R = inR 0 (2) n := by rw [HRN.out, hh]; rfl
    have HR2 := Lib.hid hRR
    clear hRR
    go_wp2_with (fail)
    go_at_call 61
    refine (HN.out _).mono ?_
    rintro e _ ⟨rfl, rfl⟩
    go_wp2_with (fail)
    go_ret
    exact ⟨by rw [HR2.out]; rfl, HBB.out⟩
   by_cases h18 : op = 18
   ·subst h18
    obtain rfl : M = pr - 1 := by rw [HM.out]; simp
    have hh : hasF 3 18 = true := by decide
    have hRR : R = inR 0 (pr - 1) n := by rw [HRN.out, hh]; rfl
    have HR2 := Lib.hid hRR
    clear hRR
    go_wp2_with (fail)
    go_at_call 61
    refine (HN.out _).mono ?_
    rintro e _ ⟨rfl, rfl⟩
    go_wp2_with (fail)
    go_ret
    exact ⟨by rw [HR2.out]; rfl, HBB.out⟩
   by_cases h20 : op = 20
   ·subst h20
    obtain rfl : M = (il : Int) - 1 := by rw [HM.out]; simp
    have hh : hasF 3 20 = true := by decide
    have hRR : R = inR 0 ((il : Int) - 1) n := by rw [HRN.out, hh]; rfl
    have HR2 := Lib.hid hRR
    clear hRR
    go_wp2_with (fail)
    go_at_call 61
    refine (HN.out _).mono ?_
    rintro e _ ⟨rfl, rfl⟩
    go_wp2_with (fail)
    go_ret
    exact ⟨by rw [HR2.out]; rfl, HBB.out⟩
   by_cases h21 : op = 21
   ·subst h21
    obtain rfl : M = (il : Int) - 1 := by rw [HM.out]; simp
    have hh : hasF 3 21 = true := by decide
    have hRR : R = inR 0 ((il : Int) - 1) n := by rw [HRN.out, hh]; rfl
    have HR2 := Lib.hid hRR
    clear hRR
    go_wp2_with (fail)
    go_at_call 61
    refine (HN.out _).mono ?_
    rintro e _ ⟨rfl, rfl⟩
    go_wp2_with (fail)
    go_ret
    exact ⟨by rw [HR2.out]; rfl, HBB.out⟩
   have hh : hasF 3 op = false := by
    rcases H3.out with h | h
    ·exact absurd h.1 (by omega)
    ·exact h.2
   have hRR : R = true := by rw [HRN.out, hh]; rfl
   have HR2 := Lib.hid hRR
   clear hRR hh
   go_wp2_with (fail)
   go_ret
   exact ⟨by rw [HR2.out]; rfl, HBB.out⟩
theorem l22Ins_any (w : World) (v : Value) (fs : List Mf) (k : Nat) (f : Mf) (x : Mi) (hm : MfsAt w v fs) (hk : fs[k]? = some f) (hlen : fs.length ≤ 1048576)
  (hs0 : 0 ≤ f.slots) (hs1 : f.slots ≤ 64) (hp0 : 0 ≤ f.params) (hp1 : f.params ≤ 3) (hil : f.ins.length ≤ 1048576) :
  Calls Tryd.prog 108 #[.agg #[v], .int .i64 k, x.val] w (BoolPost (insOk k f x) w) := by
 obtain ⟨b, off, cap, iv, rfl, hb, c0, c1, c2, la, lc, rfl, hmi⟩ := hm.get hk
 cases hno : formOk x
 ·have e : insOk k f x = false := by unfold insOk; rw [hno]; rfl
  rw [e]
  exact l22Ins_no w b off cap k fs.length f.params f.slots la f.ins.length lc x hno (idx_lt hk) c0 c1 c2
 ·have hop : opIn x.op = true := by
   cases h : opIn x.op
   ·rw [formOk_no h] at hno; cases hno
   ·rfl
  have hi := inR_iff.mp hop
  refine l22Ins_yes w b off cap k fs.length f.params f.slots la f.ins.length lc x.op x.a x.b x.c x.n hop ?_ (idx_lt hk) hlen c0 c1 c2 hs0 hs1 hp0 hp1 hil (mostOf k f x.op) _ rfl ?_
  ·have := restS_ok (x := x) hi.1 hi.2
   rw [formOk_eq hop] at hno
   rw [hno] at this; exact this
  ·unfold insOk regs3; rw [hno]; simp only [Bool.true_and]
end Go.Proofs.YtbdbmmdnidonjaaDoor
set_option maxRecDepth 100000
namespace Go.Proofs.YtbdbmmdnidonjaaDoor
open Go.RowKit
theorem sumIns_take_le (fs : List Mf) (k : Nat) : sumIns (fs.take k) ≤ sumIns fs := by
 have h : sumIns fs = sumIns (fs.take k) + sumIns (fs.drop k) := by rw [← sumIns_append, List.take_append_drop]
 have nn : ∀ l : List Mf, 0 ≤ sumIns l := by
  intro l
  induction l with
  |nil => simp [sumIns]
  |cons f l ih => show (0 : Int) ≤ (f.ins.length : Int) + sumIns l; omega
 have := nn (fs.drop k)
 omega
set_option maxHeartbeats 4000000 in
theorem specValid_any (w : World) (v : Value) (fs : List Mf) (hm : MfsAt w v fs) (hle : MfsLe fs) :
  Calls Tryd.prog 79 #[.agg #[v]] w (ValidPost fs w) := by
 have HM := Lib.hid hm
 have HLE := Lib.hid hle
 have hlen := hle.1
 obtain ⟨a, cap, rfl, hc⟩ := hm
 obtain ⟨n, hn⟩ : ∃ n, n = fs.length := ⟨_, rfl⟩
 rw [← hn] at HM hlen ⊢
 obtain ⟨pn, hpn⟩ : ∃ pn, inR 1 4 (n : Int) = pn := ⟨_, rfl⟩
 have HW := Lib.hid (l1In_named (n : Int) 1 4 pn hpn)
 have HPN := Lib.hid hpn
 have Hn := Lib.hid hn
 clear hle hc hpn hn
 have h0 : (w.alloc (.cells #[.slice a n cap] 25)).cell? ⟨w.heap.size, 0, none⟩ = some (.slice a n cap) := by
  rw [World.cell?_alloc_at _ _ _ _ rfl]; rfl
 unfold ValidPost
 go_enter Tryd.func79, Tryd.ntmps79
 go_wp2_with (fail)
 go_at_call 61
 refine (HW.out _).mono ?_
 rintro e w1 ⟨rfl, hw1⟩
 rw [hw1] at h0
 have HB1 : Hid (Below w.heap.size w w1) := by rw [← hw1]; exact Lib.hid (below1 _ _)
 have hsz : w.heap.size < w1.heap.size := by rw [← hw1]; simp
 clear hw1
 cases pn
 ·go_wp2_with (fail)
  go_ret
  refine ⟨_, rfl, ⟨(fun h => by cases h), fun h => ?_⟩, HB1.out⟩
  have := HPN.out
  obtain ⟨⟨h1, h2⟩, _⟩ := h
  rw [← Hn.out] at h1 h2
  have h3 : inR 1 4 (n : Int) = true := inR_iff.mpr ⟨by omega, by omega⟩
  rw [this] at h3; cases h3
 have hn4 : 1 ≤ n ∧ n ≤ 4 := by
  have := inR_iff.mp HPN.out
  omega
 clear HPN HW hlen
 go_wp2_with (fail)
 go_loopw [3, 4] (fun s i wr => ∃ (k : Nat) (q : Int), k ≤ n ∧ i = .int .i64 k ∧ s = .int .i64 q ∧ Hid (q = sumIns (fs.take k)) ∧ 0 ≤ q ∧ q ≤ 2000 ∧ Hid (∀ j f, j < k → fs[j]? = some f → fnOk j f = true) ∧ Below w1.heap.size w1 wr) (fun _ i _ => n - (intOf i).toNat)
 case atStart => exact ⟨0, 0, Nat.zero_le _, rfl, rfl, by simp [Hid, sumIns], by omega, by omega, by simp [Hid], Below.refl _ _⟩
 case round =>
  obtain ⟨k, q, hk, rfl, rfl, hq, hq0, hq1, hall, hB⟩ := hrel
  obtain ⟨wo, rfl⟩ : ∃ wo : World, wo = wr := ⟨_, rfl⟩
  have e0 : wo.cell? ⟨w.heap.size, 0, none⟩ = some (.slice a n cap) := by rw [hB.cell (p := ⟨w.heap.size, 0, none⟩) hsz]; exact h0
  by_cases hlt : k < n
  ·have hkl : k < fs.length := by rw [← Hn.out]; exact hlt
   obtain ⟨f, hf⟩ : ∃ f, f = fs[k] := ⟨_, rfl⟩
   have hfk : fs[k]? = some f := by rw [hf]; exact List.getElem?_eq_getElem hkl
   have hmem : f ∈ fs := by rw [hf]; exact List.getElem_mem hkl
   have hil := HLE.out.2 f hmem
   have hq' : q + f.ins.length = sumIns (fs.take (k + 1)) := by rw [take_snocF fs k f hfk, hq.out]
   have hBw := HB1.out.trans (hB.mono (Nat.le_of_lt hsz))
   obtain ⟨b, off, cap', iv, hv, hb, c0, c1, c2, hmi⟩ := HM.out.get hfk
   have hmi2 := hmi
   obtain ⟨la, lc, rfl, _⟩ := hmi2
   injection hv with hv1 hv2 hv3
   subst hv1 hv3
   clear hv2
   have d0 := c0; have d1 := c1; have d2 := c2
   rw [← hBw.cell (p := ⟨b, off + k * 3, none⟩) hb] at d0
   rw [← hBw.cell (p := ⟨b, off + k * 3 + 1, none⟩) hb] at d1
   rw [← hBw.cell (p := ⟨b, off + k * 3 + 2, none⟩) hb] at d2
   have k0 : (0 : Int) ≤ k := by omega
   have k1 : (k : Int) < n := by omega
   obtain ⟨nl, hnl⟩ : ∃ nl, nl = f.ins.length := ⟨_, rfl⟩
   rw [← hnl] at hil hq' d2
   obtain ⟨pr, hpr⟩ : ∃ p, p = f.params := ⟨_, rfl⟩
   rw [← hpr] at d0
   obtain ⟨sl, hsl⟩ : ∃ p, p = f.slots := ⟨_, rfl⟩
   rw [← hsl] at d1
   obtain ⟨pa, hpa⟩ : ∃ p, inR 0 3 pr = p := ⟨_, rfl⟩
   obtain ⟨pb, hpb⟩ : ∃ p, inR 0 64 sl = p := ⟨_, rfl⟩
   have WA := Lib.hid (l1In_named pr 0 3 pa hpa)
   have WB := Lib.hid (l1In_named sl 0 64 pb hpb)
   have HNL := Lib.hid hnl
   have HPR := Lib.hid hpr
   have HSL := Lib.hid hsl
   have HPA := Lib.hid hpa
   have HPB := Lib.hid hpb
   have HFK := Lib.hid hfk
   have HMI := Lib.hid hmi
   have HQ := Lib.hid hq'
   have HBW := Lib.hid hBw
   have HB := Lib.hid hB
   clear hnl hpr hsl hpa hpb hf hfk hmem hq hmi hq' hBw hB c0 c1 c2
   go_wp2_with (fail)
   go_at_call 61
   refine (WA.out _).mono ?_
   rintro e w2 ⟨rfl, hw2⟩
   have g1 : w2.cell? ⟨wo.heap.size, 0, none⟩ = some (.int .i64 pr) := by
    rw [← hw2]; simp [go_sem]
   have g2 : w2.cell? ⟨wo.heap.size, 1, none⟩ = some (.int .i64 sl) := by
    rw [← hw2]; simp [go_sem]
   have g3 : w2.cell? ⟨wo.heap.size, 2, none⟩ = some (.slice la nl lc) := by
    rw [← hw2]; simp [go_sem]
   have hB2 : Below wo.heap.size wo w2 := by
    rw [← hw2]; (repeat' (first | exact Below.refl _ _ | assumption | (refine Below.setCell ?_ ?_ _) | (refine Below.alloc ?_ ?_ _) | (refine belowDrewN ?_ _) | omega | (simp; done) | (simp; omega)))
   clear hw2 WA d0 d1 d2
   have NO : fnOk k f = false → ¬ MachOk fs := fun h hM => by
    have := hM.2.1 k f HFK.out
    rw [h] at this; cases this
   have HNO := Lib.hid NO
   have hBw2 : Below w.heap.size w w2 := HBW.out.trans (hB2.mono (HBW.out.size))
   have hB12 : Below w1.heap.size w1 w2 := HB.out.trans (hB2.mono (HB.out.size))
   have e0' : w2.cell? ⟨w.heap.size, 0, none⟩ = some (.slice (some ⟨b, off, none⟩) n cap) := by
    rw [hB2.cell (p := ⟨w.heap.size, 0, none⟩) (by have := HB.out.size; show w.heap.size < wo.heap.size; omega)]; exact e0
   have HM2 : Hid (MfsAt w2 (.slice (some ⟨b, off, none⟩) n cap) fs) := Lib.hid (HM.out.below hBw2)
   have HI2 : Hid (MisAt w2 (.slice la nl lc) f.ins) := by rw [HNL.out]; exact Lib.hid (HMI.out.below hBw2)
   have HBw2 := Lib.hid hBw2
   have HB12 := Lib.hid hB12
   have hwlt : wo.heap.size < w2.heap.size := World.block_lt_of_cell? _ _ g1
   have E0 := Lib.hid e0'
   have G3 := Lib.hid g3
   clear NO hBw2 hB12 hB2 e0 e0' HB HBW HMI
   cases pa
   ·go_wp2_with (fail)
    go_ret
    refine ⟨_, rfl, ⟨(fun h => by cases h), fun h => absurd h (HNO.out ?_)⟩, HBw2.out⟩
    unfold fnOk; rw [← HPR.out, HPA.out]; rfl
   go_wp2_with (fail)
   go_at_call 61
   refine (WB.out _).mono ?_
   rintro e _ ⟨rfl, rfl⟩
   cases pb
   ·go_wp2_with (fail)
    go_ret
    refine ⟨_, rfl, ⟨(fun h => by cases h), fun h => absurd h (HNO.out ?_)⟩, HBw2.out⟩
    unfold fnOk; rw [← HPR.out, HPA.out, ← HSL.out, HPB.out]; rfl
   cases nl with
   |zero =>
    go_wp2_with (fail)
    go_ret
    refine ⟨_, rfl, ⟨(fun h => by cases h), fun h => absurd h (HNO.out ?_)⟩, HBw2.out⟩
    unfold fnOk; rw [← HNL.out]; simp
   |succ m =>
   have dz : ((m : Int) + 1 == 0) = false := by
    have : ¬ ((m : Int) + 1 = 0) := by omega
    simpa using this
   by_cases hbig : 2000 < q + (m + 1 : Nat)
   ·have db : decide (2000 < q + ((m : Int) + 1)) = true := by simp; omega
    go_wp2_with (fail)
    go_ret
    refine ⟨_, rfl, ⟨(fun h => by cases h), fun h => ?_⟩, HBw2.out⟩
    have h1 := h.2.2
    have h2 := sumIns_take_le fs (k + 1)
    rw [← HQ.out] at h2
    omega
   have db : decide (2000 < q + ((m : Int) + 1)) = false := by simp; omega
   have hml : m < f.ins.length := by rw [← HNL.out]; omega
   obtain ⟨x, hx⟩ : ∃ x, f.ins[m]? = some x := ⟨_, List.getElem?_eq_getElem hml⟩
   have hlo : lastOp f = x.op := by unfold lastOp; rw [← HNL.out, Nat.add_sub_cancel, hx]; rfl
   obtain ⟨la', lc', hv, hcc⟩ := HI2.out
   injection hv with hv1 hv2 hv3
   subst hv1 hv3
   obtain ⟨bi, oi, rfl, x0, _⟩ := hcc m x hx
   obtain ⟨lo, hlo2⟩ : ∃ lo, lo = x.op := ⟨_, rfl⟩
   rw [← hlo2] at hlo x0
   have HLO := Lib.hid hlo
   have HCC := Lib.hid hcc
   have X0 := Lib.hid x0
   clear hcc hv2 hx hlo hlo2 x0
   have hPA' : inR 0 3 f.params = true := by rw [← HPR.out]; exact HPA.out
   have hPB' : inR 0 64 f.slots = true := by rw [← HSL.out]; exact HPB.out
   have hr1 := inR_iff.mp hPA'
   have hr2 := inR_iff.mp hPB'
   have HCI := Lib.hid (fun (w' : World) (x : Mi) (hb : Below w2.heap.size w2 w') => l22Ins_any w' _ fs k f x (HM2.out.below hb) HFK.out HLE.out.1 hr2.1 hr2.2 hr1.1 hr1.2 (HLE.out.2 f (List.mem_of_getElem? HFK.out)))
   clear hPA' hPB' hr1 hr2 WB g1 g2
   unfold BoolPost at HCI
   go_wp2_with (fail)
   clear db
   go_loopw [6] (fun i wr => ∃ j : Nat, j ≤ m + 1 ∧ i = .int .i64 j ∧ Hid ((f.ins.take j).any (fun x => !insOk k f x) = false) ∧ Below w2.heap.size w2 wr) (fun i _ => m + 1 - (intOf i).toNat)
   case atStart => exact ⟨0, Nat.zero_le _, rfl, by simp [Hid], Below.refl _ _⟩
   case round =>
    obtain ⟨j, hj, rfl, hno, hB⟩ := hrel
    obtain ⟨wi, rfl⟩ : ∃ wi : World, wi = wr := ⟨_, rfl⟩
    have g3' : wi.cell? ⟨wo.heap.size, 2, none⟩ = some (.slice (some ⟨bi, oi, none⟩) (m + 1) lc) := by rw [hB.cell (p := ⟨wo.heap.size, 2, none⟩) hwlt]; exact G3.out
    by_cases hlt2 : j < m + 1
    ·have hjl : j < f.ins.length := by rw [← HNL.out]; exact hlt2
     obtain ⟨y, hy⟩ : ∃ y, y = f.ins[j] := ⟨_, rfl⟩
     have hyk : f.ins[j]? = some y := by rw [hy]; exact List.getElem?_eq_getElem hjl
     have hymem : y ∈ f.ins := by rw [hy]; exact List.getElem_mem hjl
     have htk : (f.ins.take (j + 1)).any (fun x => !insOk k f x) = !insOk k f y := by
      rw [List.take_succ_eq_append_getElem hjl, List.any_append, hno.out, ← hy]; simp
     have hbad : insOk k f y = false → fnOk k f = false := fun h => by
      unfold fnOk
      have : f.ins.any (fun x => !insOk k f x) = true := by rw [List.any_eq_true]; exact ⟨y, hymem, by rw [h]; rfl⟩
      rw [this]; simp
     obtain ⟨b', off', hv', y0, y1, y2, y3, y4⟩ := HCC.out j y hyk
     injection hv' with hv'
     injection hv' with hv1 hv2 _
     subst hv1 hv2
     have hbl : bi < w2.heap.size := World.block_lt_of_cell? w2 ⟨bi, oi + j * 5, none⟩ y0
     rw [← hB.cell (p := ⟨bi, oi + j * 5, none⟩) hbl] at y0
     rw [← hB.cell (p := ⟨bi, oi + j * 5 + 1, none⟩) hbl] at y1
     rw [← hB.cell (p := ⟨bi, oi + j * 5 + 2, none⟩) hbl] at y2
     rw [← hB.cell (p := ⟨bi, oi + j * 5 + 3, none⟩) hbl] at y3
     rw [← hB.cell (p := ⟨bi, oi + j * 5 + 4, none⟩) hbl] at y4
     have e1 : wi.cell? ⟨w.heap.size, 0, none⟩ = some (.slice (some ⟨b, off, none⟩) n cap) := by rw [hB.cell (p := ⟨w.heap.size, 0, none⟩) (by have := HB12.out.size; show w.heap.size < w2.heap.size; omega)]; exact E0.out
     have HCX := Lib.hid (HCI.out wi.drew y hB.drew)
     obtain ⟨p, hp⟩ : ∃ p, p = insOk k f y := ⟨_, rfl⟩
     rw [← hp] at HCX htk hbad
     have HT := Lib.hid htk
     have HBAD := Lib.hid hbad
     have hdw := hB.drew
     have HD := Lib.hid hdw
     have j0 : (0 : Int) ≤ j := by omega
     have j1 : (j : Int) < (m + 1 : Nat) := by omega
     clear hy hyk hymem htk hbad hp hno hdw hB HCI
     go_wp2_with (fail)
     go_still_tail 7, (by kernel_rfl)
     change wpList _ _ _ _ _ wi.drew
     generalize wi.drew = w5 at *
     clear e1 y0 y1 y2 y3 y4 g3'
     go_wp2_with (fail)
     go_at_call 108
     refine HCX.out.mono ?_
     rintro e w6 ⟨rfl, hb6⟩
     have HB6 := Lib.hid (HD.out.trans (hb6.mono HD.out.size))
     clear hb6 HCX
     cases p
     ·go_wp2_with (fail)
      go_ret
      exact ⟨_, rfl, ⟨(fun h => by cases h), fun h => absurd h (HNO.out (by simpa using HBAD.out))⟩, HBw2.out.trans (HB6.out.mono HBw2.out.size)⟩
     ·go_wp2_with (fail)
      go_roundw
      case rel => exact ⟨j + 1, by omega, by go_num, HT, HB6.out⟩
      case measure => simp [intOf]; omega
    ·obtain rfl : j = m + 1 := by omega
     have hnone : f.ins.any (fun x => !insOk k f x) = false := by
      have : f.ins.take (m + 1) = f.ins := by rw [HNL.out]; exact List.take_length
      rw [this] at hno; exact hno.out
     have HNONE := Lib.hid hnone
     have x0 : wi.cell? ⟨bi, oi + m * 5, none⟩ = some (.int .i64 lo) := by
      rw [hB.cell (p := ⟨bi, oi + m * 5, none⟩) (World.block_lt_of_cell? _ _ X0.out)]; exact X0.out
     have hmm : ((m + 1 : Nat) : Int) - 1 = m := by omega
     have hm0 : (0 : Int) ≤ m := by omega
     have HB13 := Lib.hid (HB12.out.trans (hB.mono HB12.out.size))
     have HBw3 := Lib.hid (HBw2.out.trans (hB.mono HBw2.out.size))
     clear hnone hno hB HCI
     by_cases hl2 : lo = 20 ∨ lo = 22
     case neg =>
      have hl20 : ¬ lo = 20 := fun h => hl2 (.inl h)
      have hl22 : ¬ lo = 22 := fun h => hl2 (.inr h)
      have d20 : decide (lo = 20) = false := by simpa using hl20
      have d22 : decide (lo = 22) = false := by simpa using hl22
      have b20 : (lo == 20) = false := by simpa using hl20
      have b22 : (lo == 22) = false := by simpa using hl22
      have n20 : (lo != 20) = true := by simpa using hl20
      have n22 : (lo != 22) = true := by simpa using hl22
      go_wp2_with (fail)
      go_ret
      refine ⟨_, rfl, ⟨(fun h => by cases h), fun h => absurd h (HNO.out ?_)⟩, HBw3.out⟩
      unfold fnOk lastOk
      rw [HLO.out]
      simp [hl20, hl22]
     have hLK : lastOk f = true := by
      unfold lastOk; rw [HLO.out]
      rcases hl2 with h | h <;> simp [h]
     have hfo : fnOk k f = true := by
      unfold fnOk
      rw [← HPR.out, ← HSL.out, HPA.out, HPB.out, hLK, HNONE.out, ← HNL.out]; simp
     have HFO := Lib.hid hfo
     clear hLK hfo HLO
     rcases hl2 with rfl | rfl
     all_goals
      go_wp2_with (fail)
      go_roundw
      case rel =>
       refine ⟨k + 1, q + ((m + 1 : Nat) : Int), by omega, by go_num, by go_num, HQ, by omega, by omega, ?_, HB13.out⟩
       apply Lib.hid
       intro j f' hj hf'
       rcases Nat.lt_or_ge j k with h | h
       ·exact hall.out j f' h hf'
       ·obtain rfl : j = k := by omega
        rw [HFK.out] at hf'; injection hf' with hf'; rw [← hf']; exact HFO.out
      case measure => simp [intOf]; omega
  ·obtain rfl : k = n := by omega
   have hqq : q = sumIns fs := by rw [hq.out]; congr 1; rw [Hn.out]; exact List.take_length
   have hB' := HB1.out.trans (hB.mono (Nat.le_of_lt hsz))
   have HQQ := Lib.hid hqq
   clear hqq
   go_wp2_with (fail)
   go_ret
   refine ⟨_, rfl, ⟨fun h => ⟨by rw [← Hn.out]; exact hn4, fun j f hf => hall.out j f (by rw [Hn.out]; exact idx_lt hf) hf, by rw [← HQQ.out]; exact hq1⟩, fun h => rfl⟩, hB'⟩
end Go.Proofs.YtbdbmmdnidonjaaDoor
set_option maxRecDepth 100000
namespace Go.Proofs.YtbdbmmdnidonjaaDoor
open Go.RowKit
def valsOk (zs : List Int) : Bool := zs.all fun z => inR 0 255 z
set_option maxHeartbeats 1000000 in
theorem isByte_any (w : World) (z : Int) : Calls Tryd.prog 101 #[.int .i64 z] w fun e w' => e = .returned (.bool (inR 0 255 z)) ∧ w = w' := by
 obtain ⟨p, hp⟩ : ∃ p, inR 0 255 z = p := ⟨_, rfl⟩
 rw [hp]
 have HW := Lib.hid (within_named z 0 255 p hp)
 clear hp
 go_enter Tryd.func101, Tryd.ntmps101
 go_wp2_with (fail)
 go_at_call 52
 refine (HW.out _).mono ?_
 rintro e _ ⟨rfl, rfl⟩
 go_wp2_with (fail)
 go_ret
 exact ⟨rfl, rfl⟩
set_option maxHeartbeats 1000000 in
theorem bclo_any (w : World) (z : Int) (q : Bool) (hq : q = !inR 0 255 z) : Calls Tryd.prog 100 #[.int .i64 z] w fun e w' => e = .returned (.bool q) ∧ w = w' := by
 obtain ⟨p, hp⟩ : ∃ p, inR 0 255 z = p := ⟨_, rfl⟩
 rw [hp] at hq
 have HW := Lib.hid (isByte_any w z)
 rw [hp] at HW
 clear hp
 subst hq
 go_enter Tryd.func100, Tryd.ntmps100
 go_wp2_with (fail)
 go_at_call 101
 refine HW.out.mono ?_
 rintro e _ ⟨rfl, rfl⟩
 go_wp2_with (fail)
 go_ret
 exact ⟨rfl, rfl⟩
set_option maxHeartbeats 1000000 in
theorem idxInts_any (w : World) (v : Value) (zs : List Int) (h : IntsAt w v zs) (hm : zs.length ≤ 1099511627776) :
  Calls Tryd.prog 125 #[v, .func (.func 100) #[] #[]] w (IdxPost (zs.any fun z => !inR 0 255 z) w) := by
 obtain ⟨a, cap, rfl, hc⟩ := h
 obtain ⟨n, hl⟩ : ∃ n, n = zs.length := ⟨_, rfl⟩
 rw [← hl] at hm ⊢
 have Hc := Lib.hid hc
 have Hl := Lib.hid hl
 obtain ⟨p, hp⟩ : ∃ p, p = zs.any fun z => !inR 0 255 z := ⟨_, rfl⟩
 rw [← hp]
 have Hp := Lib.hid hp
 have HBC := Lib.hid (fun w' z q hq => bclo_any w' z q hq)
 clear hc hl hp
 unfold IdxPost
 go_enter Tryd.func125, Tryd.ntmps125
 go_wp2_with (fail)
 go_loopw [8] (fun i wr => ∃ k : Nat, k ≤ n ∧ i = .int .i64 k ∧ Hid (((zs.take k).any fun z => !inR 0 255 z) = false) ∧ Below w.heap.size w wr) (fun i _ => n - (intOf i).toNat)
 case atStart => exact ⟨0, Nat.zero_le _, rfl, by simp [Hid], Below.refl _ _⟩
 case round =>
  obtain ⟨k, hk, rfl, hno, hB⟩ := hrel
  obtain ⟨wo, rfl⟩ : ∃ wo : World, wo = wr := ⟨_, rfl⟩
  by_cases hlt : k < n
  ·have hkl : k < zs.length := by rw [← Hl.out]; exact hlt
   obtain ⟨z, hz⟩ : ∃ z, z = zs[k] := ⟨_, rfl⟩
   obtain ⟨q, hq⟩ : ∃ q, q = !inR 0 255 z := ⟨_, rfl⟩
   have hmem : z ∈ zs := by rw [hz]; exact List.getElem_mem hkl
   have htk : ((zs.take (k + 1)).any fun z => !inR 0 255 z) = q := by
    rw [List.take_succ_eq_append_getElem hkl, List.any_append, hno.out, ← hz, hq]; simp
   obtain ⟨b, off, rfl, c0⟩ := Hc.out k hkl
   have hbl : b < w.heap.size := World.block_lt_of_cell? w ⟨b, off + k, none⟩ c0
   rw [← hB.cell (p := ⟨b, off + k, none⟩) hbl] at c0
   have hzz : zs.getD k 0 = z := by rw [hz, List.getD_eq_getElem?_getD, List.getElem?_eq_getElem hkl]; rfl
   rw [hzz] at c0
   have k0 : (0 : Int) ≤ k := by omega
   have k1 : (k : Int) < n := by omega
   have hpP : q = true → p = true := fun h => by rw [Hp.out, List.any_eq_true]; exact ⟨z, hmem, by rw [← hq]; exact h⟩
   have HQ := Lib.hid hq
   have HB := Lib.hid hB
   have HT := Lib.hid htk
   have HPP := Lib.hid hpP
   clear hB hz hmem hno hq htk hpP hzz
   go_wp2_with (fail)
   go_at_call 100
   refine (HBC.out wo z q HQ.out).mono ?_
   rintro e _ ⟨rfl, rfl⟩
   cases q
   ·go_wp2_with (fail)
    go_roundw
    case rel => exact ⟨k + 1, by omega, by go_num, HT, HB.out⟩
    case measure => simp [intOf]; omega
   ·go_wp2_with (fail)
    go_ret
    have hpt : p = true := by simpa using HPP.out
    exact ⟨_, rfl, by rw [hpt]; simp, HB.out⟩
  ·obtain rfl : k = n := by omega
   have hall : zs.take k = zs := by rw [Hl.out]; exact List.take_length
   rw [hall] at hno
   go_wp2_with (fail)
   go_ret
   exact ⟨_, rfl, by rw [Hp.out, hno.out]; rfl, hB⟩
set_option maxHeartbeats 1000000 in
theorem containsInts_any (w : World) (v : Value) (zs : List Int) (h : IntsAt w v zs) (hm : zs.length ≤ 1099511627776) :
  Calls Tryd.prog 99 #[v, .func (.func 100) #[] #[]] w (BoolPost (!valsOk zs) w) := by
 have e : (!valsOk zs) = zs.any fun z => !inR 0 255 z := by unfold valsOk; rw [List.not_all_eq_any_not]
 rw [e]
 have HI := Lib.hid (idxInts_any w v zs h hm)
 obtain ⟨a, cap, rfl, hc⟩ := h
 generalize (zs.any fun z => !inR 0 255 z) = p at *
 generalize zs.length = n at *
 clear hc hm e
 unfold BoolPost
 go_enter Tryd.func99, Tryd.ntmps99
 go_wp2_with (fail)
 go_at_call 125
 refine HI.out.mono ?_
 rintro e w1 ⟨z, rfl, hz, hb⟩
 subst hz
 go_wp2_with (fail)
 go_ret
 exact ⟨rfl, hb⟩
set_option maxHeartbeats 1000000 in
theorem bytesOk_any (w : World) (v : Value) (zs : List Int) (m : Int) (h : IntsAt w v zs) (hm : zs.length ≤ 1099511627776) :
  Calls Tryd.prog 75 #[v, .int .i64 m] w (BoolPost (decide ((zs.length : Int) = m) && valsOk zs) w) := by
 have HI := Lib.hid (containsInts_any w v zs h hm)
 obtain ⟨a, cap, rfl, hc⟩ := h
 generalize valsOk zs = p at *
 generalize zs.length = n at *
 clear hc
 unfold BoolPost at *
 by_cases hn : (n : Int) = m
 ·have e1 : decide ((n : Int) = m) = true := by simpa using hn
  have e2 : ((n : Int) == m) = true := by simpa using hn
  rw [e1]
  subst hn
  go_enter Tryd.func75, Tryd.ntmps75
  go_wp2_with (fail)
  go_at_call 99
  refine HI.out.mono ?_
  rintro e w1 ⟨rfl, hb⟩
  go_wp2_with (fail)
  go_ret
  exact ⟨by simp, hb⟩
 ·have e1 : decide ((n : Int) = m) = false := by simpa using hn
  have e2 : ((n : Int) == m) = false := by simpa using hn
  rw [e1]
  go_enter Tryd.func75, Tryd.ntmps75
  go_wp2_with (fail)
  go_ret
  exact ⟨rfl, Below.refl _ _⟩
set_option maxHeartbeats 1000000 in
theorem l5Values_any (w : World) (v : Value) (zs : List Int) (h : IntsAt w v zs) (hm : zs.length ≤ 1099511627776) :
  Calls Tryd.prog 80 #[v] w (BoolPost (valsOk zs) w) := by
 obtain ⟨a, cap, rfl, hc⟩ := h
 obtain ⟨n, hl⟩ : ∃ n, n = zs.length := ⟨_, rfl⟩
 rw [← hl] at hm ⊢
 have Hc := Lib.hid hc
 have Hl := Lib.hid hl
 obtain ⟨p, hp⟩ : ∃ p, p = valsOk zs := ⟨_, rfl⟩
 rw [← hp]
 have Hp := Lib.hid hp
 have HL := Lib.hid (fun w' z q hq => l1In_named z 0 255 q hq w')
 clear hc hl hp
 unfold BoolPost
 go_enter Tryd.func80, Tryd.ntmps80
 go_wp2_with (fail)
 go_loopw [3] (fun i wr => ∃ k : Nat, k ≤ n ∧ i = .int .i64 k ∧ Hid (valsOk (zs.take k) = true) ∧ Below w.heap.size w wr) (fun i _ => n - (intOf i).toNat)
 case atStart => exact ⟨0, Nat.zero_le _, rfl, by simp [Hid, valsOk], Below.refl _ _⟩
 case round =>
  obtain ⟨k, hk, rfl, hno, hB⟩ := hrel
  obtain ⟨wo, rfl⟩ : ∃ wo : World, wo = wr := ⟨_, rfl⟩
  by_cases hlt : k < n
  ·have hkl : k < zs.length := by rw [← Hl.out]; exact hlt
   obtain ⟨z, hz⟩ : ∃ z, z = zs[k] := ⟨_, rfl⟩
   obtain ⟨q, hq⟩ : ∃ q, inR 0 255 z = q := ⟨_, rfl⟩
   have hmem : z ∈ zs := by rw [hz]; exact List.getElem_mem hkl
   have htk : valsOk (zs.take (k + 1)) = q := by
    have h1 := hno.out
    unfold valsOk at h1 ⊢
    rw [List.take_succ_eq_append_getElem hkl, List.all_append, h1, ← hz]; simp [hq]
   obtain ⟨b, off, rfl, c0⟩ := Hc.out k hkl
   have hbl : b < w.heap.size := World.block_lt_of_cell? w ⟨b, off + k, none⟩ c0
   rw [← hB.cell (p := ⟨b, off + k, none⟩) hbl] at c0
   have hzz : zs.getD k 0 = z := by rw [hz, List.getD_eq_getElem?_getD, List.getElem?_eq_getElem hkl]; rfl
   rw [hzz] at c0
   have k0 : (0 : Int) ≤ k := by omega
   have k1 : (k : Int) < n := by omega
   have hpP : q = false → p = false := fun h => by
    rw [Hp.out]
    cases hv : valsOk zs
    ·rfl
    ·have := List.all_eq_true.1 hv z hmem
     rw [hq, h] at this; cases this
   have HQ := Lib.hid hq
   have HB := Lib.hid hB
   have HT := Lib.hid htk
   have HPP := Lib.hid hpP
   clear hB hz hmem hno hq htk hpP hzz
   go_wp2_with (fail)
   go_at_call 61
   refine (HL.out wo z q HQ.out).mono ?_
   rintro e _ ⟨rfl, rfl⟩
   cases q
   ·go_wp2_with (fail)
    go_ret
    have hpt : p = false := by simpa using HPP.out
    exact ⟨by rw [hpt]; rfl, HB.out⟩
   ·go_wp2_with (fail)
    go_roundw
    case rel => exact ⟨k + 1, by omega, by go_num, HT, HB.out⟩
    case measure => simp [intOf]; omega
  ·obtain rfl : k = n := by omega
   have hall : zs.take k = zs := by rw [Hl.out]; exact List.take_length
   rw [hall] at hno
   go_wp2_with (fail)
   go_ret
   exact ⟨by rw [Hp.out, hno.out]; rfl, hB⟩
end Go.Proofs.YtbdbmmdnidonjaaDoor
set_option maxRecDepth 100000
namespace Go.Proofs.YtbdbmmdnidonjaaDoor
open Go.RowKit
/-- a program that can be run with these numbers -/
def RunsOk (fs : List Mf) (zs : List Int) : Prop := MachOk fs ∧ valsOk zs = true ∧ (zs.length : Int) = (mfAt fs (fs.length - 1)).params
def FitPost (fs : List Mf) (zs : List Int) (w : World) (e : Ending) (w' : World) : Prop := ∃ b, e = .returned (.bool b) ∧ (b = true ↔ RunsOk fs zs) ∧ Below w.heap.size w w'
theorem lastFn {w : World} {a : Option Addr} {n cap : Nat} {fs : List Mf} (hm : MfsAt w (.slice a n cap) fs) (hn : n = fs.length) (h1 : 1 ≤ n) :
  ∃ b off, a = some ⟨b, off, none⟩ ∧ b < w.heap.size ∧ w.cell? ⟨b, off + (n - 1) * 3, none⟩ = some (.int .i64 (mfAt fs (fs.length - 1)).params) := by
 have hl : n - 1 < fs.length := by omega
 have hf : fs[n - 1]? = some fs[n - 1] := List.getElem?_eq_getElem hl
 obtain ⟨b, off, cap', iv, hv, hb, c0, _⟩ := hm.get hf
 injection hv with hv1
 refine ⟨b, off, hv1, hb, ?_⟩
 rw [c0]
 unfold mfAt
 rw [← hn, hf]; rfl
set_option maxHeartbeats 2000000 in
theorem machRuns_any (w : World) (v vin : Value) (fs : List Mf) (zs : List Int) (hF : Forms w) (hm : MfsAt w v fs) (hle : MfsLe fs) (hi : IntsAt w vin zs) (hz : zs.length ≤ 1099511627776) :
  Calls Tryd.prog 48 #[.agg #[v], vin] w (FitPost fs zs w) := by
 have HV := Lib.hid (fun w' (hb : Below w.heap.size w w') => machValid_any w' v fs (hF.below hb) (hm.below hb) hle)
 have HBY := Lib.hid (fun w' m (hb : Below w.heap.size w w') => bytesOk_any w' vin zs m (hi.below hb) hz)
 have HM := Lib.hid hm
 have hlen := hle.1
 obtain ⟨a, cap, rfl, hc⟩ := hm
 obtain ⟨ia, icap, rfl, hic⟩ := hi
 obtain ⟨n, hn⟩ : ∃ n, n = fs.length := ⟨_, rfl⟩
 rw [← hn] at HV HM hlen ⊢
 have HN := Lib.hid hn
 obtain ⟨zn, hzn⟩ : ∃ zn, zn = zs.length := ⟨_, rfl⟩
 rw [← hzn] at HBY ⊢
 have HZN := Lib.hid hzn.symm
 clear hc hic hF hle hn hz hzn
 unfold ValidPost BoolPost at *
 go_enter Tryd.func48, Tryd.ntmps48
 go_wp2_with (fail)
 go_at_call 74
 refine (HV.out _ (below1 _ _)).mono ?_
 rintro e w1 ⟨q, rfl, hq, hb⟩
 have hb1 := (below1 w (.cells #[.slice a n cap] 25)).trans (hb.mono (by simp))
 have p0 : w1.cell? ⟨w.heap.size, 0, none⟩ = some (.slice a n cap) := by
  rw [hb.cell (p := ⟨w.heap.size, 0, none⟩) (by simp)]; simp [go_sem]
 have HB1 := Lib.hid hb1
 have HQ := Lib.hid hq
 clear hb hb1 HV hq
 cases q with
 |false =>
  go_wp2_with (fail)
  go_ret
  exact ⟨_, rfl, ⟨fun h => (by cases h), fun h => (by have := HQ.out.2 h.1; cases this)⟩, HB1.out⟩
 |true =>
  have hok : MachOk fs := HQ.out.1 rfl
  have h1 : 1 ≤ n := by rw [HN.out]; exact hok.1.1
  obtain ⟨b, off, rfl, hbl, c0⟩ := lastFn HM.out HN.out h1
  obtain ⟨pr, hpr⟩ : ∃ pr, pr = (mfAt fs (fs.length - 1)).params := ⟨_, rfl⟩
  rw [← hpr] at c0
  have c1 : w1.cell? ⟨b, off + (n - 1) * 3, none⟩ = some (.int .i64 pr) := by rw [HB1.out.cell (p := ⟨b, off + (n - 1) * 3, none⟩) hbl]; exact c0
  have HPR := Lib.hid hpr
  have HOK := Lib.hid hok
  have hnn : (n : Int) - 1 = ((n - 1 : Nat) : Int) := by omega
  have i0 : (0 : Int) ≤ ((n - 1 : Nat) : Int) := by omega
  have i1 : ((n - 1 : Nat) : Int) < n := by omega
  clear hpr hok c0 HQ
  go_wp2_with (fail)
  go_at_call 75
  refine (HBY.out w1 pr HB1.out).mono ?_
  rintro e w2 ⟨rfl, hb2⟩
  have HB2 := Lib.hid (HB1.out.trans (hb2.mono HB1.out.size))
  obtain ⟨ans, hans⟩ : ∃ ans, ans = (decide ((zn : Int) = pr) && valsOk zs) := ⟨_, rfl⟩
  rw [← hans]
  have HA := Lib.hid hans
  clear hb2 hans HBY
  go_wp2_with (fail)
  go_ret
  refine ⟨_, rfl, ?_, HB2.out⟩
  unfold RunsOk
  rw [HZN.out, ← HPR.out, HA.out]
  simp only [Bool.and_eq_true, decide_eq_true_eq]
  exact ⟨fun h => ⟨HOK.out, h.2, h.1⟩, fun h => ⟨h.2.2, h.2.1⟩⟩
set_option maxHeartbeats 2000000 in
theorem fits_any (w : World) (v vin : Value) (fs : List Mf) (zs : List Int) (hm : MfsAt w v fs) (hle : MfsLe fs) (hi : IntsAt w vin zs) (hz : zs.length ≤ 1099511627776) :
  Calls Tryd.prog 50 #[.agg #[v], vin] w (FitPost fs zs w) := by
 have HV := Lib.hid (fun w' (hb : Below w.heap.size w w') => specValid_any w' v fs (hm.below hb) hle)
 have HBY := Lib.hid (fun w' (hb : Below w.heap.size w w') => l5Values_any w' vin zs (hi.below hb) hz)
 have HM := Lib.hid hm
 have hlen := hle.1
 obtain ⟨a, cap, rfl, hc⟩ := hm
 obtain ⟨ia, icap, rfl, hic⟩ := hi
 obtain ⟨n, hn⟩ : ∃ n, n = fs.length := ⟨_, rfl⟩
 rw [← hn] at HV HM hlen ⊢
 have HN := Lib.hid hn
 obtain ⟨zn, hzn⟩ : ∃ zn, zn = zs.length := ⟨_, rfl⟩
 rw [← hzn] at HBY ⊢
 have HZN := Lib.hid hzn.symm
 obtain ⟨vo, hvo⟩ : ∃ vo, vo = valsOk zs := ⟨_, rfl⟩
 rw [← hvo] at HBY
 have HVO := Lib.hid hvo
 clear hc hic hle hn hz hzn hvo
 unfold ValidPost BoolPost at *
 go_enter Tryd.func50, Tryd.ntmps50
 go_wp2_with (fail)
 go_at_call 79
 refine (HV.out _ (below1 _ _)).mono ?_
 rintro e w1 ⟨q, rfl, hq, hb⟩
 have hb1 := (below1 w (.cells #[.slice a n cap] 25)).trans (hb.mono (by simp))
 have p0 : w1.cell? ⟨w.heap.size, 0, none⟩ = some (.slice a n cap) := by
  rw [hb.cell (p := ⟨w.heap.size, 0, none⟩) (by simp)]; simp [go_sem]
 have HB1 := Lib.hid hb1
 have HQ := Lib.hid hq
 clear hb hb1 HV hq
 cases q with
 |false =>
  go_wp2_with (fail)
  go_ret
  exact ⟨_, rfl, ⟨fun h => (by cases h), fun h => (by have := HQ.out.2 h.1; cases this)⟩, HB1.out⟩
 |true =>
  have hok : MachOk fs := HQ.out.1 rfl
  have h1 : 1 ≤ n := by rw [HN.out]; exact hok.1.1
  obtain ⟨b, off, rfl, hbl, c0⟩ := lastFn HM.out HN.out h1
  obtain ⟨pr, hpr⟩ : ∃ pr, pr = (mfAt fs (fs.length - 1)).params := ⟨_, rfl⟩
  rw [← hpr] at c0
  have HPR := Lib.hid hpr
  have HOK := Lib.hid hok
  have hnn : (n : Int) - 1 = ((n - 1 : Nat) : Int) := by omega
  have i0 : (0 : Int) ≤ ((n - 1 : Nat) : Int) := by omega
  have i1 : ((n - 1 : Nat) : Int) < n := by omega
  clear hpr hok HQ
  go_wp2_with (fail)
  go_at_call 80
  refine (HBY.out w1 HB1.out).mono ?_
  rintro e w2 ⟨rfl, hb2⟩
  have p2 : w2.cell? ⟨w.heap.size, 0, none⟩ = some (.slice (some ⟨b, off, none⟩) n cap) := by
   rw [hb2.cell (p := ⟨w.heap.size, 0, none⟩) (World.block_lt_of_cell? _ _ p0)]; exact p0
  have hB2 := HB1.out.trans (hb2.mono HB1.out.size)
  have c2 : w2.cell? ⟨b, off + (n - 1) * 3, none⟩ = some (.int .i64 pr) := by rw [hB2.cell (p := ⟨b, off + (n - 1) * 3, none⟩) hbl]; exact c0
  have HB2 := Lib.hid hB2
  clear hb2 hB2 HBY p0 c0
  cases vo with
  |false =>
   go_wp2_with (fail)
   go_ret
   exact ⟨_, rfl, ⟨fun h => (by cases h), fun h => (by have := h.2.1; rw [← HVO.out] at this; cases this)⟩, HB2.out⟩
  |true =>
   by_cases hzp : (zn : Int) = pr
   ·have e2 : ((zn : Int) == pr) = true := by simpa using hzp
    have HZ := Lib.hid hzp
    clear hzp
    go_wp2_with (fail)
    go_ret
    refine ⟨_, rfl, ⟨fun _ => ⟨HOK.out, HVO.out.symm, ?_⟩, fun _ => rfl⟩, HB2.out⟩
    rw [HZN.out, ← HPR.out]; exact HZ.out
   ·have e2 : ((zn : Int) == pr) = false := by simpa using hzp
    have HZ := Lib.hid hzp
    clear hzp
    go_wp2_with (fail)
    go_ret
    refine ⟨_, rfl, ⟨fun h => (by cases h), fun h => absurd ?_ HZ.out⟩, HB2.out⟩
    have := h.2.2
    rw [HZN.out, ← HPR.out] at this; exact this
end Go.Proofs.YtbdbmmdnidonjaaDoor
