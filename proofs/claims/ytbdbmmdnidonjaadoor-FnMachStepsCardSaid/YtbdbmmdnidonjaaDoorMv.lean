/- Is a program of the machine valid: impl.MachValid. -/
import Derived.Test.YtbdbmmdnidonjaaDoorMok
set_option maxRecDepth 100000
namespace Go.Proofs.YtbdbmmdnidonjaaDoor
open Go.RowKit

theorem minsOk_any (w : World) (v : Value) (fs : List Mf) (k : Nat) (f : Mf) (x : Mi) (hF : Forms w) (hm : MfsAt w v fs) (hk : fs[k]? = some f) (hlen : fs.length ≤ 1048576)
    (hs0 : 0 ≤ f.slots) (hs1 : f.slots ≤ 64) (hp0 : 0 ≤ f.params) (hp1 : f.params ≤ 3) (hil : f.ins.length ≤ 1048576) :
    Calls Tryd.prog 98 #[.agg #[v], .int .i64 k, x.val] w (BoolPost (insOk k f x) w) := by
  cases hno : (formOk x && inR 0 7 x.a && inR 0 7 x.b && inR 0 7 x.c)
  · have e : insOk k f x = false := by unfold insOk; rw [hno]; rfl
    rw [e]
    exact minsOk_no w v x.op x.a x.b x.c x.n k hF hno
  · have e : insOk k f x = (!hasF 3 x.op || inR 0 (mostOf k f x.op) x.n) := by unfold insOk; rw [hno]; rfl
    rw [e]
    obtain ⟨b, off, cap, iv, rfl, hb, c0, c1, c2, la, lc, rfl, hmi⟩ := hm.get hk
    exact minsOk_yes w b off cap k fs.length f.params f.slots la f.ins.length lc x.op x.a x.b x.c x.n hF hno (idx_lt hk) hlen hb c0 c1 c2 hs0 hs1 hp0 hp1 hil _ rfl

set_option maxHeartbeats 1000000 in
theorem clo_any (w : World) (op a b c n : Int) (bm bk k : Nat) (v : Value) (r : Bool)
    (hr : ∀ w', Below w.heap.size w w' → Calls Tryd.prog 98 #[.agg #[v], .int .i64 k, .agg #[.int .i64 op, .int .i64 a, .int .i64 b, .int .i64 c, .int .i64 n]] w' (BoolPost r w'))
    (hm : w.cell? ⟨bm, 0, none⟩ = some v) (hk : w.cell? ⟨bk, 0, none⟩ = some (.int .i64 k)) :
    Calls Tryd.prog 97 #[.agg #[.int .i64 op, .int .i64 a, .int .i64 b, .int .i64 c, .int .i64 n], .pointer (some ⟨bm, 0, none⟩), .pointer (some ⟨bk, 0, none⟩)] w (BoolPost (!r) w) := by
  have hml := World.block_lt_of_cell? _ _ hm
  have hkl := World.block_lt_of_cell? _ _ hk
  have HR := Lib.hid hr
  clear hr
  unfold BoolPost at *
  have m1 : ∀ o, (w.alloc o).cell? ⟨bm, 0, none⟩ = some v := fun o => by rw [(below1 w o).cell (p := ⟨bm, 0, none⟩) hml]; exact hm
  have m2 : ∀ o, (w.alloc o).cell? ⟨bk, 0, none⟩ = some (.int .i64 k) := fun o => by rw [(below1 w o).cell (p := ⟨bk, 0, none⟩) hkl]; exact hk
  go_enter Tryd.func97, Tryd.ntmps97
  go_wp2_with (fail)
  go_at_call 98
  refine (HR.out _ (below1 _ _)).mono ?_
  rintro e w1 ⟨rfl, hb⟩
  go_wp2_with (fail)
  go_ret
  exact ⟨rfl, (below1 _ _).trans (hb.mono (by simp))⟩

/-- at least 0, just if some element is one -/
def IdxPost (p : Bool) (w : World) (e : Ending) (w' : World) : Prop := ∃ z : Int, e = .returned (.int .i64 z) ∧ (decide (0 ≤ z) = p) ∧ Below w.heap.size w w'

set_option maxHeartbeats 1000000 in
theorem idxMins_any (w : World) (v fv p1 p2 : Value) (xs : List Mi) (P : Mi → Bool) (h : MisAt w v xs) (hm : xs.length ≤ 1048576) (hfv : fv = .func (.func 97) #[] #[p1, p2])
    (hP : ∀ w' x, Below w.heap.size w w' → x ∈ xs → Calls Tryd.prog 97 #[.agg #[.int .i64 x.op, .int .i64 x.a, .int .i64 x.b, .int .i64 x.c, .int .i64 x.n], p1, p2] w' (BoolPost (P x) w')) :
    Calls Tryd.prog 123 #[v, fv] w (IdxPost (xs.any P) w) := by
  obtain ⟨a, cap, rfl, hc⟩ := h
  subst hfv
  obtain ⟨n, hl⟩ : ∃ n, n = xs.length := ⟨_, rfl⟩
  rw [← hl] at hm ⊢
  have Hc := Lib.hid hc
  have Hl := Lib.hid hl
  have HP := Lib.hid hP
  obtain ⟨p, hp⟩ : ∃ p, p = xs.any P := ⟨_, rfl⟩
  rw [← hp]
  have Hp := Lib.hid hp
  clear hc hl hP hp
  unfold IdxPost
  go_enter Tryd.func123, Tryd.ntmps123
  go_wp2_with (fail)
  go_loopw [8] (fun i wr => ∃ k : Nat, k ≤ n ∧ i = .int .i64 k ∧ Hid ((xs.take k).any P = false) ∧ Below w.heap.size w wr) (fun i _ => n - (intOf i).toNat)
  case atStart => exact ⟨0, Nat.zero_le _, rfl, by simp [Hid], Below.refl _ _⟩
  case round =>
    obtain ⟨k, hk, rfl, hno, hB⟩ := hrel
    obtain ⟨wo, rfl⟩ : ∃ wo : World, wo = wr := ⟨_, rfl⟩
    by_cases hlt : k < n
    · have hkl : k < xs.length := by rw [← Hl.out]; exact hlt
      obtain ⟨x, hx⟩ : ∃ x, x = xs[k] := ⟨_, rfl⟩
      have hxk : xs[k]? = some x := by rw [hx]; exact List.getElem?_eq_getElem hkl
      have hmem : x ∈ xs := by rw [hx]; exact List.getElem_mem hkl
      have htk : (xs.take (k + 1)).any P = P x := by
        rw [List.take_succ_eq_append_getElem hkl, List.any_append, hno.out, ← hx]; simp
      obtain ⟨b, off, rfl, c0, c1, c2, c3, c4⟩ := Hc.out k x hxk
      have hbl : b < w.heap.size := World.block_lt_of_cell? w ⟨b, off + k * 5, none⟩ c0
      rw [← hB.cell (p := ⟨b, off + k * 5, none⟩) hbl] at c0
      rw [← hB.cell (p := ⟨b, off + k * 5 + 1, none⟩) hbl] at c1
      rw [← hB.cell (p := ⟨b, off + k * 5 + 2, none⟩) hbl] at c2
      rw [← hB.cell (p := ⟨b, off + k * 5 + 3, none⟩) hbl] at c3
      rw [← hB.cell (p := ⟨b, off + k * 5 + 4, none⟩) hbl] at c4
      have k0 : (0 : Int) ≤ k := by omega
      have k1 : (k : Int) < n := by omega
      have HPx := HP.out wo x hB hmem
      have hpP : P x = true → p = true := fun h => by rw [Hp.out, List.any_eq_true]; exact ⟨x, hmem, h⟩
      unfold BoolPost at HPx
      obtain ⟨px, hpx⟩ : ∃ px, px = P x := ⟨_, rfl⟩
      rw [← hpx] at HPx htk hpP
      have HX := Lib.hid HPx
      have HB := Lib.hid hB
      have HT := Lib.hid htk
      have HPP := Lib.hid hpP
      clear hB hx hxk hmem hno hpx HPx htk hpP
      go_wp2_with (fail)
      go_at_call 97
      refine HX.out.mono ?_
      rintro e w1 ⟨rfl, hb⟩
      have HB1 := Lib.hid (HB.out.trans (hb.mono HB.out.size))
      clear hb HX HB
      cases px
      · go_wp2_with (fail)
        go_roundw
        case rel => exact ⟨k + 1, by omega, by go_num, HT, HB1.out⟩
        case measure => simp [intOf]; omega
      · go_wp2_with (fail)
        go_ret
        have hpt : p = true := by simpa using HPP.out
        exact ⟨_, rfl, by rw [hpt]; simp, HB1.out⟩
    · obtain rfl : k = n := by omega
      have hall : xs.take k = xs := by rw [Hl.out]; exact List.take_length
      rw [hall] at hno
      go_wp2_with (fail)
      go_ret
      exact ⟨_, rfl, by rw [Hp.out, hno.out]; rfl, hB⟩

set_option maxHeartbeats 1000000 in
theorem containsMins_any (w : World) (v fv p1 p2 : Value) (xs : List Mi) (P : Mi → Bool) (h : MisAt w v xs) (hm : xs.length ≤ 1048576) (hfv : fv = .func (.func 97) #[] #[p1, p2])
    (hP : ∀ w' x, Below w.heap.size w w' → x ∈ xs → Calls Tryd.prog 97 #[.agg #[.int .i64 x.op, .int .i64 x.a, .int .i64 x.b, .int .i64 x.c, .int .i64 x.n], p1, p2] w' (BoolPost (P x) w')) :
    Calls Tryd.prog 96 #[v, fv] w (BoolPost (xs.any P) w) := by
  have HI := Lib.hid (idxMins_any w v fv p1 p2 xs P h hm hfv hP)
  obtain ⟨a, cap, rfl, hc⟩ := h
  subst hfv
  generalize xs.any P = p at *
  generalize xs.length = n at *
  clear hP hc hm
  unfold BoolPost
  go_enter Tryd.func96, Tryd.ntmps96
  go_wp2_with (fail)
  go_at_call 123
  refine HI.out.mono ?_
  rintro e w1 ⟨z, rfl, hz, hb⟩
  subst hz
  go_wp2_with (fail)
  go_ret
  exact ⟨rfl, hb⟩

def lastOp (f : Mf) : Int := ((f.ins[f.ins.length - 1]?).map Mi.op).getD 0
def lastOk (f : Mf) : Bool := decide (lastOp f = 20) || decide (lastOp f = 22)
def fnOk (k : Nat) (f : Mf) : Bool := inR 0 3 f.params && inR 0 64 f.slots && decide (f.ins.length ≠ 0) && lastOk f && !(f.ins.any fun x => !insOk k f x)
def MachOk (fs : List Mf) : Prop := (1 ≤ fs.length ∧ fs.length ≤ 4) ∧ (∀ k f, fs[k]? = some f → fnOk k f = true) ∧ sumIns fs ≤ 2000
def ValidPost (fs : List Mf) (w : World) (e : Ending) (w' : World) : Prop := ∃ b, e = .returned (.bool b) ∧ (b = true ↔ MachOk fs) ∧ Below w.heap.size w w'
theorem inR_iff {lo hi n : Int} : inR lo hi n = true ↔ lo ≤ n ∧ n ≤ hi := by simp [inR]

set_option maxHeartbeats 4000000 in
theorem machValid_any (w : World) (v : Value) (fs : List Mf) (hF : Forms w) (hm : MfsAt w v fs) (hle : MfsLe fs) :
    Calls Tryd.prog 74 #[.agg #[v]] w (ValidPost fs w) := by
  have HF := Lib.hid hF
  have HM := Lib.hid hm
  have HLE := Lib.hid hle
  have hlen := hle.1
  obtain ⟨a, cap, rfl, hc⟩ := hm
  obtain ⟨n, hn⟩ : ∃ n, n = fs.length := ⟨_, rfl⟩
  rw [← hn] at HM hlen ⊢
  obtain ⟨pn, hpn⟩ : ∃ pn, inR 1 4 (n : Int) = pn := ⟨_, rfl⟩
  have HW := Lib.hid (within_named (n : Int) 1 4 pn hpn)
  have HPN := Lib.hid hpn
  have Hn := Lib.hid hn
  clear hF hle hc hpn hn
  have h0 : (w.alloc (.cells #[.slice a n cap] 25)).cell? ⟨w.heap.size, 0, none⟩ = some (.slice a n cap) := by
    rw [World.cell?_alloc_at _ _ _ _ rfl]; rfl
  unfold ValidPost
  go_enter Tryd.func74, Tryd.ntmps74
  go_wp2_with (fail)
  go_at_call 52
  refine (HW.out _).mono ?_
  rintro e w1 ⟨rfl, hw1⟩
  rw [hw1] at h0
  have HB1 : Hid (Below w.heap.size w w1) := by rw [← hw1]; exact Lib.hid (below1 _ _)
  have hsz : w.heap.size < w1.heap.size := by rw [← hw1]; simp
  clear hw1
  cases pn
  · go_wp2_with (fail)
    go_ret
    refine ⟨_, rfl, ⟨(fun h => by cases h), fun h => ?_⟩, HB1.out⟩
    have := HPN.out
    obtain ⟨⟨h1, h2⟩, _⟩ := h
    rw [← Hn.out] at h1 h2
    have h3 : inR 1 4 (n : Int) = true := inR_iff.mpr ⟨by omega, by omega⟩
    rw [this] at h3; cases h3
  have hn4 : 1 ≤ n ∧ n ≤ 4 := by
    have := inR_iff.mp HPN.out
    omega
  clear HPN HW hlen
  go_wp2_with (fail)
  go_loopw [3, 15] (fun s i wr => ∃ (k : Nat) (q : Int), k ≤ n ∧ i = .int .i64 k ∧ s = .int .i64 q ∧ Hid (q = sumIns (fs.take k)) ∧ 0 ≤ q ∧ q ≤ 1048576 * k ∧ Hid (∀ j f, j < k → fs[j]? = some f → fnOk j f = true) ∧ Below w1.heap.size w1 wr) (fun _ i _ => n - (intOf i).toNat)
  case atStart => exact ⟨0, 0, Nat.zero_le _, rfl, rfl, by simp [Hid, sumIns], by omega, by omega, by simp [Hid], Below.refl _ _⟩
  case round =>
    obtain ⟨k, q, hk, rfl, rfl, hq, hq0, hq1, hall, hB⟩ := hrel
    obtain ⟨wo, rfl⟩ : ∃ wo : World, wo = wr := ⟨_, rfl⟩
    by_cases hlt : k < n
    · have hkl : k < fs.length := by rw [← Hn.out]; exact hlt
      obtain ⟨f, hf⟩ : ∃ f, f = fs[k] := ⟨_, rfl⟩
      have hfk : fs[k]? = some f := by rw [hf]; exact List.getElem?_eq_getElem hkl
      have hmem : f ∈ fs := by rw [hf]; exact List.getElem_mem hkl
      have hil := HLE.out.2 f hmem
      have hq' : q + f.ins.length = sumIns (fs.take (k + 1)) := by rw [take_snocF fs k f hfk, hq.out]
      have hBw := HB1.out.trans (hB.mono (Nat.le_of_lt hsz))
      have hmo : MfsAt wo (.slice a n cap) fs := HM.out.below hBw
      obtain ⟨b, off, cap', iv, hv, hb, c0, c1, c2, hmi⟩ := HM.out.get hfk
      have hmi2 := hmi
      obtain ⟨la, lc, rfl, _⟩ := hmi2
      injection hv with hv1 hv2 hv3
      subst hv1 hv3
      clear hv2
      have d0 := c0; have d1 := c1; have d2 := c2
      rw [← hBw.cell (p := ⟨b, off + k * 3, none⟩) hb] at d0
      rw [← hBw.cell (p := ⟨b, off + k * 3 + 1, none⟩) hb] at d1
      rw [← hBw.cell (p := ⟨b, off + k * 3 + 2, none⟩) hb] at d2
      have e0 : wo.cell? ⟨w.heap.size, 0, none⟩ = some (.slice (some ⟨b, off, none⟩) n cap) := by rw [hB.cell (p := ⟨w.heap.size, 0, none⟩) hsz]; exact h0
      have k0 : (0 : Int) ≤ k := by omega
      have k1 : (k : Int) < n := by omega
      obtain ⟨nl, hnl⟩ : ∃ nl, nl = f.ins.length := ⟨_, rfl⟩
      rw [← hnl] at hil hq' d2
      obtain ⟨pr, hpr⟩ : ∃ p, p = f.params := ⟨_, rfl⟩
      rw [← hpr] at d0
      obtain ⟨sl, hsl⟩ : ∃ p, p = f.slots := ⟨_, rfl⟩
      rw [← hsl] at d1
      obtain ⟨pa, hpa⟩ : ∃ p, inR 0 3 pr = p := ⟨_, rfl⟩
      obtain ⟨pb, hpb⟩ : ∃ p, inR 0 64 sl = p := ⟨_, rfl⟩
      have WA := Lib.hid (within_named pr 0 3 pa hpa)
      have WB := Lib.hid (within_named sl 0 64 pb hpb)
      have HNL := Lib.hid hnl
      have HPR := Lib.hid hpr
      have HSL := Lib.hid hsl
      have HPA := Lib.hid hpa
      have HPB := Lib.hid hpb
      have HFK := Lib.hid hfk
      have HMO := Lib.hid hmo
      have HMI := Lib.hid hmi
      have HQ := Lib.hid hq'
      have HBW := Lib.hid hBw
      have HB := Lib.hid hB
      clear hnl hpr hsl hpa hpb hf hfk hmem hq hmo hmi hq' hBw hB c0 c1 c2
      go_wp2_with (fail)
      go_at_call 52
      refine (WA.out _).mono ?_
      rintro e w2 ⟨rfl, hw2⟩
      have g0 : w2.cell? ⟨wo.heap.size, 0, none⟩ = some (.int .i64 k) := by
        rw [← hw2]; simp [go_sem]
      have g1 : w2.cell? ⟨wo.heap.size + 1, 0, none⟩ = some (.int .i64 pr) := by
        rw [← hw2]; simp [go_sem]
      have g2 : w2.cell? ⟨wo.heap.size + 1, 1, none⟩ = some (.int .i64 sl) := by
        rw [← hw2]; simp [go_sem]
      have g3 : w2.cell? ⟨wo.heap.size + 1, 2, none⟩ = some (.slice la nl lc) := by
        rw [← hw2]; simp [go_sem]
      have hB2 : Below wo.heap.size wo w2 := by
        rw [← hw2]; (repeat' (first | exact Below.refl _ _ | assumption | (refine Below.setCell ?_ ?_ _) | (refine Below.alloc ?_ ?_ _) | (refine belowDrewN ?_ _) | omega | (simp; done) | (simp; omega)))
      clear hw2 WA d0 d1 d2
      have NO : fnOk k f = false → ¬ MachOk fs := fun h hM => by
        have := hM.2.1 k f HFK.out
        rw [h] at this; cases this
      have HNO := Lib.hid NO
      have hBw2 : Below w.heap.size w w2 := HBW.out.trans (hB2.mono (HBW.out.size))
      have hB12 : Below w1.heap.size w1 w2 := HB.out.trans (hB2.mono (HB.out.size))
      have e0' : w2.cell? ⟨w.heap.size, 0, none⟩ = some (.slice (some ⟨b, off, none⟩) n cap) := by
        rw [hB2.cell (p := ⟨w.heap.size, 0, none⟩) (by have := HB.out.size; show w.heap.size < wo.heap.size; omega)]; exact e0
      have HM2 : Hid (MfsAt w2 (.slice (some ⟨b, off, none⟩) n cap) fs) := Lib.hid (HM.out.below hBw2)
      have HI2 : Hid (MisAt w2 (.slice la nl lc) f.ins) := by rw [HNL.out]; exact Lib.hid (HMI.out.below hBw2)
      have HF2 := Lib.hid (HF.out.below hBw2)
      have HBw2 := Lib.hid hBw2
      have HB12 := Lib.hid hB12
      have hwlt : wo.heap.size < w2.heap.size := World.block_lt_of_cell? _ _ g0
      have G0 := Lib.hid g0
      have E0 := Lib.hid e0'
      clear NO hBw2 hB12 hB2 e0 e0' HB HBW HMO HMI g0
      cases pa
      · go_wp2_with (fail)
        go_ret
        refine ⟨_, rfl, ⟨(fun h => by cases h), fun h => absurd h (HNO.out ?_)⟩, HBw2.out⟩
        unfold fnOk; rw [← HPR.out, HPA.out]; rfl
      go_wp2_with (fail)
      go_at_call 52
      refine (WB.out _).mono ?_
      rintro e _ ⟨rfl, rfl⟩
      cases pb
      · go_wp2_with (fail)
        go_ret
        refine ⟨_, rfl, ⟨(fun h => by cases h), fun h => absurd h (HNO.out ?_)⟩, HBw2.out⟩
        unfold fnOk; rw [← HPR.out, HPA.out, ← HSL.out, HPB.out]; rfl
      cases nl with
      | zero =>
        go_wp2_with (fail)
        go_ret
        refine ⟨_, rfl, ⟨(fun h => by cases h), fun h => absurd h (HNO.out ?_)⟩, HBw2.out⟩
        unfold fnOk; rw [← HNL.out]; simp
      | succ m =>
      have hml : m < f.ins.length := by rw [← HNL.out]; omega
      obtain ⟨x, hx⟩ : ∃ x, f.ins[m]? = some x := ⟨_, List.getElem?_eq_getElem hml⟩
      have hlo : lastOp f = x.op := by unfold lastOp; rw [← HNL.out, Nat.add_sub_cancel, hx]; rfl
      obtain ⟨la', lc', hv, hcc⟩ := HI2.out
      injection hv with hv1 hv2 hv3
      subst hv1 hv3
      obtain ⟨bi, oi, rfl, x0, _⟩ := hcc m x hx
      obtain ⟨lo, hlo2⟩ : ∃ lo, lo = x.op := ⟨_, rfl⟩
      rw [← hlo2] at hlo x0
      have HLO := Lib.hid hlo
      clear hcc hv2 hx hlo hlo2
      have hmm : ((m + 1 : Nat) : Int) - 1 = m := by omega
      have hm0 : (0 : Int) ≤ m := by omega
      by_cases hl2 : lo = 20 ∨ lo = 22
      case neg =>
        have hl20 : ¬ lo = 20 := fun h => hl2 (.inl h)
        have hl22 : ¬ lo = 22 := fun h => hl2 (.inr h)
        have d20 : decide (lo = 20) = false := by simpa using hl20
        have d22 : decide (lo = 22) = false := by simpa using hl22
        have b20 : (lo == 20) = false := by simpa using hl20
        have b22 : (lo == 22) = false := by simpa using hl22
        have n20 : (lo != 20) = true := by simpa using hl20
        have n22 : (lo != 22) = true := by simpa using hl22
        go_wp2_with (fail)
        go_ret
        refine ⟨_, rfl, ⟨(fun h => by cases h), fun h => absurd h (HNO.out ?_)⟩, HBw2.out⟩
        unfold fnOk lastOk
        rw [HLO.out]
        simp [hl20, hl22]
      have hLK : lastOk f = true := by
        unfold lastOk; rw [HLO.out]
        rcases hl2 with h | h <;> simp [h]
      have HLK := Lib.hid hLK
      have hPA' : inR 0 3 f.params = true := by rw [← HPR.out]; exact HPA.out
      have hPB' : inR 0 64 f.slots = true := by rw [← HSL.out]; exact HPB.out
      have hr1 := inR_iff.mp hPA'
      have hr2 := inR_iff.mp hPB'
      have HCON := containsMins_any w2 (.slice (some ⟨bi, oi, none⟩) (m + 1) lc) (.func (.func 97) #[] #[.pointer (some ⟨w.heap.size, 0, none⟩), .pointer (some ⟨wo.heap.size, 0, none⟩)]) (.pointer (some ⟨w.heap.size, 0, none⟩)) (.pointer (some ⟨wo.heap.size, 0, none⟩)) f.ins (fun x => !insOk k f x) HI2.out (by rw [← HNL.out]; exact hil) rfl
        (fun w' x hb _ => clo_any w' x.op x.a x.b x.c x.n w.heap.size wo.heap.size k _ (insOk k f x) (fun w3 hb3 => minsOk_any w3 _ fs k f x (HF2.out.below (hb.trans (hb3.mono hb.size))) (HM2.out.below (hb.trans (hb3.mono hb.size))) HFK.out HLE.out.1 hr2.1 hr2.2 hr1.1 hr1.2 (HLE.out.2 f (List.mem_of_getElem? HFK.out)))
          (by rw [hb.cell (p := ⟨w.heap.size, 0, none⟩) (World.block_lt_of_cell? _ _ E0.out)]; exact E0.out)
          (by rw [hb.cell (p := ⟨wo.heap.size, 0, none⟩) hwlt]; exact G0.out))
      obtain ⟨pc, hpc⟩ : ∃ pc, pc = f.ins.any (fun x => !insOk k f x) := ⟨_, rfl⟩
      rw [← hpc] at HCON
      have HC := Lib.hid HCON
      have HPC := Lib.hid hpc
      clear HCON hpc hLK hPA' hPB' hr1 hr2
      have g4 := G0.out
      clear HLO
      rcases hl2 with rfl | rfl
      all_goals go_wp2_with (fail)
      all_goals go_at_call 96
      all_goals refine HC.out.mono ?_
      all_goals (rintro e w3 ⟨rfl, hb3⟩)
      all_goals
        cases pc
        · have hfo : fnOk k f = true := by
            unfold fnOk
            rw [← HPR.out, ← HSL.out, HPA.out, HPB.out, HLK.out, ← HPC.out, ← HNL.out]; simp
          have HFO := Lib.hid hfo
          have HB13 := Lib.hid (HB12.out.trans (hb3.mono HB12.out.size))
          clear hfo hb3 HC
          go_wp2_with (fail)
          go_roundw
          case rel =>
            refine ⟨k + 1, q + (m + 1 : Nat), by omega, by go_num, by go_num, HQ, by omega, by omega, ?_, HB13.out⟩
            apply Lib.hid
            intro j f' hj hf'
            rcases Nat.lt_or_ge j k with h | h
            · exact hall.out j f' h hf'
            · obtain rfl : j = k := by omega
              rw [HFK.out] at hf'; injection hf' with hf'; rw [← hf']; exact HFO.out
          case measure => simp [intOf]; omega
        · have HBw3 := Lib.hid (HBw2.out.trans (hb3.mono HBw2.out.size))
          clear hb3 HC
          go_wp2_with (fail)
          go_ret
          refine ⟨_, rfl, ⟨(fun h => by cases h), fun h => absurd h (HNO.out ?_)⟩, HBw3.out⟩
          unfold fnOk; rw [← HPC.out]; simp
    · obtain rfl : k = n := by omega
      have hqq : q = sumIns fs := by rw [hq.out]; congr 1; rw [Hn.out]; exact List.take_length
      have hB' := HB1.out.trans (hB.mono (Nat.le_of_lt hsz))
      have HQQ := Lib.hid hqq
      clear hqq
      go_wp2_with (fail)
      go_ret
      refine ⟨_, rfl, ⟨fun h => ⟨by rw [← Hn.out]; exact hn4, fun j f hf => hall.out j f (by rw [Hn.out]; exact idx_lt hf) hf, ?_⟩, fun h => ?_⟩, hB'⟩
      · rw [← HQQ.out]; simpa using h
      · have := h.2.2
        rw [← HQQ.out] at this
        simpa using this

end Go.Proofs.YtbdbmmdnidonjaaDoor
