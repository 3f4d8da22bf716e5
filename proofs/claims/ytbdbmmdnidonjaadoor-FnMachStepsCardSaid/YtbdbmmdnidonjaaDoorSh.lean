/- spec.RunMach and spec.MachSteps answer what impl's answer. -/
import Derived.Test.YtbdbmmdnidonjaaDoorSg
set_option maxRecDepth 100000
namespace Go.Proofs.YtbdbmmdnidonjaaDoor
open Go.RowKit

def toInts0 (xs : List Nat) : List Int := xs.map fun (n : Nat) => (n : Int)
theorem toInts0_len (xs : List Nat) : (toInts0 xs).length = xs.length := by simp [toInts0]
theorem nats_ints (xs : List Nat) : nats xs = ints (toInts0 xs) := by simp [nats, ints, toInts0]
theorem toInts0_get {xs : List Nat} {i : Nat} (h : i < xs.length) : (toInts0 xs).getD i 0 = ((xs.getD i 0 : Nat) : Int) := by
  simp [toInts0, List.getD_eq_getElem?_getD, List.getElem?_eq_getElem h]
theorem Blk.ints {w : World} {p cap : Nat} {xs : List Nat} (h : Blk w p (nats xs)) : IntsAt w (.slice (some ⟨p, 0, none⟩) xs.length cap) (toInts0 xs) :=
  ⟨_, cap, by rw [toInts0_len], fun i hi => ⟨p, 0, rfl, by rw [toInts0_len] at hi; rw [Nat.zero_add, h.cell, nats_get hi, toInts0_get hi]⟩⟩
theorem Said.ints {w : World} {B : Nat} {sv : Value} {xs : List Nat} (h : Said w B sv xs) : IntsAt w sv (toInts0 xs) := intsAt_of (by
  unfold Said at h
  rw [nats_ints] at h
  rw [toInts0_len]; exact h)

/-- an outcome that can be read -/
def OutRd (w : World) (o : Option Rs) (v : Value) : Prop :=
  match o with
  | none => v = .agg #[.slice none 0 0, .int .i64 0, .int .i64 0, .slice none 0 0]
  | some r => ∃ sa sn sc ca cc, v = .agg #[.slice sa sn sc, .int .i64 (r.en : Int), .int .i64 (r.val : Int), .slice ca 16 cc] ∧ IntsAt w (.slice sa sn sc) (toInts0 r.cm.said) ∧ IntsAt w (.slice ca 16 cc) (toInts0 r.cm.cells) ∧ r.cm.cells.length = 16
theorem OutRd.below {w w' : World} {o : Option Rs} {v : Value} (h : OutRd w o v) (hb : Below w.heap.size w w') : OutRd w' o v := by
  cases o with
  | none => exact h
  | some r =>
    obtain ⟨sa, sn, sc, ca, cc, hv, h1, h2, h3⟩ := h
    exact ⟨sa, sn, sc, ca, cc, hv, h1.below hb, h2.below hb, h3⟩
theorem OutAt.read {w : World} {B : Nat} {o : Option Rs} {v : Value} (h : OutAt w B o v) : OutRd w o v := by
  cases o with
  | none => exact h
  | some r =>
    obtain ⟨sa, sn, sc, ca, cc, hv, h1, h2, _⟩ := h
    have hl : r.cm.cells.length = 16 := by have := h2.1; simpa [nats_len] using this
    refine ⟨sa, sn, sc, ca, cc, hv, h1.ints, intsAt_of (B := B) ?_, hl⟩
    rw [toInts0_len, hl, ← nats_ints]; exact h2
theorem Ended.keep {B : Nat} {w w' : World} {mv : Value} {r : Rs} {pr cb : Nat} {sv : Value} (h : Ended B w mv r pr cb sv) (hh : ∀ k, B ≤ k → k < w.heap.size → w'.heap[k]? = w.heap[k]?) : Ended B w' mv r pr cb sv :=
  ⟨h.1.same (hh _ h.2.2.2.1 h.1.lt), h.2.1.same (hh _ h.2.2.2.2.1 h.2.1.lt), h.2.2.1.same (fun k hk => hh k (h.2.2.1.lt hk).1 (h.2.2.1.lt hk).2), h.2.2.2⟩
def AnsRd (o : Option Rs) (w : World) (e : Ending) (w' : World) : Prop := ∃ v, e = .returned (.tuple #[v, .bool o.isSome]) ∧ OutRd w' o v ∧ Below w.heap.size w w'

theorem fits3 {fs : List Mf} {zs : List Int} (h : RunsOk fs zs) : zs.length ≤ 3 := by
  obtain ⟨hmo, _, hp⟩ := h
  have hP := (machPg_ok hmo).1
  have h1 := hmo.1.1
  have := hP.par (fs.length - 1) (by omega)
  have h2 : (machPg fs).par (fs.length - 1) = zs.length := by
    show (mfAt fs (fs.length - 1)).params.toNat = zs.length
    rw [← hp]; simp
  omega

theorem start_ok (w : World) (vb vo fl vcap : Nat) (fs : List Mf) (zs : List Int) (hm : MfsAt w (.slice (some ⟨vb, vo, none⟩) fl vcap) fs) (hfl : fl = fs.length) (hle : MfsLe fs) (hok : RunsOk fs zs) (b off n cap : Nat) (hs : InSrc w b off n cap zs) (T : Nat) (hT : T ≤ 200000) :
    Calls Tryd.prog 51 #[.agg #[.slice (some ⟨vb, vo, none⟩) fl vcap], .slice (some ⟨b, off, none⟩) n cap, .int .i64 (T : Int)] w (StartPost (.slice (some ⟨vb, vo, none⟩) fl vcap) (runOf (machPg fs) (fs.length - 1) (toNats zs) T) w) ∧ (runOf (machPg fs) (fs.length - 1) (toNats zs) T).cm.cells.length = 16 ∧ (runOf (machPg fs) (fs.length - 1) (toNats zs) T).cm.left ≤ T ∧ ((runOf (machPg fs) (fs.length - 1) (toNats zs) T).over = true ↔ (runOf (machPg fs) (fs.length - 1) (toNats zs) T).en ≠ 0) := by
  have h3 := fits3 hok
  obtain ⟨hmo, hv, hp⟩ := hok
  obtain ⟨hP, hN⟩ := machPg_ok hmo
  have h1 : 1 ≤ fl := by rw [hfl]; exact hmo.1.1
  have hpar : (machPg fs).par (fl - 1) ≤ n := by
    show (mfAt fs (fl - 1)).params.toNat ≤ n
    rw [hfl, ← hp, hs.len]; simp
  have hlok := loop_ok hP (T + 1) (fl - 1) 0 (newLc (machPg fs) (fl - 1) (toNats zs)) (cm0 T) (by omega) (hP.start _ (by omega)) (newLc_ok _ _ _ (by rw [(hs.src hv).len]; exact hpar) (valsOk_nats hv).1) (cm0_ok T)
  rw [← hfl]
  refine ⟨start_any w vb vo fl vcap fs hm hfl h1 hP hN hle b off n cap (toNats zs) (hs.src hv) (valsOk_nats hv).1 hpar (by rw [← hs.len]; exact h3) T hT, hlok.1.cells, hlok.2.2, ?_⟩
  have hsm := hlok.2.1
  unfold runOf
  cases hr : loop (machPg fs) (T + 1) (fl - 1) 0 (newLc (machPg fs) (fl - 1) (toNats zs)) (cm0 T) with
  | ret v s => simp [Rs.over, Rs.en]
  | stop e s =>
    rw [hr] at hsm
    have := hsm.1
    simp only [Rs.over, Rs.en]
    exact ⟨fun _ => by omega, fun _ => trivial⟩

theorem endCells {B : Nat} {w : World} {mv : Value} {r : Rs} {pr cb : Nat} {sv : Value} (h : Ended B w mv r pr cb sv) :
    w.cell? ⟨pr, 1, none⟩ = some sv ∧ w.cell? ⟨pr, 2, none⟩ = some (.int .i64 (r.en : Int)) ∧ w.cell? ⟨pr, 3, none⟩ = some (.int .i64 (r.val : Int)) ∧ w.cell? ⟨pr, 4, none⟩ = some (.slice (some ⟨cb, 0, none⟩) 16 16) ∧ w.cell? ⟨pr, 5, none⟩ = some (.int .i64 (r.cm.left : Int)) := by
  refine ⟨?_, ?_, ?_, ?_, ?_⟩
  all_goals rw [h.1.cell]; rfl

set_option maxHeartbeats 2000000 in
theorem specRunMach (w : World) (vb vo fl vcap : Nat) (fs : List Mf) (zs : List Int) (hm : MfsAt w (.slice (some ⟨vb, vo, none⟩) fl vcap) fs) (hfl : fl = fs.length) (hle : MfsLe fs) (b off n cap : Nat) (hs : InSrc w b off n cap zs) (steps : Int) :
    Calls Tryd.prog 23 #[.agg #[.slice (some ⟨vb, vo, none⟩) fl vcap], .slice (some ⟨b, off, none⟩) n cap, .int .i64 steps] w (AnsRd (runAns fs zs steps) w) := by
  have HMR := Lib.hid (fun w' (hb : Below w.heap.size w w') => fits_any w' _ _ fs zs (hm.below hb) hle (hs.below hb).ints (by rw [hs.len]; have := hs.small; omega))
  have HRM := Lib.hid (fun w' (hb : Below w.heap.size w w') (hok : RunsOk fs zs) T (hT : T ≤ 200000) => start_ok w' vb vo fl vcap fs zs (hm.below hb) hfl hle hok b off n cap (hs.below hb) T hT)
  obtain ⟨pw, hpw⟩ : ∃ pw, inR 0 200000 steps = pw := ⟨_, rfl⟩
  have HW := Lib.hid (l1In_named steps 0 200000 pw hpw)
  have HPW := Lib.hid hpw
  clear hm hfl hle hs hpw
  unfold FitPost at HMR
  go_enter Tryd.func23, Tryd.ntmps23
  go_wp2_with (fail)
  go_at_call 50
  refine (HMR.out _ (below2 _ _ _)).mono ?_
  rintro e w1 ⟨q, rfl, hq, hb⟩
  obtain ⟨hc, hf⟩ := bcell hb
  have p0 : w1.cell? ⟨w.heap.size, 0, none⟩ = some (.slice (some ⟨vb, vo, none⟩) fl vcap) := by rw [hc _ _ (by simp; omega)]; simp [go_sem]
  have t0 : w1.cell? ⟨w.heap.size + 1, 0, none⟩ = some (.slice none 0 0) := by rw [hc _ _ (by simp)]; simp [go_sem]
  have t1 : w1.cell? ⟨w.heap.size + 1, 1, none⟩ = some (.int .i64 0) := by rw [hc _ _ (by simp)]; simp [go_sem]
  have t2 : w1.cell? ⟨w.heap.size + 1, 2, none⟩ = some (.int .i64 0) := by rw [hc _ _ (by simp)]; simp [go_sem]
  have t3 : w1.cell? ⟨w.heap.size + 1, 3, none⟩ = some (.slice none 0 0) := by rw [hc _ _ (by simp)]; simp [go_sem]
  have f0 : w1.frozen? ⟨w.heap.size + 1, 0, none⟩ = false := by rw [hf _ _ (by simp)]; simp [go_sem]
  have f1 : w1.frozen? ⟨w.heap.size + 1, 1, none⟩ = false := by rw [hf _ _ (by simp)]; simp [go_sem]
  have f2 : w1.frozen? ⟨w.heap.size + 1, 2, none⟩ = false := by rw [hf _ _ (by simp)]; simp [go_sem]
  have f3 : w1.frozen? ⟨w.heap.size + 1, 3, none⟩ = false := by rw [hf _ _ (by simp)]; simp [go_sem]
  have hB := (below2 w (.cells #[.slice (some ⟨vb, vo, none⟩) fl vcap] 25) (.cells #[.slice none 0 0, .int .i64 0, .int .i64 0, .slice none 0 0] 31)).trans (hb.mono (by simp; omega))
  have hsz : w.heap.size + 2 ≤ w1.heap.size := by have := hb.size; simp at this; omega
  have HB := Lib.hid hB
  have HQ := Lib.hid hq
  clear hb hB hq hc hf HMR
  cases q with
  | false =>
    have hno : runAns fs zs steps = none := if_neg fun h => by have := HQ.out.2 h.1; cases this
    have HNO := Lib.hid hno
    clear hno HRM HW HQ
    go_wp2_with (fail)
    refine bodyPost_ret (v := .tuple #[.agg #[.slice none 0 0, .int .i64 0, .int .i64 0, .slice none 0 0], .bool false]) (by simp [results, Tryd.results23, go_sem, t0, t1, t2, t3]) rfl ?_
    rw [HNO.out]
    exact ⟨_, rfl, rfl, (((HB.out.setCell (p := ⟨w.heap.size + 1, 0, none⟩) (by simp only []; omega) _).setCell (p := ⟨w.heap.size + 1, 1, none⟩) (by simp only []; omega) _).setCell (p := ⟨w.heap.size + 1, 2, none⟩) (by simp only []; omega) _).setCell (p := ⟨w.heap.size + 1, 3, none⟩) (by simp only []; omega) _⟩
  | true =>
    have hok : RunsOk fs zs := HQ.out.1 rfl
    have HOK := Lib.hid hok
    clear hok HQ
    go_wp2_with (fail)
    go_at_call 61
    refine (HW.out _).mono ?_
    rintro e _ ⟨rfl, rfl⟩
    cases pw with
    | false =>
      have hno : runAns fs zs steps = none := if_neg fun h => by
        have h2 : inR 0 200000 steps = true := inR_iff.2 h.2
        have := HPW.out; rw [h2] at this; cases this
      have HNO := Lib.hid hno
      clear hno HRM HW HOK
      go_wp2_with (fail)
      refine bodyPost_ret (v := .tuple #[.agg #[.slice none 0 0, .int .i64 0, .int .i64 0, .slice none 0 0], .bool false]) (by simp [results, Tryd.results23, go_sem, t0, t1, t2, t3]) rfl ?_
      rw [HNO.out]
      exact ⟨_, rfl, rfl, (((HB.out.setCell (p := ⟨w.heap.size + 1, 0, none⟩) (by simp only []; omega) _).setCell (p := ⟨w.heap.size + 1, 1, none⟩) (by simp only []; omega) _).setCell (p := ⟨w.heap.size + 1, 2, none⟩) (by simp only []; omega) _).setCell (p := ⟨w.heap.size + 1, 3, none⟩) (by simp only []; omega) _⟩
    | true =>
      have hst := inR_iff.1 HPW.out
      obtain ⟨T, hT⟩ : ∃ T : Nat, steps = T := ⟨steps.toNat, by omega⟩
      have hans : runAns fs zs steps = some (runOf (machPg fs) (fs.length - 1) (toNats zs) T) := by
        unfold runAns
        rw [if_pos ⟨HOK.out, hst.1, hst.2⟩, hT, Int.toNat_natCast]
      have HRT := Lib.hid (HRM.out w1 HB.out HOK.out T (by omega))
      subst hT
      generalize runOf (machPg fs) (fs.length - 1) (toNats zs) T = r at *
      have HANS := Lib.hid hans
      clear hans HRM HW HOK hst
      go_wp2_with (fail)
      go_at_call 51
      refine HRT.out.1.mono ?_
      rintro e w2 ⟨pr, cb, sv, rfl, hE, hb2⟩
      obtain ⟨hc, hf⟩ := bcell hb2
      have u0 : w2.cell? ⟨w.heap.size + 1, 0, none⟩ = some (.slice none 0 0) := by rw [hc _ _ (by omega)]; exact t0
      have u1 : w2.cell? ⟨w.heap.size + 1, 1, none⟩ = some (.int .i64 0) := by rw [hc _ _ (by omega)]; exact t1
      have u2 : w2.cell? ⟨w.heap.size + 1, 2, none⟩ = some (.int .i64 0) := by rw [hc _ _ (by omega)]; exact t2
      have u3 : w2.cell? ⟨w.heap.size + 1, 3, none⟩ = some (.slice none 0 0) := by rw [hc _ _ (by omega)]; exact t3
      have g0 : w2.frozen? ⟨w.heap.size + 1, 0, none⟩ = false := by rw [hf _ _ (by omega)]; exact f0
      have g1 : w2.frozen? ⟨w.heap.size + 1, 1, none⟩ = false := by rw [hf _ _ (by omega)]; exact f1
      have g2 : w2.frozen? ⟨w.heap.size + 1, 2, none⟩ = false := by rw [hf _ _ (by omega)]; exact f2
      have g3 : w2.frozen? ⟨w.heap.size + 1, 3, none⟩ = false := by rw [hf _ _ (by omega)]; exact f3
      have hsz2 := hb2.size
      obtain ⟨x1, x2, x3, x4, _⟩ := endCells hE
      obtain ⟨sa, sc, hform⟩ := saidForm hE.2.2.1
      obtain ⟨sn, hsn⟩ : ∃ sn, sn = r.cm.said.length := ⟨_, rfl⟩
      rw [← hsn] at hform
      subst hform
      have HE := Lib.hid hE
      have HB2 := Lib.hid (HB.out.trans (hb2.mono HB.out.size))
      have hlt : w.heap.size + 1 < w2.heap.size := by omega
      have h16 := HRT.out.2.1
      have H16 := Lib.hid h16
      clear hE hb2 hc hf t0 t1 t2 t3 f0 f1 f2 f3 p0 HRT hsn h16
      go_wp2_with (fail)
      refine bodyPost_ret (v := .tuple #[.agg #[.slice sa sn sc, .int .i64 (r.en : Int), .int .i64 (r.val : Int), .slice (some ⟨cb, 0, none⟩) 16 16], .bool true]) (by simp [results, Tryd.results23, go_sem, u0, u1, u2, u3]) rfl ?_
      rw [HANS.out]
      have hh : ∀ k, w1.heap.size ≤ k → k < w2.heap.size → ((((w2.setCell ⟨w.heap.size + 1, 0, none⟩ (.slice sa sn sc)).setCell ⟨w.heap.size + 1, 1, none⟩ (.int .i64 (r.en : Int))).setCell ⟨w.heap.size + 1, 2, none⟩ (.int .i64 (r.val : Int))).setCell ⟨w.heap.size + 1, 3, none⟩ (.slice (some ⟨cb, 0, none⟩) 16 16)).heap[k]? = w2.heap[k]? := fun k h1 h2 => by
        have e1 : k ≠ w.heap.size + 1 := by omega
        rw [Below.heap_setCell _ _ _ _ e1, Below.heap_setCell _ _ _ _ e1, Below.heap_setCell _ _ _ _ e1, Below.heap_setCell _ _ _ _ e1]
      have hE' := HE.out.keep hh
      have h16 := H16.out
      have hci := hE'.2.1.ints (cap := 16)
      rw [h16] at hci
      exact ⟨_, rfl, ⟨sa, sn, sc, some ⟨cb, 0, none⟩, 16, rfl, hE'.2.2.1.ints, hci, h16⟩, (((HB2.out.setCell (p := ⟨w.heap.size + 1, 0, none⟩) (by simp only []; omega) _).setCell (p := ⟨w.heap.size + 1, 1, none⟩) (by simp only []; omega) _).setCell (p := ⟨w.heap.size + 1, 2, none⟩) (by simp only []; omega) _).setCell (p := ⟨w.heap.size + 1, 3, none⟩) (by simp only []; omega) _⟩

set_option maxHeartbeats 2000000 in
theorem specMachSteps (w : World) (vb vo fl vcap : Nat) (fs : List Mf) (zs : List Int) (hm : MfsAt w (.slice (some ⟨vb, vo, none⟩) fl vcap) fs) (hfl : fl = fs.length) (hle : MfsLe fs) (b off n cap : Nat) (hs : InSrc w b off n cap zs) :
    Calls Tryd.prog 14 #[.agg #[.slice (some ⟨vb, vo, none⟩) fl vcap], .slice (some ⟨b, off, none⟩) n cap] w fun e w' => e = .returned (.int .i64 (stepsAns fs zs)) ∧ Below w.heap.size w w' := by
  have HMR := Lib.hid (fun w' (hb : Below w.heap.size w w') => fits_any w' _ _ fs zs (hm.below hb) hle (hs.below hb).ints (by rw [hs.len]; have := hs.small; omega))
  have HRM := Lib.hid (fun w' (hb : Below w.heap.size w w') (hok : RunsOk fs zs) => start_ok w' vb vo fl vcap fs zs (hm.below hb) hfl hle hok b off n cap (hs.below hb) 200000 (Nat.le_refl _))
  clear hm hfl hle hs
  unfold FitPost at HMR
  obtain ⟨ans, hans⟩ : ∃ ans, ans = stepsAns fs zs := ⟨_, rfl⟩
  rw [← hans]
  have HANS := Lib.hid hans
  clear hans
  go_enter Tryd.func14, Tryd.ntmps14
  go_wp2_with (fail)
  go_at_call 50
  refine (HMR.out _ (below1 _ _)).mono ?_
  rintro e w1 ⟨q, rfl, hq, hb⟩
  have p0 : w1.cell? ⟨w.heap.size, 0, none⟩ = some (.slice (some ⟨vb, vo, none⟩) fl vcap) := by rw [hb.cell (p := ⟨w.heap.size, 0, none⟩) (by simp)]; simp [go_sem]
  have HB := Lib.hid ((below1 w (.cells #[.slice (some ⟨vb, vo, none⟩) fl vcap] 25)).trans (hb.mono (by simp)))
  have HQ := Lib.hid hq
  clear hb hq HMR
  cases q with
  | false =>
    have hno : ans = -1 := by rw [HANS.out]; exact if_neg fun h => by have := HQ.out.2 h; cases this
    subst hno
    clear HRM HQ
    go_wp2_with (fail)
    go_ret
    exact ⟨rfl, HB.out⟩
  | true =>
    have hok : RunsOk fs zs := HQ.out.1 rfl
    have ha : ans = if (runOf (machPg fs) (fs.length - 1) (toNats zs) 200000).en = 3 then -1 else ((200000 - (runOf (machPg fs) (fs.length - 1) (toNats zs) 200000).cm.left : Nat) : Int) := by
      rw [HANS.out]; exact if_pos hok
    have HRT := Lib.hid (HRM.out w1 HB.out hok)
    generalize runOf (machPg fs) (fs.length - 1) (toNats zs) 200000 = r at *
    have HA := Lib.hid ha
    clear hok ha HRM HQ HANS
    go_wp2_with (fail)
    go_at_call 51
    refine HRT.out.1.mono ?_
    rintro e w2 ⟨pr, cb, sv, rfl, hE, hb2⟩
    obtain ⟨_, x2, _, _, x5⟩ := endCells hE
    have hlt := HRT.out.2.2.1
    have HB2 := Lib.hid (HB.out.trans (hb2.mono HB.out.size))
    clear hE hb2 HRT p0
    by_cases h3 : r.en = 3
    · have e1 : (((r.en : Nat) : Int) == 3) = true := by rw [h3]; rfl
      have hans : ans = -1 := by rw [HA.out, if_pos h3]
      subst hans
      clear h3 HA
      go_wp2_with (fail)
      go_ret
      exact ⟨rfl, HB2.out⟩
    · have e1 : (((r.en : Nat) : Int) == 3) = false := by simp; omega
      have hans : ans = ((200000 - r.cm.left : Nat) : Int) := by rw [HA.out, if_neg h3]
      obtain ⟨lf, hlf⟩ : ∃ lf, lf = r.cm.left := ⟨_, rfl⟩
      rw [← hlf] at hans x5 hlt
      subst hans
      clear h3 HA hlf
      go_wp2_with (fail)
      go_ret
      exact ⟨by rw [show ((200000 - lf : Nat) : Int) = 200000 - (lf : Int) by omega]; rfl, HB2.out⟩

end Go.Proofs.YtbdbmmdnidonjaaDoor
