/- spec's run of a program of the machine: l22Start. spec.RunMach and spec.MachSteps answer what impl's answer. -/
import Derived.Test.YtbdbmmdnidonjaaDoorJj
import Derived.Test.YtbdbmmdnidonjaaDoorJl
set_option linter.unusedVariables false
set_option linter.unusedSimpArgs false
set_option maxRecDepth 100000
namespace Go.Proofs.YtbdbmmdnidonjaaDoor
open Go.RowKit

def Rs.over : Rs → Bool
  | .ret _ _ => false
  | .stop _ _ => true

/-- a run that has ended lies at pr -/
def Ended (B : Nat) (w : World) (mv : Value) (r : Rs) (pr cb : Nat) (sv : Value) : Prop :=
  Blk w pr (mkRun mv sv r.en r.val cb r.cm.left r.over) ∧ Blk w cb (nats r.cm.cells) ∧ Said w B sv r.cm.said ∧ B ≤ pr ∧ B ≤ cb ∧ pr ≠ cb
theorem Ended.below {B : Nat} {w w' : World} {mv : Value} {r : Rs} {pr cb : Nat} {sv : Value} (h : Ended B w mv r pr cb sv) (hb : Below w.heap.size w w') : Ended B w' mv r pr cb sv :=
  ⟨h.1.below hb, h.2.1.below hb, h.2.2.1.below hb, h.2.2.2⟩
def StartPost (mv : Value) (r : Rs) (w : World) (e : Ending) (w' : World) : Prop :=
  ∃ pr cb sv, e = .returned (.pointer (some ⟨pr, 0, none⟩)) ∧ Ended w.heap.size w' mv r pr cb sv ∧ Below w.heap.size w w'

def RunNew (B : Nat) (mv : Value) (T : Nat) (wf : World) (a : Value) (wx : World) : Prop :=
  ∃ pr cb sv, a = Value.pointer (some ⟨pr, 0, none⟩) ∧ RunAt B wx pr cb mv none (cm0 T) sv ∧ Below wf.heap.size wf wx

theorem runNew_of {B : Nat} {mv : Value} {T : Nat} {wf X : World} {q0 q1 q2 : Nat} {t : TypeId} (hB : B ≤ wf.heap.size) (h0 : q0 = X.heap.size) (hb : Below wf.heap.size wf X) (h1 : X.ownsRow B 3 1 (.slice (some ⟨q1, 0, none⟩) 0 0) 0 []) (h2 : Blk X q2 (nats (List.replicate 16 0))) (g2 : B ≤ q2) (d : q1 ≠ q2) :
    RunNew B mv T wf (Value.pointer (some ⟨q0, 0, none⟩)) (X.alloc (.cells #[mv, .slice (some ⟨q1, 0, none⟩) 0 0, .int .i64 0, .int .i64 0, .slice (some ⟨q2, 0, none⟩) 16 16, .int .i64 (T : Int), .bool false] t)).drew := by
  have l1 := (World.ownsRow.lt h1 q1 rfl).2
  have l2 := h2.lt
  have hsz := hb.size
  refine ⟨q0, q2, _, rfl, ⟨Blk.newAt h0 rfl, h2.alloc _, Said.alloc (xs := []) h1 _, by omega, ?_, ?_, by omega, g2⟩, (hb.alloc hsz _).drew⟩
  · simp only [Value.ownBlock, ne_eq, Option.some.injEq]; omega
  · simp only [Value.ownBlock, ne_eq, Option.some.injEq]; exact d

theorem own_empty {X : World} {B q : Nat} (h : q = X.heap.size) (hB : B ≤ X.heap.size) : (X.alloc (.cells #[] 3)).ownsRow B 3 1 (.slice (some ⟨q, 0, none⟩) 0 0) 0 [] := by
  subst h
  exact World.ownsRow_lit X #[] 0 hB (by decide) rfl

set_option maxHeartbeats 4000000 in
theorem start_any (w : World) (vb vo fl vcap : Nat) (fs : List Mf) (hm : MfsAt w (.slice (some ⟨vb, vo, none⟩) fl vcap) fs) (hfl : fl = fs.length) (h1 : 1 ≤ fl) (hP : PgOk (machPg fs) fs.length) (hN : MfsNat fs) (hle : MfsLe fs)
    (b off n cap : Nat) (inp : List Nat) (hsrc : SrcAt w b off n cap inp) (hin : Small inp) (hpar : (machPg fs).par (fl - 1) ≤ n) (hn3 : n ≤ 3) (T : Nat) (hT : T ≤ 200000) :
    Calls Tryd.prog 51 #[.agg #[.slice (some ⟨vb, vo, none⟩) fl vcap], .slice (some ⟨b, off, none⟩) n cap, .int .i64 (T : Int)] w (StartPost (.slice (some ⟨vb, vo, none⟩) fl vcap) (runOf (machPg fs) (fl - 1) inp T) w) := by
  have hok := loop_ok hP (T + 1) (fl - 1) 0 (newLc (machPg fs) (fl - 1) inp) (cm0 T) (by omega) (hP.start _ (by omega)) (newLc_ok _ _ _ (by rw [hsrc.len]; exact hpar) hin) (cm0_ok T)
  have HCALL : Hid (∀ w' pr cb sv, Below w.heap.size w w' → RunAt w.heap.size w' pr cb (.slice (some ⟨vb, vo, none⟩) fl vcap) none (cm0 T) sv →
      Calls Tryd.prog 81 #[.pointer (some ⟨pr, 0, none⟩), .int .i64 ((fl - 1 : Nat) : Int), .slice (some ⟨b, off, none⟩) n cap] w' (SRunPost w.heap.size pr cb (.slice (some ⟨vb, vo, none⟩) fl vcap) sv (runOf (machPg fs) (fl - 1) inp T) w')) :=
    Lib.hid fun w' pr cb sv hb hR => call_any w _ fs hm hP hN hle (T + 1) w' pr cb T (cm0 T) sv (fl - 1) b off n cap inp (by show T < T + 1; omega) (by omega) hb hR (cm0_ok T) (hsrc.below hb) hin hpar hn3 (by show 0 + T ≤ T; omega) (by omega)
  generalize hrr : runOf (machPg fs) (fl - 1) inp T = r at *
  have hok' : CmOk r.cm := by rw [← hrr]; exact hok.1
  have HOK := Lib.hid hok'
  have hfl4 : fl ≤ 1048576 := by rw [hfl]; exact hle.1
  have hnn : (fl : Int) - 1 = ((fl - 1 : Nat) : Int) := by omega
  obtain ⟨i0, hi, hz0, hz1, hz2⟩ := info_parts info_int
  have hmk16 : ∀ w : World, (Instr.makeSlice 26 (.int .i64 16) (.int .i64 16)).run Tryd.prog w = .ok (.slice (some ⟨w.heap.size, 0, none⟩) 16 16) (w.alloc (.cells (madeCells (Value.int .i64 0).cells 16) 3)) := fun w => by
    have h := run_make (P := Tryd.prog) w 26 3 i0 (.int .i64 0) Tryd.underlying26 hi hz0 .i64 .i64 ((16 : Nat) : Int) ((16 : Nat) : Int) (by omega) (by omega) (by rw [hz2]; omega) (by omega)
    rw [hz1, Nat.mul_one] at h
    simpa using h
  have HNN := Lib.hid hnn
  clear hm hfl hP hN hle hsrc hin hpar hok hok' hrr hi hz0 hz1 hz2 hnn
  go_enter Tryd.func51, Tryd.ntmps51
  go_upto_region 1 with (fail)
  generalize hwf : w.alloc _ = wf
  have hbf : Below w.heap.size w wf := by rw [← hwf]; exact below1 _ _
  have hszf : wf.heap.size = w.heap.size + 1 := by rw [← hwf]; simp
  have p0 : wf.cell? ⟨w.heap.size, 0, none⟩ = some (.slice (some ⟨vb, vo, none⟩) fl vcap) := by rw [← hwf]; simp [go_sem]
  have HBF := Lib.hid hbf
  clear hwf hbf
  go_cut [7] from 9 to 15 (fun a wx => RunNew w.heap.size (.slice (some ⟨vb, vo, none⟩) fl vcap) T wf a wx)
  case first =>
    clear HCALL HOK HBF h1 hfl4 hn3 hT HNN
    go_region_law (first | fail)
    all_goals go_wp2_with (fail)
    all_goals go_meet
    all_goals refine runNew_of ?_ ?_ ?_ ?_ ?_ ?_ ?_
    all_goals first
      | omega
      | (simp; done)
      | (simp; omega)
      | ((repeat (first | exact Blk.newAt (by first | omega | (simp; omega)) (made_nats _) | refine Blk.alloc ?_ _)); done)
      | ((repeat (first | exact own_empty (by first | omega | (simp; done) | (simp; omega)) (by first | omega | (simp; omega)) | refine World.ownsRow.alloc ?_ _)); done)
      | ((repeat' (first | exact Below.refl _ _ | assumption | (refine Below.setCell ?_ ?_ _) | (refine Below.alloc ?_ ?_ _) | (refine belowDrewN ?_ _) | omega | (simp; done) | (simp; omega))); done)
  case rest =>
    obtain ⟨pr, cb, sv, rfl, hR, hbx⟩ := hcut
    have hbwc : Below w.heap.size w wc := HBF.out.trans (hbx.mono HBF.out.size)
    have q0 : wc.cell? ⟨w.heap.size, 0, none⟩ = some (.slice (some ⟨vb, vo, none⟩) fl vcap) := by rw [hbx.cell (p := ⟨w.heap.size, 0, none⟩) (by simp only []; omega)]; exact p0
    have HCL := Lib.hid (HCALL.out wc pr cb sv hbwc hR)
    have HR := Lib.hid hR
    have HBW := Lib.hid hbwc
    have hnn := HNN.out
    clear hR hbx hbwc HCALL p0 hmk16
    go_wp2_with (fail)
    go_at_call 81
    refine HCL.out.mono ?_
    rintro e w2 hpost
    have hBw : ∀ sv2 : Value, Fr [pr, cb] sv wc sv2 w2 → Below w.heap.size w w2 := fun _ hF =>
      HBW.out.trans (hF.below_of HBW.out.size (fun k hk => by
        have e1 := HR.out.gp; have e2 := HR.out.gc
        simp at hk; rcases hk with h | h <;> omega) (fun k hk => (HR.out.said.lt hk).1))
    have HBw2 := Lib.hid hBw
    clear hBw HCL hnn HNN
    cases r with
    | ret v s2 =>
      obtain ⟨sv2, rfl, hR2, hF⟩ := hpost
      have hb2 := HBw2.out _ hF
      obtain ⟨_, _, _, c3, _, _, c6, cf⟩ := runCells hR2
      have f3 := cf 3
      simp only [Option.isSome_none] at c6
      have HR2 := Lib.hid hR2
      have HB2 := Lib.hid hb2
      clear hR2 hb2 hF cf HBw2
      go_wp2_with (fail)
      go_ret
      have hR2 := HR2.out
      refine ⟨pr, cb, sv2, rfl, ⟨hR2.blk.set 3 _, hR2.cells.other (fun e => hR2.ne e.symm) _, hR2.said.set hR2.sp _, hR2.gp, hR2.gc, hR2.ne⟩, HB2.out.setCell (p := ⟨pr, 3, none⟩) hR2.gp _⟩
    | stop en s2 =>
      obtain ⟨sv2, rfl, hR2, hF⟩ := hpost
      have hb2 := HBw2.out _ hF
      obtain ⟨_, _, _, _, _, _, c6, _⟩ := runCells hR2
      simp only [Option.isSome_some] at c6
      have HR2 := Lib.hid hR2
      have HB2 := Lib.hid hb2
      clear hR2 hb2 hF HBw2
      go_wp2_with (fail)
      go_ret
      have hR2 := HR2.out
      exact ⟨pr, cb, sv2, rfl, ⟨hR2.blk, hR2.cells, hR2.said, hR2.gp, hR2.gc, hR2.ne⟩, HB2.out⟩

end Go.Proofs.YtbdbmmdnidonjaaDoor

set_option maxRecDepth 100000
namespace Go.Proofs.YtbdbmmdnidonjaaDoor
open Go.RowKit

def toInts0 (xs : List Nat) : List Int := xs.map fun (n : Nat) => (n : Int)
theorem toInts0_len (xs : List Nat) : (toInts0 xs).length = xs.length := by simp [toInts0]
theorem nats_ints (xs : List Nat) : nats xs = ints (toInts0 xs) := by simp [nats, ints, toInts0]
theorem toInts0_get {xs : List Nat} {i : Nat} (h : i < xs.length) : (toInts0 xs).getD i 0 = ((xs.getD i 0 : Nat) : Int) := by
  simp [toInts0, List.getD_eq_getElem?_getD, List.getElem?_eq_getElem h]
theorem Blk.ints {w : World} {p cap : Nat} {xs : List Nat} (h : Blk w p (nats xs)) : IntsAt w (.slice (some ⟨p, 0, none⟩) xs.length cap) (toInts0 xs) :=
  ⟨_, cap, by rw [toInts0_len], fun i hi => ⟨p, 0, rfl, by rw [toInts0_len] at hi; rw [Nat.zero_add, h.cell, nats_get hi, toInts0_get hi]⟩⟩
theorem Said.ints {w : World} {B : Nat} {sv : Value} {xs : List Nat} (h : Said w B sv xs) : IntsAt w sv (toInts0 xs) := intsAt_of (by
  unfold Said at h
  rw [nats_ints] at h
  rw [toInts0_len]; exact h)

/-- an outcome that can be read -/
def OutRd (w : World) (o : Option Rs) (v : Value) : Prop :=
  match o with
  | none => v = .agg #[.slice none 0 0, .int .i64 0, .int .i64 0, .slice none 0 0]
  | some r => ∃ sa sn sc ca cc, v = .agg #[.slice sa sn sc, .int .i64 (r.en : Int), .int .i64 (r.val : Int), .slice ca 16 cc] ∧ IntsAt w (.slice sa sn sc) (toInts0 r.cm.said) ∧ IntsAt w (.slice ca 16 cc) (toInts0 r.cm.cells) ∧ r.cm.cells.length = 16
theorem OutRd.below {w w' : World} {o : Option Rs} {v : Value} (h : OutRd w o v) (hb : Below w.heap.size w w') : OutRd w' o v := by
  cases o with
  | none => exact h
  | some r =>
    obtain ⟨sa, sn, sc, ca, cc, hv, h1, h2, h3⟩ := h
    exact ⟨sa, sn, sc, ca, cc, hv, h1.below hb, h2.below hb, h3⟩
theorem OutAt.read {w : World} {B : Nat} {o : Option Rs} {v : Value} (h : OutAt w B o v) : OutRd w o v := by
  cases o with
  | none => exact h
  | some r =>
    obtain ⟨sa, sn, sc, ca, cc, hv, h1, h2, _⟩ := h
    have hl : r.cm.cells.length = 16 := by have := h2.1; simpa [nats_len] using this
    refine ⟨sa, sn, sc, ca, cc, hv, h1.ints, intsAt_of (B := B) ?_, hl⟩
    rw [toInts0_len, hl, ← nats_ints]; exact h2
theorem Ended.keep {B : Nat} {w w' : World} {mv : Value} {r : Rs} {pr cb : Nat} {sv : Value} (h : Ended B w mv r pr cb sv) (hh : ∀ k, B ≤ k → k < w.heap.size → w'.heap[k]? = w.heap[k]?) : Ended B w' mv r pr cb sv :=
  ⟨h.1.same (hh _ h.2.2.2.1 h.1.lt), h.2.1.same (hh _ h.2.2.2.2.1 h.2.1.lt), h.2.2.1.same (fun k hk => hh k (h.2.2.1.lt hk).1 (h.2.2.1.lt hk).2), h.2.2.2⟩
def AnsRd (o : Option Rs) (w : World) (e : Ending) (w' : World) : Prop := ∃ v, e = .returned (.tuple #[v, .bool o.isSome]) ∧ OutRd w' o v ∧ Below w.heap.size w w'

theorem fits3 {fs : List Mf} {zs : List Int} (h : RunsOk fs zs) : zs.length ≤ 3 := by
  obtain ⟨hmo, _, hp⟩ := h
  have hP := (machPg_ok hmo).1
  have h1 := hmo.1.1
  have := hP.par (fs.length - 1) (by omega)
  have h2 : (machPg fs).par (fs.length - 1) = zs.length := by
    show (mfAt fs (fs.length - 1)).params.toNat = zs.length
    rw [← hp]; simp
  omega

theorem start_ok (w : World) (vb vo fl vcap : Nat) (fs : List Mf) (zs : List Int) (hm : MfsAt w (.slice (some ⟨vb, vo, none⟩) fl vcap) fs) (hfl : fl = fs.length) (hle : MfsLe fs) (hok : RunsOk fs zs) (b off n cap : Nat) (hs : InSrc w b off n cap zs) (T : Nat) (hT : T ≤ 200000) :
    Calls Tryd.prog 51 #[.agg #[.slice (some ⟨vb, vo, none⟩) fl vcap], .slice (some ⟨b, off, none⟩) n cap, .int .i64 (T : Int)] w (StartPost (.slice (some ⟨vb, vo, none⟩) fl vcap) (runOf (machPg fs) (fs.length - 1) (toNats zs) T) w) ∧ (runOf (machPg fs) (fs.length - 1) (toNats zs) T).cm.cells.length = 16 ∧ (runOf (machPg fs) (fs.length - 1) (toNats zs) T).cm.left ≤ T ∧ ((runOf (machPg fs) (fs.length - 1) (toNats zs) T).over = true ↔ (runOf (machPg fs) (fs.length - 1) (toNats zs) T).en ≠ 0) := by
  have h3 := fits3 hok
  obtain ⟨hmo, hv, hp⟩ := hok
  obtain ⟨hP, hN⟩ := machPg_ok hmo
  have h1 : 1 ≤ fl := by rw [hfl]; exact hmo.1.1
  have hpar : (machPg fs).par (fl - 1) ≤ n := by
    show (mfAt fs (fl - 1)).params.toNat ≤ n
    rw [hfl, ← hp, hs.len]; simp
  have hlok := loop_ok hP (T + 1) (fl - 1) 0 (newLc (machPg fs) (fl - 1) (toNats zs)) (cm0 T) (by omega) (hP.start _ (by omega)) (newLc_ok _ _ _ (by rw [(hs.src hv).len]; exact hpar) (valsOk_nats hv).1) (cm0_ok T)
  rw [← hfl]
  refine ⟨start_any w vb vo fl vcap fs hm hfl h1 hP hN hle b off n cap (toNats zs) (hs.src hv) (valsOk_nats hv).1 hpar (by rw [← hs.len]; exact h3) T hT, hlok.1.cells, hlok.2.2, ?_⟩
  have hsm := hlok.2.1
  unfold runOf
  cases hr : loop (machPg fs) (T + 1) (fl - 1) 0 (newLc (machPg fs) (fl - 1) (toNats zs)) (cm0 T) with
  | ret v s => simp [Rs.over, Rs.en]
  | stop e s =>
    rw [hr] at hsm
    have := hsm.1
    simp only [Rs.over, Rs.en]
    exact ⟨fun _ => by omega, fun _ => trivial⟩

theorem endCells {B : Nat} {w : World} {mv : Value} {r : Rs} {pr cb : Nat} {sv : Value} (h : Ended B w mv r pr cb sv) :
    w.cell? ⟨pr, 1, none⟩ = some sv ∧ w.cell? ⟨pr, 2, none⟩ = some (.int .i64 (r.en : Int)) ∧ w.cell? ⟨pr, 3, none⟩ = some (.int .i64 (r.val : Int)) ∧ w.cell? ⟨pr, 4, none⟩ = some (.slice (some ⟨cb, 0, none⟩) 16 16) ∧ w.cell? ⟨pr, 5, none⟩ = some (.int .i64 (r.cm.left : Int)) := by
  refine ⟨?_, ?_, ?_, ?_, ?_⟩
  all_goals rw [h.1.cell]; rfl

set_option maxHeartbeats 2000000 in
theorem specRunMach (w : World) (vb vo fl vcap : Nat) (fs : List Mf) (zs : List Int) (hm : MfsAt w (.slice (some ⟨vb, vo, none⟩) fl vcap) fs) (hfl : fl = fs.length) (hle : MfsLe fs) (b off n cap : Nat) (hs : InSrc w b off n cap zs) (steps : Int) :
    Calls Tryd.prog 23 #[.agg #[.slice (some ⟨vb, vo, none⟩) fl vcap], .slice (some ⟨b, off, none⟩) n cap, .int .i64 steps] w (AnsRd (runAns fs zs steps) w) := by
  have HMR := Lib.hid (fun w' (hb : Below w.heap.size w w') => fits_any w' _ _ fs zs (hm.below hb) hle (hs.below hb).ints (by rw [hs.len]; have := hs.small; omega))
  have HRM := Lib.hid (fun w' (hb : Below w.heap.size w w') (hok : RunsOk fs zs) T (hT : T ≤ 200000) => start_ok w' vb vo fl vcap fs zs (hm.below hb) hfl hle hok b off n cap (hs.below hb) T hT)
  obtain ⟨pw, hpw⟩ : ∃ pw, inR 0 200000 steps = pw := ⟨_, rfl⟩
  have HW := Lib.hid (l1In_named steps 0 200000 pw hpw)
  have HPW := Lib.hid hpw
  clear hm hfl hle hs hpw
  unfold FitPost at HMR
  go_enter Tryd.func23, Tryd.ntmps23
  go_wp2_with (fail)
  go_at_call 50
  refine (HMR.out _ (below2 _ _ _)).mono ?_
  rintro e w1 ⟨q, rfl, hq, hb⟩
  obtain ⟨hc, hf⟩ := bcell hb
  have p0 : w1.cell? ⟨w.heap.size, 0, none⟩ = some (.slice (some ⟨vb, vo, none⟩) fl vcap) := by rw [hc _ _ (by simp; omega)]; simp [go_sem]
  have t0 : w1.cell? ⟨w.heap.size + 1, 0, none⟩ = some (.slice none 0 0) := by rw [hc _ _ (by simp)]; simp [go_sem]
  have t1 : w1.cell? ⟨w.heap.size + 1, 1, none⟩ = some (.int .i64 0) := by rw [hc _ _ (by simp)]; simp [go_sem]
  have t2 : w1.cell? ⟨w.heap.size + 1, 2, none⟩ = some (.int .i64 0) := by rw [hc _ _ (by simp)]; simp [go_sem]
  have t3 : w1.cell? ⟨w.heap.size + 1, 3, none⟩ = some (.slice none 0 0) := by rw [hc _ _ (by simp)]; simp [go_sem]
  have f0 : w1.frozen? ⟨w.heap.size + 1, 0, none⟩ = false := by rw [hf _ _ (by simp)]; simp [go_sem]
  have f1 : w1.frozen? ⟨w.heap.size + 1, 1, none⟩ = false := by rw [hf _ _ (by simp)]; simp [go_sem]
  have f2 : w1.frozen? ⟨w.heap.size + 1, 2, none⟩ = false := by rw [hf _ _ (by simp)]; simp [go_sem]
  have f3 : w1.frozen? ⟨w.heap.size + 1, 3, none⟩ = false := by rw [hf _ _ (by simp)]; simp [go_sem]
  have hB := (below2 w (.cells #[.slice (some ⟨vb, vo, none⟩) fl vcap] 25) (.cells #[.slice none 0 0, .int .i64 0, .int .i64 0, .slice none 0 0] 31)).trans (hb.mono (by simp; omega))
  have hsz : w.heap.size + 2 ≤ w1.heap.size := by have := hb.size; simp at this; omega
  have HB := Lib.hid hB
  have HQ := Lib.hid hq
  clear hb hB hq hc hf HMR
  cases q with
  | false =>
    have hno : runAns fs zs steps = none := if_neg fun h => by have := HQ.out.2 h.1; cases this
    have HNO := Lib.hid hno
    clear hno HRM HW HQ
    go_wp2_with (fail)
    refine bodyPost_ret (v := .tuple #[.agg #[.slice none 0 0, .int .i64 0, .int .i64 0, .slice none 0 0], .bool false]) (by simp [results, Tryd.results23, go_sem, t0, t1, t2, t3]) rfl ?_
    rw [HNO.out]
    exact ⟨_, rfl, rfl, (((HB.out.setCell (p := ⟨w.heap.size + 1, 0, none⟩) (by simp only []; omega) _).setCell (p := ⟨w.heap.size + 1, 1, none⟩) (by simp only []; omega) _).setCell (p := ⟨w.heap.size + 1, 2, none⟩) (by simp only []; omega) _).setCell (p := ⟨w.heap.size + 1, 3, none⟩) (by simp only []; omega) _⟩
  | true =>
    have hok : RunsOk fs zs := HQ.out.1 rfl
    have HOK := Lib.hid hok
    clear hok HQ
    go_wp2_with (fail)
    go_at_call 61
    refine (HW.out _).mono ?_
    rintro e _ ⟨rfl, rfl⟩
    cases pw with
    | false =>
      have hno : runAns fs zs steps = none := if_neg fun h => by
        have h2 : inR 0 200000 steps = true := inR_iff.2 h.2
        have := HPW.out; rw [h2] at this; cases this
      have HNO := Lib.hid hno
      clear hno HRM HW HOK
      go_wp2_with (fail)
      refine bodyPost_ret (v := .tuple #[.agg #[.slice none 0 0, .int .i64 0, .int .i64 0, .slice none 0 0], .bool false]) (by simp [results, Tryd.results23, go_sem, t0, t1, t2, t3]) rfl ?_
      rw [HNO.out]
      exact ⟨_, rfl, rfl, (((HB.out.setCell (p := ⟨w.heap.size + 1, 0, none⟩) (by simp only []; omega) _).setCell (p := ⟨w.heap.size + 1, 1, none⟩) (by simp only []; omega) _).setCell (p := ⟨w.heap.size + 1, 2, none⟩) (by simp only []; omega) _).setCell (p := ⟨w.heap.size + 1, 3, none⟩) (by simp only []; omega) _⟩
    | true =>
      have hst := inR_iff.1 HPW.out
      obtain ⟨T, hT⟩ : ∃ T : Nat, steps = T := ⟨steps.toNat, by omega⟩
      have hans : runAns fs zs steps = some (runOf (machPg fs) (fs.length - 1) (toNats zs) T) := by
        unfold runAns
        rw [if_pos ⟨HOK.out, hst.1, hst.2⟩, hT, Int.toNat_natCast]
      have HRT := Lib.hid (HRM.out w1 HB.out HOK.out T (by omega))
      subst hT
      generalize runOf (machPg fs) (fs.length - 1) (toNats zs) T = r at *
      have HANS := Lib.hid hans
      clear hans HRM HW HOK hst
      go_wp2_with (fail)
      go_at_call 51
      refine HRT.out.1.mono ?_
      rintro e w2 ⟨pr, cb, sv, rfl, hE, hb2⟩
      obtain ⟨hc, hf⟩ := bcell hb2
      have u0 : w2.cell? ⟨w.heap.size + 1, 0, none⟩ = some (.slice none 0 0) := by rw [hc _ _ (by omega)]; exact t0
      have u1 : w2.cell? ⟨w.heap.size + 1, 1, none⟩ = some (.int .i64 0) := by rw [hc _ _ (by omega)]; exact t1
      have u2 : w2.cell? ⟨w.heap.size + 1, 2, none⟩ = some (.int .i64 0) := by rw [hc _ _ (by omega)]; exact t2
      have u3 : w2.cell? ⟨w.heap.size + 1, 3, none⟩ = some (.slice none 0 0) := by rw [hc _ _ (by omega)]; exact t3
      have g0 : w2.frozen? ⟨w.heap.size + 1, 0, none⟩ = false := by rw [hf _ _ (by omega)]; exact f0
      have g1 : w2.frozen? ⟨w.heap.size + 1, 1, none⟩ = false := by rw [hf _ _ (by omega)]; exact f1
      have g2 : w2.frozen? ⟨w.heap.size + 1, 2, none⟩ = false := by rw [hf _ _ (by omega)]; exact f2
      have g3 : w2.frozen? ⟨w.heap.size + 1, 3, none⟩ = false := by rw [hf _ _ (by omega)]; exact f3
      have hsz2 := hb2.size
      obtain ⟨x1, x2, x3, x4, _⟩ := endCells hE
      obtain ⟨sa, sc, hform⟩ := saidForm hE.2.2.1
      obtain ⟨sn, hsn⟩ : ∃ sn, sn = r.cm.said.length := ⟨_, rfl⟩
      rw [← hsn] at hform
      subst hform
      have HE := Lib.hid hE
      have HB2 := Lib.hid (HB.out.trans (hb2.mono HB.out.size))
      have hlt : w.heap.size + 1 < w2.heap.size := by omega
      have h16 := HRT.out.2.1
      have H16 := Lib.hid h16
      clear hE hb2 hc hf t0 t1 t2 t3 f0 f1 f2 f3 p0 HRT hsn h16
      go_wp2_with (fail)
      refine bodyPost_ret (v := .tuple #[.agg #[.slice sa sn sc, .int .i64 (r.en : Int), .int .i64 (r.val : Int), .slice (some ⟨cb, 0, none⟩) 16 16], .bool true]) (by simp [results, Tryd.results23, go_sem, u0, u1, u2, u3]) rfl ?_
      rw [HANS.out]
      have hh : ∀ k, w1.heap.size ≤ k → k < w2.heap.size → ((((w2.setCell ⟨w.heap.size + 1, 0, none⟩ (.slice sa sn sc)).setCell ⟨w.heap.size + 1, 1, none⟩ (.int .i64 (r.en : Int))).setCell ⟨w.heap.size + 1, 2, none⟩ (.int .i64 (r.val : Int))).setCell ⟨w.heap.size + 1, 3, none⟩ (.slice (some ⟨cb, 0, none⟩) 16 16)).heap[k]? = w2.heap[k]? := fun k h1 h2 => by
        have e1 : k ≠ w.heap.size + 1 := by omega
        rw [Below.heap_setCell _ _ _ _ e1, Below.heap_setCell _ _ _ _ e1, Below.heap_setCell _ _ _ _ e1, Below.heap_setCell _ _ _ _ e1]
      have hE' := HE.out.keep hh
      have h16 := H16.out
      have hci := hE'.2.1.ints (cap := 16)
      rw [h16] at hci
      exact ⟨_, rfl, ⟨sa, sn, sc, some ⟨cb, 0, none⟩, 16, rfl, hE'.2.2.1.ints, hci, h16⟩, (((HB2.out.setCell (p := ⟨w.heap.size + 1, 0, none⟩) (by simp only []; omega) _).setCell (p := ⟨w.heap.size + 1, 1, none⟩) (by simp only []; omega) _).setCell (p := ⟨w.heap.size + 1, 2, none⟩) (by simp only []; omega) _).setCell (p := ⟨w.heap.size + 1, 3, none⟩) (by simp only []; omega) _⟩

set_option maxHeartbeats 2000000 in
theorem specMachSteps (w : World) (vb vo fl vcap : Nat) (fs : List Mf) (zs : List Int) (hm : MfsAt w (.slice (some ⟨vb, vo, none⟩) fl vcap) fs) (hfl : fl = fs.length) (hle : MfsLe fs) (b off n cap : Nat) (hs : InSrc w b off n cap zs) :
    Calls Tryd.prog 14 #[.agg #[.slice (some ⟨vb, vo, none⟩) fl vcap], .slice (some ⟨b, off, none⟩) n cap] w fun e w' => e = .returned (.int .i64 (stepsAns fs zs)) ∧ Below w.heap.size w w' := by
  have HMR := Lib.hid (fun w' (hb : Below w.heap.size w w') => fits_any w' _ _ fs zs (hm.below hb) hle (hs.below hb).ints (by rw [hs.len]; have := hs.small; omega))
  have HRM := Lib.hid (fun w' (hb : Below w.heap.size w w') (hok : RunsOk fs zs) => start_ok w' vb vo fl vcap fs zs (hm.below hb) hfl hle hok b off n cap (hs.below hb) 200000 (Nat.le_refl _))
  clear hm hfl hle hs
  unfold FitPost at HMR
  obtain ⟨ans, hans⟩ : ∃ ans, ans = stepsAns fs zs := ⟨_, rfl⟩
  rw [← hans]
  have HANS := Lib.hid hans
  clear hans
  go_enter Tryd.func14, Tryd.ntmps14
  go_wp2_with (fail)
  go_at_call 50
  refine (HMR.out _ (below1 _ _)).mono ?_
  rintro e w1 ⟨q, rfl, hq, hb⟩
  have p0 : w1.cell? ⟨w.heap.size, 0, none⟩ = some (.slice (some ⟨vb, vo, none⟩) fl vcap) := by rw [hb.cell (p := ⟨w.heap.size, 0, none⟩) (by simp)]; simp [go_sem]
  have HB := Lib.hid ((below1 w (.cells #[.slice (some ⟨vb, vo, none⟩) fl vcap] 25)).trans (hb.mono (by simp)))
  have HQ := Lib.hid hq
  clear hb hq HMR
  cases q with
  | false =>
    have hno : ans = -1 := by rw [HANS.out]; exact if_neg fun h => by have := HQ.out.2 h; cases this
    subst hno
    clear HRM HQ
    go_wp2_with (fail)
    go_ret
    exact ⟨rfl, HB.out⟩
  | true =>
    have hok : RunsOk fs zs := HQ.out.1 rfl
    have ha : ans = if (runOf (machPg fs) (fs.length - 1) (toNats zs) 200000).en = 3 then -1 else ((200000 - (runOf (machPg fs) (fs.length - 1) (toNats zs) 200000).cm.left : Nat) : Int) := by
      rw [HANS.out]; exact if_pos hok
    have HRT := Lib.hid (HRM.out w1 HB.out hok)
    generalize runOf (machPg fs) (fs.length - 1) (toNats zs) 200000 = r at *
    have HA := Lib.hid ha
    clear hok ha HRM HQ HANS
    go_wp2_with (fail)
    go_at_call 51
    refine HRT.out.1.mono ?_
    rintro e w2 ⟨pr, cb, sv, rfl, hE, hb2⟩
    obtain ⟨_, x2, _, _, x5⟩ := endCells hE
    have hlt := HRT.out.2.2.1
    have HB2 := Lib.hid (HB.out.trans (hb2.mono HB.out.size))
    clear hE hb2 HRT p0
    by_cases h3 : r.en = 3
    · have e1 : (((r.en : Nat) : Int) == 3) = true := by rw [h3]; rfl
      have hans : ans = -1 := by rw [HA.out, if_pos h3]
      subst hans
      clear h3 HA
      go_wp2_with (fail)
      go_ret
      exact ⟨rfl, HB2.out⟩
    · have e1 : (((r.en : Nat) : Int) == 3) = false := by simp; omega
      have hans : ans = ((200000 - r.cm.left : Nat) : Int) := by rw [HA.out, if_neg h3]
      obtain ⟨lf, hlf⟩ : ∃ lf, lf = r.cm.left := ⟨_, rfl⟩
      rw [← hlf] at hans x5 hlt
      subst hans
      clear h3 HA hlf
      go_wp2_with (fail)
      go_ret
      exact ⟨by rw [show ((200000 - lf : Nat) : Int) = 200000 - (lf : Int) by omega]; rfl, HB2.out⟩

end Go.Proofs.YtbdbmmdnidonjaaDoor
