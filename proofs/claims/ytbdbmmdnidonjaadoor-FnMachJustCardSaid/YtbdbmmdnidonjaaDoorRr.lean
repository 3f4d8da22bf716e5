/- impl.RunMach and impl.MachSteps. -/
import Derived.Test.YtbdbmmdnidonjaaDoorRm
import Derived.Test.YtbdbmmdnidonjaaDoorFt
import Derived.Test.YtbdbmmdnidonjaaDoorPg
set_option maxRecDepth 100000
namespace Go.Proofs.YtbdbmmdnidonjaaDoor
open Go.RowKit

/-- numbers that are handed in -/
structure InSrc (w : World) (b off n cap : Nat) (zs : List Int) : Prop where
  len : zs.length = n
  cap : n ≤ cap
  small : n ≤ 1048576
  cells : ∀ i, i < n → w.cell? ⟨b, off + i, none⟩ = some (.int .i64 (zs.getD i 0))
theorem InSrc.ints {w : World} {b off n cap : Nat} {zs : List Int} (h : InSrc w b off n cap zs) : IntsAt w (.slice (some ⟨b, off, none⟩) n cap) zs :=
  ⟨_, cap, by rw [h.len], fun i hi => ⟨b, off, rfl, h.cells i (by rw [← h.len]; exact hi)⟩⟩
theorem InSrc.below {w w' : World} {b off n cap : Nat} {zs : List Int} (h : InSrc w b off n cap zs) (hb : Below w.heap.size w w') : InSrc w' b off n cap zs :=
  ⟨h.len, h.cap, h.small, fun i hi => by rw [hb.cell (p := ⟨b, off + i, none⟩) (World.block_lt_of_cell? _ _ (h.cells i hi))]; exact h.cells i hi⟩

def toNats (zs : List Int) : List Nat := zs.map Int.toNat
theorem valsOk_nats {zs : List Int} (h : valsOk zs = true) : Small (toNats zs) ∧ ∀ i, i < zs.length → zs.getD i 0 = (((toNats zs).getD i 0 : Nat) : Int) := by
  have hall : ∀ z ∈ zs, 0 ≤ z ∧ z ≤ 255 := fun z hz => inR_iff.1 (List.all_eq_true.1 h z hz)
  refine ⟨fun x hx => ?_, fun i hi => ?_⟩
  · obtain ⟨z, hz, rfl⟩ := List.mem_map.1 hx
    have := hall z hz; omega
  · have := hall zs[i] (List.getElem_mem hi)
    simp only [toNats, List.getD_eq_getElem?_getD, List.getElem?_map, List.getElem?_eq_getElem hi, Option.map_some, Option.getD_some]
    omega
theorem InSrc.src {w : World} {b off n cap : Nat} {zs : List Int} (h : InSrc w b off n cap zs) (hv : valsOk zs = true) : SrcAt w b off n cap (toNats zs) :=
  ⟨by simp [toNats, h.len], h.cap, h.small, fun i hi => by rw [h.cells i hi, (valsOk_nats hv).2 i (by rw [h.len]; exact hi)]⟩

open Classical in
/-- what a run answers: nothing if it cannot be run so -/
noncomputable def runAns (fs : List Mf) (zs : List Int) (steps : Int) : Option Rs :=
  if RunsOk fs zs ∧ 0 ≤ steps ∧ steps ≤ 200000 then some (runOf (machPg fs) (fs.length - 1) (toNats zs) steps.toNat) else none
open Classical in
noncomputable def stepsAns (fs : List Mf) (zs : List Int) : Int :=
  if RunsOk fs zs then (if (runOf (machPg fs) (fs.length - 1) (toNats zs) 200000).en = 3 then -1 else ((200000 - (runOf (machPg fs) (fs.length - 1) (toNats zs) 200000).cm.left : Nat) : Int)) else -1

def OutAt (w : World) (B : Nat) (o : Option Rs) (v : Value) : Prop :=
  match o with
  | none => v = .agg #[.slice none 0 0, .int .i64 0, .int .i64 0, .slice none 0 0]
  | some r => ∃ sa sn sc ca cc, v = .agg #[.slice sa sn sc, .int .i64 (r.en : Int), .int .i64 (r.val : Int), .slice ca 16 cc] ∧ Said w B (.slice sa sn sc) r.cm.said ∧ w.ownsRow B 3 1 (.slice ca 16 cc) 16 (nats r.cm.cells) ∧ Apart2 (.slice ca 16 cc) (.slice sa sn sc)
def AnsPost (o : Option Rs) (w : World) (e : Ending) (w' : World) : Prop := ∃ v, e = .returned (.tuple #[v, .bool o.isSome]) ∧ OutAt w' w.heap.size o v ∧ Below w.heap.size w w'

theorem runMach_ok (w : World) (vb vo fl vcap : Nat) (fs : List Mf) (zs : List Int) (hm : MfsAt w (.slice (some ⟨vb, vo, none⟩) fl vcap) fs) (hfl : fl = fs.length) (hle : MfsLe fs) (hok : RunsOk fs zs) (b off n cap : Nat) (hs : InSrc w b off n cap zs) (T : Nat) (hT : T ≤ 200000) :
    Calls Tryd.prog 49 #[.agg #[.slice (some ⟨vb, vo, none⟩) fl vcap], .slice (some ⟨b, off, none⟩) n cap, .int .i64 (T : Int)] w fun e w' => ∃ v, e = .returned (.tuple #[v, .int .i64 ((T - (runOf (machPg fs) (fs.length - 1) (toNats zs) T).cm.left : Nat) : Int)]) ∧ OutAt w' w.heap.size (some (runOf (machPg fs) (fs.length - 1) (toNats zs) T)) v ∧ Below w.heap.size w w' := by
  obtain ⟨hmo, hv, hp⟩ := hok
  obtain ⟨hP, hN⟩ := machPg_ok hmo
  have h1 : 1 ≤ fl := by rw [hfl]; exact hmo.1.1
  have hpar : (machPg fs).par (fl - 1) ≤ n := by
    show (mfAt fs (fl - 1)).params.toNat ≤ n
    rw [hfl, ← hp, hs.len]; simp
  rw [← hfl]
  refine (runMach_any w vb vo fl vcap fs hm hfl h1 hP hN hle b off n cap (toNats zs) (hs.src hv) (valsOk_nats hv).1 hpar T hT).mono ?_
  rintro e w' ⟨sv, cv, rfl, hsd, hown, hap, hb⟩
  obtain ⟨sa, sc, hform⟩ := saidForm hsd
  obtain ⟨ca, cc, hcf⟩ : ∃ ca cc, cv = .slice ca 16 cc := by
    rcases hown.2 with ⟨_, h2⟩ | ⟨g, cp, cur, h1, _⟩
    · cases h2
    · exact ⟨_, cp, h1⟩
  subst hform hcf
  exact ⟨_, rfl, ⟨_, _, _, _, _, rfl, hsd, hown, hap⟩, hb⟩

theorem row_keep {w w' : World} {B B' : Nat} {e : TypeId} {size : Nat} {v : Value} {n : Nat} {xs : List Value} (h : w.ownsRow B' e size v n xs) (hB : B ≤ B') (hh : ∀ k, B' ≤ k → k < w.heap.size → w'.heap[k]? = w.heap[k]?) : w'.ownsRow B e size v n xs :=
  ownsRow_mono (ownsRow_same h fun k hk => hh k (World.ownsRow.lt h k hk).1 (World.ownsRow.lt h k hk).2) hB

set_option maxHeartbeats 2000000 in
theorem runMach15 (w : World) (vb vo fl vcap : Nat) (fs : List Mf) (zs : List Int) (hF : Forms w) (hm : MfsAt w (.slice (some ⟨vb, vo, none⟩) fl vcap) fs) (hfl : fl = fs.length) (hle : MfsLe fs) (b off n cap : Nat) (hs : InSrc w b off n cap zs) (steps : Int) :
    Calls Tryd.prog 15 #[.agg #[.slice (some ⟨vb, vo, none⟩) fl vcap], .slice (some ⟨b, off, none⟩) n cap, .int .i64 steps] w (AnsPost (runAns fs zs steps) w) := by
  have HMR := Lib.hid (fun w' (hb : Below w.heap.size w w') => machRuns_any w' _ _ fs zs (hF.below hb) (hm.below hb) hle (hs.below hb).ints (by rw [hs.len]; have := hs.small; omega))
  have HRM := Lib.hid (fun w' (hb : Below w.heap.size w w') (hok : RunsOk fs zs) T (hT : T ≤ 200000) => runMach_ok w' vb vo fl vcap fs zs (hm.below hb) hfl hle hok b off n cap (hs.below hb) T hT)
  obtain ⟨pw, hpw⟩ : ∃ pw, inR 0 200000 steps = pw := ⟨_, rfl⟩
  have HW := Lib.hid (within_named steps 0 200000 pw hpw)
  have HPW := Lib.hid hpw
  clear hF hm hfl hle hs hpw
  unfold FitPost at HMR
  go_enter Tryd.func15, Tryd.ntmps15
  go_wp2_with (fail)
  go_at_call 48
  refine (HMR.out _ (below2 _ _ _)).mono ?_
  rintro e w1 ⟨q, rfl, hq, hb⟩
  obtain ⟨hc, hf⟩ := bcell hb
  have p0 : w1.cell? ⟨w.heap.size, 0, none⟩ = some (.slice (some ⟨vb, vo, none⟩) fl vcap) := by rw [hc _ _ (by simp; omega)]; simp [go_sem]
  have t0 : w1.cell? ⟨w.heap.size + 1, 0, none⟩ = some (.slice none 0 0) := by rw [hc _ _ (by simp)]; simp [go_sem]
  have t1 : w1.cell? ⟨w.heap.size + 1, 1, none⟩ = some (.int .i64 0) := by rw [hc _ _ (by simp)]; simp [go_sem]
  have t2 : w1.cell? ⟨w.heap.size + 1, 2, none⟩ = some (.int .i64 0) := by rw [hc _ _ (by simp)]; simp [go_sem]
  have t3 : w1.cell? ⟨w.heap.size + 1, 3, none⟩ = some (.slice none 0 0) := by rw [hc _ _ (by simp)]; simp [go_sem]
  have f0 : w1.frozen? ⟨w.heap.size + 1, 0, none⟩ = false := by rw [hf _ _ (by simp)]; simp [go_sem]
  have f1 : w1.frozen? ⟨w.heap.size + 1, 1, none⟩ = false := by rw [hf _ _ (by simp)]; simp [go_sem]
  have f2 : w1.frozen? ⟨w.heap.size + 1, 2, none⟩ = false := by rw [hf _ _ (by simp)]; simp [go_sem]
  have f3 : w1.frozen? ⟨w.heap.size + 1, 3, none⟩ = false := by rw [hf _ _ (by simp)]; simp [go_sem]
  have hB := (below2 w (.cells #[.slice (some ⟨vb, vo, none⟩) fl vcap] 25) (.cells #[.slice none 0 0, .int .i64 0, .int .i64 0, .slice none 0 0] 31)).trans (hb.mono (by simp; omega))
  have hsz : w.heap.size + 2 ≤ w1.heap.size := by have := hb.size; simp at this; omega
  have HB := Lib.hid hB
  have HQ := Lib.hid hq
  clear hb hB hq hc hf HMR
  cases q with
  | false =>
    have hno : runAns fs zs steps = none := if_neg fun h => by have := HQ.out.2 h.1; cases this
    have HNO := Lib.hid hno
    clear hno HRM HW HQ
    go_wp2_with (fail)
    refine bodyPost_ret (v := .tuple #[.agg #[.slice none 0 0, .int .i64 0, .int .i64 0, .slice none 0 0], .bool false]) (by simp [results, Tryd.results15, go_sem, t0, t1, t2, t3]) rfl ?_
    rw [HNO.out]
    exact ⟨_, rfl, rfl, (((HB.out.setCell (p := ⟨w.heap.size + 1, 0, none⟩) (by simp only []; omega) _).setCell (p := ⟨w.heap.size + 1, 1, none⟩) (by simp only []; omega) _).setCell (p := ⟨w.heap.size + 1, 2, none⟩) (by simp only []; omega) _).setCell (p := ⟨w.heap.size + 1, 3, none⟩) (by simp only []; omega) _⟩
  | true =>
    have hok : RunsOk fs zs := HQ.out.1 rfl
    have HOK := Lib.hid hok
    clear hok HQ
    go_wp2_with (fail)
    go_at_call 52
    refine (HW.out _).mono ?_
    rintro e _ ⟨rfl, rfl⟩
    cases pw with
    | false =>
      have hno : runAns fs zs steps = none := if_neg fun h => by
        have h2 : inR 0 200000 steps = true := inR_iff.2 h.2
        have := HPW.out; rw [h2] at this; cases this
      have HNO := Lib.hid hno
      clear hno HRM HW HOK
      go_wp2_with (fail)
      refine bodyPost_ret (v := .tuple #[.agg #[.slice none 0 0, .int .i64 0, .int .i64 0, .slice none 0 0], .bool false]) (by simp [results, Tryd.results15, go_sem, t0, t1, t2, t3]) rfl ?_
      rw [HNO.out]
      exact ⟨_, rfl, rfl, (((HB.out.setCell (p := ⟨w.heap.size + 1, 0, none⟩) (by simp only []; omega) _).setCell (p := ⟨w.heap.size + 1, 1, none⟩) (by simp only []; omega) _).setCell (p := ⟨w.heap.size + 1, 2, none⟩) (by simp only []; omega) _).setCell (p := ⟨w.heap.size + 1, 3, none⟩) (by simp only []; omega) _⟩
    | true =>
      have hst := inR_iff.1 HPW.out
      obtain ⟨T, hT⟩ : ∃ T : Nat, steps = T := ⟨steps.toNat, by omega⟩
      have hans : runAns fs zs steps = some (runOf (machPg fs) (fs.length - 1) (toNats zs) T) := by
        unfold runAns
        rw [if_pos ⟨HOK.out, hst.1, hst.2⟩, hT, Int.toNat_natCast]
      have HRT := Lib.hid (HRM.out w1 HB.out HOK.out T (by omega))
      subst hT
      generalize runOf (machPg fs) (fs.length - 1) (toNats zs) T = r at *
      have HANS := Lib.hid hans
      clear hans HRM HW HOK hst
      go_wp2_with (fail)
      go_at_call 49
      refine HRT.out.mono ?_
      rintro e w2 ⟨v, rfl, ⟨sa, sn, sc, ca, cc, rfl, hsd, hown, hap⟩, hb2⟩
      have HAP := Lib.hid hap
      clear hap
      obtain ⟨hc, hf⟩ := bcell hb2
      have u0 : w2.cell? ⟨w.heap.size + 1, 0, none⟩ = some (.slice none 0 0) := by rw [hc _ _ (by omega)]; exact t0
      have u1 : w2.cell? ⟨w.heap.size + 1, 1, none⟩ = some (.int .i64 0) := by rw [hc _ _ (by omega)]; exact t1
      have u2 : w2.cell? ⟨w.heap.size + 1, 2, none⟩ = some (.int .i64 0) := by rw [hc _ _ (by omega)]; exact t2
      have u3 : w2.cell? ⟨w.heap.size + 1, 3, none⟩ = some (.slice none 0 0) := by rw [hc _ _ (by omega)]; exact t3
      have g0 : w2.frozen? ⟨w.heap.size + 1, 0, none⟩ = false := by rw [hf _ _ (by omega)]; exact f0
      have g1 : w2.frozen? ⟨w.heap.size + 1, 1, none⟩ = false := by rw [hf _ _ (by omega)]; exact f1
      have g2 : w2.frozen? ⟨w.heap.size + 1, 2, none⟩ = false := by rw [hf _ _ (by omega)]; exact f2
      have g3 : w2.frozen? ⟨w.heap.size + 1, 3, none⟩ = false := by rw [hf _ _ (by omega)]; exact f3
      have hsz2 := hb2.size
      have HS := Lib.hid hsd; have HO := Lib.hid hown; have HB2 := Lib.hid (HB.out.trans (hb2.mono HB.out.size))
      have hlt : w.heap.size + 1 < w2.heap.size := by omega
      clear hsd hown hb2 hc hf t0 t1 t2 t3 f0 f1 f2 f3 p0 HRT
      go_wp2_with (fail)
      refine bodyPost_ret (v := .tuple #[.agg #[.slice sa sn sc, .int .i64 (r.en : Int), .int .i64 (r.val : Int), .slice ca 16 cc], .bool true]) (by simp [results, Tryd.results15, go_sem, hlt, u0, u1, u2, u3]) rfl ?_
      rw [HANS.out]
      have hh : ∀ k, w1.heap.size ≤ k → k < w2.heap.size → (((((w2.setCell ⟨w.heap.size + 1, 0, none⟩ (.slice sa sn sc)).setCell ⟨w.heap.size + 1, 1, none⟩ (.int .i64 (r.en : Int))).setCell ⟨w.heap.size + 1, 2, none⟩ (.int .i64 (r.val : Int))).setCell ⟨w.heap.size + 1, 3, none⟩ (.slice ca 16 cc)).alloc (.cells #[.slice sa sn sc, .int .i64 (r.en : Int), .int .i64 (r.val : Int), .slice ca 16 cc] 31)).heap[k]? = w2.heap[k]? := fun k h1 h2 => by
        have e1 : k ≠ w.heap.size + 1 := by omega
        rw [Below.heap_alloc _ _ _ (by simpa using h2), Below.heap_setCell _ _ _ _ e1, Below.heap_setCell _ _ _ _ e1, Below.heap_setCell _ _ _ _ e1, Below.heap_setCell _ _ _ _ e1]
      refine ⟨_, rfl, ⟨sa, sn, sc, ca, cc, rfl, row_keep HS.out (by omega) hh, row_keep HO.out (by omega) hh, HAP.out⟩, ?_⟩
      exact ((((HB2.out.setCell (p := ⟨w.heap.size + 1, 0, none⟩) (by simp only []; omega) _).setCell (p := ⟨w.heap.size + 1, 1, none⟩) (by simp only []; omega) _).setCell (p := ⟨w.heap.size + 1, 2, none⟩) (by simp only []; omega) _).setCell (p := ⟨w.heap.size + 1, 3, none⟩) (by simp only []; omega) _).alloc (by simp; omega) _

set_option maxHeartbeats 2000000 in
theorem machSteps13 (w : World) (vb vo fl vcap : Nat) (fs : List Mf) (zs : List Int) (hF : Forms w) (hm : MfsAt w (.slice (some ⟨vb, vo, none⟩) fl vcap) fs) (hfl : fl = fs.length) (hle : MfsLe fs) (b off n cap : Nat) (hs : InSrc w b off n cap zs) :
    Calls Tryd.prog 13 #[.agg #[.slice (some ⟨vb, vo, none⟩) fl vcap], .slice (some ⟨b, off, none⟩) n cap] w fun e w' => e = .returned (.int .i64 (stepsAns fs zs)) ∧ Below w.heap.size w w' := by
  have HMR := Lib.hid (fun w' (hb : Below w.heap.size w w') => machRuns_any w' _ _ fs zs (hF.below hb) (hm.below hb) hle (hs.below hb).ints (by rw [hs.len]; have := hs.small; omega))
  have HRM := Lib.hid (fun w' (hb : Below w.heap.size w w') (hok : RunsOk fs zs) => runMach_ok w' vb vo fl vcap fs zs (hm.below hb) hfl hle hok b off n cap (hs.below hb) 200000 (Nat.le_refl _))
  clear hF hm hfl hle hs
  unfold FitPost at HMR
  obtain ⟨ans, hans⟩ : ∃ ans, ans = stepsAns fs zs := ⟨_, rfl⟩
  rw [← hans]
  have HANS := Lib.hid hans
  clear hans
  go_enter Tryd.func13, Tryd.ntmps13
  go_wp2_with (fail)
  go_at_call 48
  refine (HMR.out _ (below1 _ _)).mono ?_
  rintro e w1 ⟨q, rfl, hq, hb⟩
  have p0 : w1.cell? ⟨w.heap.size, 0, none⟩ = some (.slice (some ⟨vb, vo, none⟩) fl vcap) := by rw [hb.cell (p := ⟨w.heap.size, 0, none⟩) (by simp)]; simp [go_sem]
  have HB := Lib.hid ((below1 w (.cells #[.slice (some ⟨vb, vo, none⟩) fl vcap] 25)).trans (hb.mono (by simp)))
  have HQ := Lib.hid hq
  clear hb hq HMR
  cases q with
  | false =>
    have hno : ans = -1 := by rw [HANS.out]; exact if_neg fun h => by have := HQ.out.2 h; cases this
    subst hno
    clear HRM HQ
    go_wp2_with (fail)
    go_ret
    exact ⟨rfl, HB.out⟩
  | true =>
    have hok : RunsOk fs zs := HQ.out.1 rfl
    have ha : ans = if (runOf (machPg fs) (fs.length - 1) (toNats zs) 200000).en = 3 then -1 else ((200000 - (runOf (machPg fs) (fs.length - 1) (toNats zs) 200000).cm.left : Nat) : Int) := by
      rw [HANS.out]; exact if_pos hok
    have HRT := Lib.hid (HRM.out w1 HB.out hok)
    generalize runOf (machPg fs) (fs.length - 1) (toNats zs) 200000 = r at *
    have HA := Lib.hid ha
    clear hok ha HRM HQ HANS
    go_wp2_with (fail)
    go_at_call 49
    refine HRT.out.mono ?_
    rintro e w2 ⟨v, rfl, ⟨sa, sn, sc, ca, cc, rfl, _, _, _⟩, hb2⟩
    have HB2 := Lib.hid (HB.out.trans (hb2.mono HB.out.size))
    have hsz2 := HB2.out.size
    clear hb2 HRT p0
    by_cases h3 : r.en = 3
    · have e1 : ((r.en : Nat) : Int) = 3 := by omega
      have ha := HA.out
      rw [if_pos h3] at ha
      subst ha
      have b1 : (((r.en : Nat) : Int) == 3) = true := by simpa using e1
      clear e1 h3 HA
      go_wp2_with (fail)
      go_ret
      exact ⟨rfl, HB2.out.alloc hsz2 _⟩
    · have b1 : (((r.en : Nat) : Int) == 3) = false := by simp; omega
      have ha := HA.out
      rw [if_neg h3] at ha
      subst ha
      clear h3 HA
      go_wp2_with (fail)
      go_ret
      exact ⟨rfl, HB2.out.alloc hsz2 _⟩

end Go.Proofs.YtbdbmmdnidonjaaDoor
