/- Can a program be run with numbers: impl.machRuns, spec.l22Fits. -/
import Derived.Test.YtbdbmmdnidonjaaDoorVl
import Derived.Test.YtbdbmmdnidonjaaDoorSv
import Derived.Test.YtbdbmmdnidonjaaDoorMx
import Derived.Deep.RegionHeld3
set_option maxRecDepth 100000
namespace Go.Proofs.YtbdbmmdnidonjaaDoor
open Go.RowKit

/-- a program that can be run with these numbers -/
def RunsOk (fs : List Mf) (zs : List Int) : Prop := MachOk fs ∧ valsOk zs = true ∧ (zs.length : Int) = (mfAt fs (fs.length - 1)).params
def FitPost (fs : List Mf) (zs : List Int) (w : World) (e : Ending) (w' : World) : Prop := ∃ b, e = .returned (.bool b) ∧ (b = true ↔ RunsOk fs zs) ∧ Below w.heap.size w w'

theorem lastFn {w : World} {a : Option Addr} {n cap : Nat} {fs : List Mf} (hm : MfsAt w (.slice a n cap) fs) (hn : n = fs.length) (h1 : 1 ≤ n) :
    ∃ b off, a = some ⟨b, off, none⟩ ∧ b < w.heap.size ∧ w.cell? ⟨b, off + (n - 1) * 3, none⟩ = some (.int .i64 (mfAt fs (fs.length - 1)).params) := by
  have hl : n - 1 < fs.length := by omega
  have hf : fs[n - 1]? = some fs[n - 1] := List.getElem?_eq_getElem hl
  obtain ⟨b, off, cap', iv, hv, hb, c0, _⟩ := hm.get hf
  injection hv with hv1
  refine ⟨b, off, hv1, hb, ?_⟩
  rw [c0]
  unfold mfAt
  rw [← hn, hf]; rfl

set_option maxHeartbeats 2000000 in
theorem machRuns_any (w : World) (v vin : Value) (fs : List Mf) (zs : List Int) (hF : Forms w) (hm : MfsAt w v fs) (hle : MfsLe fs) (hi : IntsAt w vin zs) (hz : zs.length ≤ 1099511627776) :
    Calls Tryd.prog 48 #[.agg #[v], vin] w (FitPost fs zs w) := by
  have HV := Lib.hid (fun w' (hb : Below w.heap.size w w') => machValid_any w' v fs (hF.below hb) (hm.below hb) hle)
  have HBY := Lib.hid (fun w' m (hb : Below w.heap.size w w') => bytesOk_any w' vin zs m (hi.below hb) hz)
  have HM := Lib.hid hm
  have hlen := hle.1
  obtain ⟨a, cap, rfl, hc⟩ := hm
  obtain ⟨ia, icap, rfl, hic⟩ := hi
  obtain ⟨n, hn⟩ : ∃ n, n = fs.length := ⟨_, rfl⟩
  rw [← hn] at HV HM hlen ⊢
  have HN := Lib.hid hn
  obtain ⟨zn, hzn⟩ : ∃ zn, zn = zs.length := ⟨_, rfl⟩
  rw [← hzn] at HBY ⊢
  have HZN := Lib.hid hzn.symm
  clear hc hic hF hle hn hz hzn
  unfold ValidPost BoolPost at *
  go_enter Tryd.func48, Tryd.ntmps48
  go_wp2_with (fail)
  go_at_call 74
  refine (HV.out _ (below1 _ _)).mono ?_
  rintro e w1 ⟨q, rfl, hq, hb⟩
  have hb1 := (below1 w (.cells #[.slice a n cap] 25)).trans (hb.mono (by simp))
  have p0 : w1.cell? ⟨w.heap.size, 0, none⟩ = some (.slice a n cap) := by
    rw [hb.cell (p := ⟨w.heap.size, 0, none⟩) (by simp)]; simp [go_sem]
  have HB1 := Lib.hid hb1
  have HQ := Lib.hid hq
  clear hb hb1 HV hq
  cases q with
  | false =>
    go_wp2_with (fail)
    go_ret
    exact ⟨_, rfl, ⟨fun h => (by cases h), fun h => (by have := HQ.out.2 h.1; cases this)⟩, HB1.out⟩
  | true =>
    have hok : MachOk fs := HQ.out.1 rfl
    have h1 : 1 ≤ n := by rw [HN.out]; exact hok.1.1
    obtain ⟨b, off, rfl, hbl, c0⟩ := lastFn HM.out HN.out h1
    obtain ⟨pr, hpr⟩ : ∃ pr, pr = (mfAt fs (fs.length - 1)).params := ⟨_, rfl⟩
    rw [← hpr] at c0
    have c1 : w1.cell? ⟨b, off + (n - 1) * 3, none⟩ = some (.int .i64 pr) := by rw [HB1.out.cell (p := ⟨b, off + (n - 1) * 3, none⟩) hbl]; exact c0
    have HPR := Lib.hid hpr
    have HOK := Lib.hid hok
    have hnn : (n : Int) - 1 = ((n - 1 : Nat) : Int) := by omega
    have i0 : (0 : Int) ≤ ((n - 1 : Nat) : Int) := by omega
    have i1 : ((n - 1 : Nat) : Int) < n := by omega
    clear hpr hok c0 HQ
    go_wp2_with (fail)
    go_at_call 75
    refine (HBY.out w1 pr HB1.out).mono ?_
    rintro e w2 ⟨rfl, hb2⟩
    have HB2 := Lib.hid (HB1.out.trans (hb2.mono HB1.out.size))
    obtain ⟨ans, hans⟩ : ∃ ans, ans = (decide ((zn : Int) = pr) && valsOk zs) := ⟨_, rfl⟩
    rw [← hans]
    have HA := Lib.hid hans
    clear hb2 hans HBY
    go_wp2_with (fail)
    go_ret
    refine ⟨_, rfl, ?_, HB2.out⟩
    unfold RunsOk
    rw [HZN.out, ← HPR.out, HA.out]
    simp only [Bool.and_eq_true, decide_eq_true_eq]
    exact ⟨fun h => ⟨HOK.out, h.2, h.1⟩, fun h => ⟨h.2.2, h.2.1⟩⟩

set_option maxHeartbeats 2000000 in
theorem fits_any (w : World) (v vin : Value) (fs : List Mf) (zs : List Int) (hm : MfsAt w v fs) (hle : MfsLe fs) (hi : IntsAt w vin zs) (hz : zs.length ≤ 1099511627776) :
    Calls Tryd.prog 50 #[.agg #[v], vin] w (FitPost fs zs w) := by
  have HV := Lib.hid (fun w' (hb : Below w.heap.size w w') => specValid_any w' v fs (hm.below hb) hle)
  have HBY := Lib.hid (fun w' (hb : Below w.heap.size w w') => l5Values_any w' vin zs (hi.below hb) hz)
  have HM := Lib.hid hm
  have hlen := hle.1
  obtain ⟨a, cap, rfl, hc⟩ := hm
  obtain ⟨ia, icap, rfl, hic⟩ := hi
  obtain ⟨n, hn⟩ : ∃ n, n = fs.length := ⟨_, rfl⟩
  rw [← hn] at HV HM hlen ⊢
  have HN := Lib.hid hn
  obtain ⟨zn, hzn⟩ : ∃ zn, zn = zs.length := ⟨_, rfl⟩
  rw [← hzn] at HBY ⊢
  have HZN := Lib.hid hzn.symm
  obtain ⟨vo, hvo⟩ : ∃ vo, vo = valsOk zs := ⟨_, rfl⟩
  rw [← hvo] at HBY
  have HVO := Lib.hid hvo
  clear hc hic hle hn hz hzn hvo
  unfold ValidPost BoolPost at *
  go_enter Tryd.func50, Tryd.ntmps50
  go_wp2_with (fail)
  go_at_call 79
  refine (HV.out _ (below1 _ _)).mono ?_
  rintro e w1 ⟨q, rfl, hq, hb⟩
  have hb1 := (below1 w (.cells #[.slice a n cap] 25)).trans (hb.mono (by simp))
  have p0 : w1.cell? ⟨w.heap.size, 0, none⟩ = some (.slice a n cap) := by
    rw [hb.cell (p := ⟨w.heap.size, 0, none⟩) (by simp)]; simp [go_sem]
  have HB1 := Lib.hid hb1
  have HQ := Lib.hid hq
  clear hb hb1 HV hq
  cases q with
  | false =>
    go_wp2_with (fail)
    go_ret
    exact ⟨_, rfl, ⟨fun h => (by cases h), fun h => (by have := HQ.out.2 h.1; cases this)⟩, HB1.out⟩
  | true =>
    have hok : MachOk fs := HQ.out.1 rfl
    have h1 : 1 ≤ n := by rw [HN.out]; exact hok.1.1
    obtain ⟨b, off, rfl, hbl, c0⟩ := lastFn HM.out HN.out h1
    obtain ⟨pr, hpr⟩ : ∃ pr, pr = (mfAt fs (fs.length - 1)).params := ⟨_, rfl⟩
    rw [← hpr] at c0
    have HPR := Lib.hid hpr
    have HOK := Lib.hid hok
    have hnn : (n : Int) - 1 = ((n - 1 : Nat) : Int) := by omega
    have i0 : (0 : Int) ≤ ((n - 1 : Nat) : Int) := by omega
    have i1 : ((n - 1 : Nat) : Int) < n := by omega
    clear hpr hok HQ
    go_wp2_with (fail)
    go_at_call 80
    refine (HBY.out w1 HB1.out).mono ?_
    rintro e w2 ⟨rfl, hb2⟩
    have p2 : w2.cell? ⟨w.heap.size, 0, none⟩ = some (.slice (some ⟨b, off, none⟩) n cap) := by
      rw [hb2.cell (p := ⟨w.heap.size, 0, none⟩) (World.block_lt_of_cell? _ _ p0)]; exact p0
    have hB2 := HB1.out.trans (hb2.mono HB1.out.size)
    have c2 : w2.cell? ⟨b, off + (n - 1) * 3, none⟩ = some (.int .i64 pr) := by rw [hB2.cell (p := ⟨b, off + (n - 1) * 3, none⟩) hbl]; exact c0
    have HB2 := Lib.hid hB2
    clear hb2 hB2 HBY p0 c0
    cases vo with
    | false =>
      go_wp2_with (fail)
      go_ret
      exact ⟨_, rfl, ⟨fun h => (by cases h), fun h => (by have := h.2.1; rw [← HVO.out] at this; cases this)⟩, HB2.out⟩
    | true =>
      by_cases hzp : (zn : Int) = pr
      · have e2 : ((zn : Int) == pr) = true := by simpa using hzp
        have HZ := Lib.hid hzp
        clear hzp
        go_wp2_with (fail)
        go_ret
        refine ⟨_, rfl, ⟨fun _ => ⟨HOK.out, HVO.out.symm, ?_⟩, fun _ => rfl⟩, HB2.out⟩
        rw [HZN.out, ← HPR.out]; exact HZ.out
      · have e2 : ((zn : Int) == pr) = false := by simpa using hzp
        have HZ := Lib.hid hzp
        clear hzp
        go_wp2_with (fail)
        go_ret
        refine ⟨_, rfl, ⟨fun h => (by cases h), fun h => absurd ?_ HZ.out⟩, HB2.out⟩
        have := h.2.2
        rw [HZN.out, ← HPR.out] at this; exact this

end Go.Proofs.YtbdbmmdnidonjaaDoor
