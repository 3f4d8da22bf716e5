/- Is a program of the machine valid, as the reference has it: spec.MachValid. -/
import Derived.Test.YtbdbmmdnidonjaaDoorSi
set_option maxRecDepth 100000
namespace Go.Proofs.YtbdbmmdnidonjaaDoor
open Go.RowKit

theorem sumIns_take_le (fs : List Mf) (k : Nat) : sumIns (fs.take k) ≤ sumIns fs := by
  have h : sumIns fs = sumIns (fs.take k) + sumIns (fs.drop k) := by rw [← sumIns_append, List.take_append_drop]
  have nn : ∀ l : List Mf, 0 ≤ sumIns l := by
    intro l
    induction l with
    | nil => simp [sumIns]
    | cons f l ih => show (0 : Int) ≤ (f.ins.length : Int) + sumIns l; omega
  have := nn (fs.drop k)
  omega

set_option maxHeartbeats 4000000 in
theorem specValid_any (w : World) (v : Value) (fs : List Mf) (hm : MfsAt w v fs) (hle : MfsLe fs) :
    Calls Tryd.prog 79 #[.agg #[v]] w (ValidPost fs w) := by
  have HM := Lib.hid hm
  have HLE := Lib.hid hle
  have hlen := hle.1
  obtain ⟨a, cap, rfl, hc⟩ := hm
  obtain ⟨n, hn⟩ : ∃ n, n = fs.length := ⟨_, rfl⟩
  rw [← hn] at HM hlen ⊢
  obtain ⟨pn, hpn⟩ : ∃ pn, inR 1 4 (n : Int) = pn := ⟨_, rfl⟩
  have HW := Lib.hid (l1In_named (n : Int) 1 4 pn hpn)
  have HPN := Lib.hid hpn
  have Hn := Lib.hid hn
  clear hle hc hpn hn
  have h0 : (w.alloc (.cells #[.slice a n cap] 25)).cell? ⟨w.heap.size, 0, none⟩ = some (.slice a n cap) := by
    rw [World.cell?_alloc_at _ _ _ _ rfl]; rfl
  unfold ValidPost
  go_enter Tryd.func79, Tryd.ntmps79
  go_wp2_with (fail)
  go_at_call 61
  refine (HW.out _).mono ?_
  rintro e w1 ⟨rfl, hw1⟩
  rw [hw1] at h0
  have HB1 : Hid (Below w.heap.size w w1) := by rw [← hw1]; exact Lib.hid (below1 _ _)
  have hsz : w.heap.size < w1.heap.size := by rw [← hw1]; simp
  clear hw1
  cases pn
  · go_wp2_with (fail)
    go_ret
    refine ⟨_, rfl, ⟨(fun h => by cases h), fun h => ?_⟩, HB1.out⟩
    have := HPN.out
    obtain ⟨⟨h1, h2⟩, _⟩ := h
    rw [← Hn.out] at h1 h2
    have h3 : inR 1 4 (n : Int) = true := inR_iff.mpr ⟨by omega, by omega⟩
    rw [this] at h3; cases h3
  have hn4 : 1 ≤ n ∧ n ≤ 4 := by
    have := inR_iff.mp HPN.out
    omega
  clear HPN HW hlen
  go_wp2_with (fail)
  go_loopw [3, 4] (fun s i wr => ∃ (k : Nat) (q : Int), k ≤ n ∧ i = .int .i64 k ∧ s = .int .i64 q ∧ Hid (q = sumIns (fs.take k)) ∧ 0 ≤ q ∧ q ≤ 2000 ∧ Hid (∀ j f, j < k → fs[j]? = some f → fnOk j f = true) ∧ Below w1.heap.size w1 wr) (fun _ i _ => n - (intOf i).toNat)
  case atStart => exact ⟨0, 0, Nat.zero_le _, rfl, rfl, by simp [Hid, sumIns], by omega, by omega, by simp [Hid], Below.refl _ _⟩
  case round =>
    obtain ⟨k, q, hk, rfl, rfl, hq, hq0, hq1, hall, hB⟩ := hrel
    obtain ⟨wo, rfl⟩ : ∃ wo : World, wo = wr := ⟨_, rfl⟩
    have e0 : wo.cell? ⟨w.heap.size, 0, none⟩ = some (.slice a n cap) := by rw [hB.cell (p := ⟨w.heap.size, 0, none⟩) hsz]; exact h0
    by_cases hlt : k < n
    · have hkl : k < fs.length := by rw [← Hn.out]; exact hlt
      obtain ⟨f, hf⟩ : ∃ f, f = fs[k] := ⟨_, rfl⟩
      have hfk : fs[k]? = some f := by rw [hf]; exact List.getElem?_eq_getElem hkl
      have hmem : f ∈ fs := by rw [hf]; exact List.getElem_mem hkl
      have hil := HLE.out.2 f hmem
      have hq' : q + f.ins.length = sumIns (fs.take (k + 1)) := by rw [take_snocF fs k f hfk, hq.out]
      have hBw := HB1.out.trans (hB.mono (Nat.le_of_lt hsz))
      obtain ⟨b, off, cap', iv, hv, hb, c0, c1, c2, hmi⟩ := HM.out.get hfk
      have hmi2 := hmi
      obtain ⟨la, lc, rfl, _⟩ := hmi2
      injection hv with hv1 hv2 hv3
      subst hv1 hv3
      clear hv2
      have d0 := c0; have d1 := c1; have d2 := c2
      rw [← hBw.cell (p := ⟨b, off + k * 3, none⟩) hb] at d0
      rw [← hBw.cell (p := ⟨b, off + k * 3 + 1, none⟩) hb] at d1
      rw [← hBw.cell (p := ⟨b, off + k * 3 + 2, none⟩) hb] at d2
      have k0 : (0 : Int) ≤ k := by omega
      have k1 : (k : Int) < n := by omega
      obtain ⟨nl, hnl⟩ : ∃ nl, nl = f.ins.length := ⟨_, rfl⟩
      rw [← hnl] at hil hq' d2
      obtain ⟨pr, hpr⟩ : ∃ p, p = f.params := ⟨_, rfl⟩
      rw [← hpr] at d0
      obtain ⟨sl, hsl⟩ : ∃ p, p = f.slots := ⟨_, rfl⟩
      rw [← hsl] at d1
      obtain ⟨pa, hpa⟩ : ∃ p, inR 0 3 pr = p := ⟨_, rfl⟩
      obtain ⟨pb, hpb⟩ : ∃ p, inR 0 64 sl = p := ⟨_, rfl⟩
      have WA := Lib.hid (l1In_named pr 0 3 pa hpa)
      have WB := Lib.hid (l1In_named sl 0 64 pb hpb)
      have HNL := Lib.hid hnl
      have HPR := Lib.hid hpr
      have HSL := Lib.hid hsl
      have HPA := Lib.hid hpa
      have HPB := Lib.hid hpb
      have HFK := Lib.hid hfk
      have HMI := Lib.hid hmi
      have HQ := Lib.hid hq'
      have HBW := Lib.hid hBw
      have HB := Lib.hid hB
      clear hnl hpr hsl hpa hpb hf hfk hmem hq hmi hq' hBw hB c0 c1 c2
      go_wp2_with (fail)
      go_at_call 61
      refine (WA.out _).mono ?_
      rintro e w2 ⟨rfl, hw2⟩
      have g1 : w2.cell? ⟨wo.heap.size, 0, none⟩ = some (.int .i64 pr) := by
        rw [← hw2]; simp [go_sem]
      have g2 : w2.cell? ⟨wo.heap.size, 1, none⟩ = some (.int .i64 sl) := by
        rw [← hw2]; simp [go_sem]
      have g3 : w2.cell? ⟨wo.heap.size, 2, none⟩ = some (.slice la nl lc) := by
        rw [← hw2]; simp [go_sem]
      have hB2 : Below wo.heap.size wo w2 := by
        rw [← hw2]; (repeat' (first | exact Below.refl _ _ | assumption | (refine Below.setCell ?_ ?_ _) | (refine Below.alloc ?_ ?_ _) | (refine belowDrewN ?_ _) | omega | (simp; done) | (simp; omega)))
      clear hw2 WA d0 d1 d2
      have NO : fnOk k f = false → ¬ MachOk fs := fun h hM => by
        have := hM.2.1 k f HFK.out
        rw [h] at this; cases this
      have HNO := Lib.hid NO
      have hBw2 : Below w.heap.size w w2 := HBW.out.trans (hB2.mono (HBW.out.size))
      have hB12 : Below w1.heap.size w1 w2 := HB.out.trans (hB2.mono (HB.out.size))
      have e0' : w2.cell? ⟨w.heap.size, 0, none⟩ = some (.slice (some ⟨b, off, none⟩) n cap) := by
        rw [hB2.cell (p := ⟨w.heap.size, 0, none⟩) (by have := HB.out.size; show w.heap.size < wo.heap.size; omega)]; exact e0
      have HM2 : Hid (MfsAt w2 (.slice (some ⟨b, off, none⟩) n cap) fs) := Lib.hid (HM.out.below hBw2)
      have HI2 : Hid (MisAt w2 (.slice la nl lc) f.ins) := by rw [HNL.out]; exact Lib.hid (HMI.out.below hBw2)
      have HBw2 := Lib.hid hBw2
      have HB12 := Lib.hid hB12
      have hwlt : wo.heap.size < w2.heap.size := World.block_lt_of_cell? _ _ g1
      have E0 := Lib.hid e0'
      have G3 := Lib.hid g3
      clear NO hBw2 hB12 hB2 e0 e0' HB HBW HMI
      cases pa
      · go_wp2_with (fail)
        go_ret
        refine ⟨_, rfl, ⟨(fun h => by cases h), fun h => absurd h (HNO.out ?_)⟩, HBw2.out⟩
        unfold fnOk; rw [← HPR.out, HPA.out]; rfl
      go_wp2_with (fail)
      go_at_call 61
      refine (WB.out _).mono ?_
      rintro e _ ⟨rfl, rfl⟩
      cases pb
      · go_wp2_with (fail)
        go_ret
        refine ⟨_, rfl, ⟨(fun h => by cases h), fun h => absurd h (HNO.out ?_)⟩, HBw2.out⟩
        unfold fnOk; rw [← HPR.out, HPA.out, ← HSL.out, HPB.out]; rfl
      cases nl with
      | zero =>
        go_wp2_with (fail)
        go_ret
        refine ⟨_, rfl, ⟨(fun h => by cases h), fun h => absurd h (HNO.out ?_)⟩, HBw2.out⟩
        unfold fnOk; rw [← HNL.out]; simp
      | succ m =>
      have dz : ((m : Int) + 1 == 0) = false := by
        have : ¬ ((m : Int) + 1 = 0) := by omega
        simpa using this
      by_cases hbig : 2000 < q + (m + 1 : Nat)
      · have db : decide (2000 < q + ((m : Int) + 1)) = true := by simp; omega
        go_wp2_with (fail)
        go_ret
        refine ⟨_, rfl, ⟨(fun h => by cases h), fun h => ?_⟩, HBw2.out⟩
        have h1 := h.2.2
        have h2 := sumIns_take_le fs (k + 1)
        rw [← HQ.out] at h2
        omega
      have db : decide (2000 < q + ((m : Int) + 1)) = false := by simp; omega
      have hml : m < f.ins.length := by rw [← HNL.out]; omega
      obtain ⟨x, hx⟩ : ∃ x, f.ins[m]? = some x := ⟨_, List.getElem?_eq_getElem hml⟩
      have hlo : lastOp f = x.op := by unfold lastOp; rw [← HNL.out, Nat.add_sub_cancel, hx]; rfl
      obtain ⟨la', lc', hv, hcc⟩ := HI2.out
      injection hv with hv1 hv2 hv3
      subst hv1 hv3
      obtain ⟨bi, oi, rfl, x0, _⟩ := hcc m x hx
      obtain ⟨lo, hlo2⟩ : ∃ lo, lo = x.op := ⟨_, rfl⟩
      rw [← hlo2] at hlo x0
      have HLO := Lib.hid hlo
      have HCC := Lib.hid hcc
      have X0 := Lib.hid x0
      clear hcc hv2 hx hlo hlo2 x0
      have hPA' : inR 0 3 f.params = true := by rw [← HPR.out]; exact HPA.out
      have hPB' : inR 0 64 f.slots = true := by rw [← HSL.out]; exact HPB.out
      have hr1 := inR_iff.mp hPA'
      have hr2 := inR_iff.mp hPB'
      have HCI := Lib.hid (fun (w' : World) (x : Mi) (hb : Below w2.heap.size w2 w') => l22Ins_any w' _ fs k f x (HM2.out.below hb) HFK.out HLE.out.1 hr2.1 hr2.2 hr1.1 hr1.2 (HLE.out.2 f (List.mem_of_getElem? HFK.out)))
      clear hPA' hPB' hr1 hr2 WB g1 g2
      unfold BoolPost at HCI
      go_wp2_with (fail)
      clear db
      go_loopw [6] (fun i wr => ∃ j : Nat, j ≤ m + 1 ∧ i = .int .i64 j ∧ Hid ((f.ins.take j).any (fun x => !insOk k f x) = false) ∧ Below w2.heap.size w2 wr) (fun i _ => m + 1 - (intOf i).toNat)
      case atStart => exact ⟨0, Nat.zero_le _, rfl, by simp [Hid], Below.refl _ _⟩
      case round =>
        obtain ⟨j, hj, rfl, hno, hB⟩ := hrel
        obtain ⟨wi, rfl⟩ : ∃ wi : World, wi = wr := ⟨_, rfl⟩
        have g3' : wi.cell? ⟨wo.heap.size, 2, none⟩ = some (.slice (some ⟨bi, oi, none⟩) (m + 1) lc) := by rw [hB.cell (p := ⟨wo.heap.size, 2, none⟩) hwlt]; exact G3.out
        by_cases hlt2 : j < m + 1
        · have hjl : j < f.ins.length := by rw [← HNL.out]; exact hlt2
          obtain ⟨y, hy⟩ : ∃ y, y = f.ins[j] := ⟨_, rfl⟩
          have hyk : f.ins[j]? = some y := by rw [hy]; exact List.getElem?_eq_getElem hjl
          have hymem : y ∈ f.ins := by rw [hy]; exact List.getElem_mem hjl
          have htk : (f.ins.take (j + 1)).any (fun x => !insOk k f x) = !insOk k f y := by
            rw [List.take_succ_eq_append_getElem hjl, List.any_append, hno.out, ← hy]; simp
          have hbad : insOk k f y = false → fnOk k f = false := fun h => by
            unfold fnOk
            have : f.ins.any (fun x => !insOk k f x) = true := by rw [List.any_eq_true]; exact ⟨y, hymem, by rw [h]; rfl⟩
            rw [this]; simp
          obtain ⟨b', off', hv', y0, y1, y2, y3, y4⟩ := HCC.out j y hyk
          injection hv' with hv'
          injection hv' with hv1 hv2 _
          subst hv1 hv2
          have hbl : bi < w2.heap.size := World.block_lt_of_cell? w2 ⟨bi, oi + j * 5, none⟩ y0
          rw [← hB.cell (p := ⟨bi, oi + j * 5, none⟩) hbl] at y0
          rw [← hB.cell (p := ⟨bi, oi + j * 5 + 1, none⟩) hbl] at y1
          rw [← hB.cell (p := ⟨bi, oi + j * 5 + 2, none⟩) hbl] at y2
          rw [← hB.cell (p := ⟨bi, oi + j * 5 + 3, none⟩) hbl] at y3
          rw [← hB.cell (p := ⟨bi, oi + j * 5 + 4, none⟩) hbl] at y4
          have e1 : wi.cell? ⟨w.heap.size, 0, none⟩ = some (.slice (some ⟨b, off, none⟩) n cap) := by rw [hB.cell (p := ⟨w.heap.size, 0, none⟩) (by have := HB12.out.size; show w.heap.size < w2.heap.size; omega)]; exact E0.out
          have HCX := Lib.hid (HCI.out wi.drew y hB.drew)
          obtain ⟨p, hp⟩ : ∃ p, p = insOk k f y := ⟨_, rfl⟩
          rw [← hp] at HCX htk hbad
          have HT := Lib.hid htk
          have HBAD := Lib.hid hbad
          have hdw := hB.drew
          have HD := Lib.hid hdw
          have j0 : (0 : Int) ≤ j := by omega
          have j1 : (j : Int) < (m + 1 : Nat) := by omega
          clear hy hyk hymem htk hbad hp hno hdw hB HCI
          go_wp2_with (fail)
          go_still_tail 7, (by kernel_rfl)
          change wpList _ _ _ _ _ wi.drew
          generalize wi.drew = w5 at *
          clear e1 y0 y1 y2 y3 y4 g3'
          go_wp2_with (fail)
          go_at_call 108
          refine HCX.out.mono ?_
          rintro e w6 ⟨rfl, hb6⟩
          have HB6 := Lib.hid (HD.out.trans (hb6.mono HD.out.size))
          clear hb6 HCX
          cases p
          · go_wp2_with (fail)
            go_ret
            exact ⟨_, rfl, ⟨(fun h => by cases h), fun h => absurd h (HNO.out (by simpa using HBAD.out))⟩, HBw2.out.trans (HB6.out.mono HBw2.out.size)⟩
          · go_wp2_with (fail)
            go_roundw
            case rel => exact ⟨j + 1, by omega, by go_num, HT, HB6.out⟩
            case measure => simp [intOf]; omega
        · obtain rfl : j = m + 1 := by omega
          have hnone : f.ins.any (fun x => !insOk k f x) = false := by
            have : f.ins.take (m + 1) = f.ins := by rw [HNL.out]; exact List.take_length
            rw [this] at hno; exact hno.out
          have HNONE := Lib.hid hnone
          have x0 : wi.cell? ⟨bi, oi + m * 5, none⟩ = some (.int .i64 lo) := by
            rw [hB.cell (p := ⟨bi, oi + m * 5, none⟩) (World.block_lt_of_cell? _ _ X0.out)]; exact X0.out
          have hmm : ((m + 1 : Nat) : Int) - 1 = m := by omega
          have hm0 : (0 : Int) ≤ m := by omega
          have HB13 := Lib.hid (HB12.out.trans (hB.mono HB12.out.size))
          have HBw3 := Lib.hid (HBw2.out.trans (hB.mono HBw2.out.size))
          clear hnone hno hB HCI
          by_cases hl2 : lo = 20 ∨ lo = 22
          case neg =>
            have hl20 : ¬ lo = 20 := fun h => hl2 (.inl h)
            have hl22 : ¬ lo = 22 := fun h => hl2 (.inr h)
            have d20 : decide (lo = 20) = false := by simpa using hl20
            have d22 : decide (lo = 22) = false := by simpa using hl22
            have b20 : (lo == 20) = false := by simpa using hl20
            have b22 : (lo == 22) = false := by simpa using hl22
            have n20 : (lo != 20) = true := by simpa using hl20
            have n22 : (lo != 22) = true := by simpa using hl22
            go_wp2_with (fail)
            go_ret
            refine ⟨_, rfl, ⟨(fun h => by cases h), fun h => absurd h (HNO.out ?_)⟩, HBw3.out⟩
            unfold fnOk lastOk
            rw [HLO.out]
            simp [hl20, hl22]
          have hLK : lastOk f = true := by
            unfold lastOk; rw [HLO.out]
            rcases hl2 with h | h <;> simp [h]
          have hfo : fnOk k f = true := by
            unfold fnOk
            rw [← HPR.out, ← HSL.out, HPA.out, HPB.out, hLK, HNONE.out, ← HNL.out]; simp
          have HFO := Lib.hid hfo
          clear hLK hfo HLO
          rcases hl2 with rfl | rfl
          all_goals
            go_wp2_with (fail)
            go_roundw
            case rel =>
              refine ⟨k + 1, q + ((m + 1 : Nat) : Int), by omega, by go_num, by go_num, HQ, by omega, by omega, ?_, HB13.out⟩
              apply Lib.hid
              intro j f' hj hf'
              rcases Nat.lt_or_ge j k with h | h
              · exact hall.out j f' h hf'
              · obtain rfl : j = k := by omega
                rw [HFK.out] at hf'; injection hf' with hf'; rw [← hf']; exact HFO.out
            case measure => simp [intOf]; omega
    · obtain rfl : k = n := by omega
      have hqq : q = sumIns fs := by rw [hq.out]; congr 1; rw [Hn.out]; exact List.take_length
      have hB' := HB1.out.trans (hB.mono (Nat.le_of_lt hsz))
      have HQQ := Lib.hid hqq
      clear hqq
      go_wp2_with (fail)
      go_ret
      refine ⟨_, rfl, ⟨fun h => ⟨by rw [← Hn.out]; exact hn4, fun j f hf => hall.out j f (by rw [Hn.out]; exact idx_lt hf) hf, by rw [← HQQ.out]; exact hq1⟩, fun h => rfl⟩, hB'⟩

end Go.Proofs.YtbdbmmdnidonjaaDoor
