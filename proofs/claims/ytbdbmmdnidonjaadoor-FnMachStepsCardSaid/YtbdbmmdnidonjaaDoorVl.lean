/- Are numbers so many bytes: impl.bytesOk, spec.l5Values. -/
import Derived.Test.YtbdbmmdnidonjaaDoorMv
import Derived.Test.YtbdbmmdnidonjaaDoorSw
set_option maxRecDepth 100000
namespace Go.Proofs.YtbdbmmdnidonjaaDoor
open Go.RowKit

def valsOk (zs : List Int) : Bool := zs.all fun z => inR 0 255 z

set_option maxHeartbeats 1000000 in
theorem isByte_any (w : World) (z : Int) : Calls Tryd.prog 101 #[.int .i64 z] w fun e w' => e = .returned (.bool (inR 0 255 z)) ∧ w = w' := by
  obtain ⟨p, hp⟩ : ∃ p, inR 0 255 z = p := ⟨_, rfl⟩
  rw [hp]
  have HW := Lib.hid (within_named z 0 255 p hp)
  clear hp
  go_enter Tryd.func101, Tryd.ntmps101
  go_wp2_with (fail)
  go_at_call 52
  refine (HW.out _).mono ?_
  rintro e _ ⟨rfl, rfl⟩
  go_wp2_with (fail)
  go_ret
  exact ⟨rfl, rfl⟩

set_option maxHeartbeats 1000000 in
theorem bclo_any (w : World) (z : Int) (q : Bool) (hq : q = !inR 0 255 z) : Calls Tryd.prog 100 #[.int .i64 z] w fun e w' => e = .returned (.bool q) ∧ w = w' := by
  obtain ⟨p, hp⟩ : ∃ p, inR 0 255 z = p := ⟨_, rfl⟩
  rw [hp] at hq
  have HW := Lib.hid (isByte_any w z)
  rw [hp] at HW
  clear hp
  subst hq
  go_enter Tryd.func100, Tryd.ntmps100
  go_wp2_with (fail)
  go_at_call 101
  refine HW.out.mono ?_
  rintro e _ ⟨rfl, rfl⟩
  go_wp2_with (fail)
  go_ret
  exact ⟨rfl, rfl⟩

set_option maxHeartbeats 1000000 in
theorem idxInts_any (w : World) (v : Value) (zs : List Int) (h : IntsAt w v zs) (hm : zs.length ≤ 1099511627776) :
    Calls Tryd.prog 125 #[v, .func (.func 100) #[] #[]] w (IdxPost (zs.any fun z => !inR 0 255 z) w) := by
  obtain ⟨a, cap, rfl, hc⟩ := h
  obtain ⟨n, hl⟩ : ∃ n, n = zs.length := ⟨_, rfl⟩
  rw [← hl] at hm ⊢
  have Hc := Lib.hid hc
  have Hl := Lib.hid hl
  obtain ⟨p, hp⟩ : ∃ p, p = zs.any fun z => !inR 0 255 z := ⟨_, rfl⟩
  rw [← hp]
  have Hp := Lib.hid hp
  have HBC := Lib.hid (fun w' z q hq => bclo_any w' z q hq)
  clear hc hl hp
  unfold IdxPost
  go_enter Tryd.func125, Tryd.ntmps125
  go_wp2_with (fail)
  go_loopw [8] (fun i wr => ∃ k : Nat, k ≤ n ∧ i = .int .i64 k ∧ Hid (((zs.take k).any fun z => !inR 0 255 z) = false) ∧ Below w.heap.size w wr) (fun i _ => n - (intOf i).toNat)
  case atStart => exact ⟨0, Nat.zero_le _, rfl, by simp [Hid], Below.refl _ _⟩
  case round =>
    obtain ⟨k, hk, rfl, hno, hB⟩ := hrel
    obtain ⟨wo, rfl⟩ : ∃ wo : World, wo = wr := ⟨_, rfl⟩
    by_cases hlt : k < n
    · have hkl : k < zs.length := by rw [← Hl.out]; exact hlt
      obtain ⟨z, hz⟩ : ∃ z, z = zs[k] := ⟨_, rfl⟩
      obtain ⟨q, hq⟩ : ∃ q, q = !inR 0 255 z := ⟨_, rfl⟩
      have hmem : z ∈ zs := by rw [hz]; exact List.getElem_mem hkl
      have htk : ((zs.take (k + 1)).any fun z => !inR 0 255 z) = q := by
        rw [List.take_succ_eq_append_getElem hkl, List.any_append, hno.out, ← hz, hq]; simp
      obtain ⟨b, off, rfl, c0⟩ := Hc.out k hkl
      have hbl : b < w.heap.size := World.block_lt_of_cell? w ⟨b, off + k, none⟩ c0
      rw [← hB.cell (p := ⟨b, off + k, none⟩) hbl] at c0
      have hzz : zs.getD k 0 = z := by rw [hz, List.getD_eq_getElem?_getD, List.getElem?_eq_getElem hkl]; rfl
      rw [hzz] at c0
      have k0 : (0 : Int) ≤ k := by omega
      have k1 : (k : Int) < n := by omega
      have hpP : q = true → p = true := fun h => by rw [Hp.out, List.any_eq_true]; exact ⟨z, hmem, by rw [← hq]; exact h⟩
      have HQ := Lib.hid hq
      have HB := Lib.hid hB
      have HT := Lib.hid htk
      have HPP := Lib.hid hpP
      clear hB hz hmem hno hq htk hpP hzz
      go_wp2_with (fail)
      go_at_call 100
      refine (HBC.out wo z q HQ.out).mono ?_
      rintro e _ ⟨rfl, rfl⟩
      cases q
      · go_wp2_with (fail)
        go_roundw
        case rel => exact ⟨k + 1, by omega, by go_num, HT, HB.out⟩
        case measure => simp [intOf]; omega
      · go_wp2_with (fail)
        go_ret
        have hpt : p = true := by simpa using HPP.out
        exact ⟨_, rfl, by rw [hpt]; simp, HB.out⟩
    · obtain rfl : k = n := by omega
      have hall : zs.take k = zs := by rw [Hl.out]; exact List.take_length
      rw [hall] at hno
      go_wp2_with (fail)
      go_ret
      exact ⟨_, rfl, by rw [Hp.out, hno.out]; rfl, hB⟩

set_option maxHeartbeats 1000000 in
theorem containsInts_any (w : World) (v : Value) (zs : List Int) (h : IntsAt w v zs) (hm : zs.length ≤ 1099511627776) :
    Calls Tryd.prog 99 #[v, .func (.func 100) #[] #[]] w (BoolPost (!valsOk zs) w) := by
  have e : (!valsOk zs) = zs.any fun z => !inR 0 255 z := by unfold valsOk; rw [List.not_all_eq_any_not]
  rw [e]
  have HI := Lib.hid (idxInts_any w v zs h hm)
  obtain ⟨a, cap, rfl, hc⟩ := h
  generalize (zs.any fun z => !inR 0 255 z) = p at *
  generalize zs.length = n at *
  clear hc hm e
  unfold BoolPost
  go_enter Tryd.func99, Tryd.ntmps99
  go_wp2_with (fail)
  go_at_call 125
  refine HI.out.mono ?_
  rintro e w1 ⟨z, rfl, hz, hb⟩
  subst hz
  go_wp2_with (fail)
  go_ret
  exact ⟨rfl, hb⟩

set_option maxHeartbeats 1000000 in
theorem bytesOk_any (w : World) (v : Value) (zs : List Int) (m : Int) (h : IntsAt w v zs) (hm : zs.length ≤ 1099511627776) :
    Calls Tryd.prog 75 #[v, .int .i64 m] w (BoolPost (decide ((zs.length : Int) = m) && valsOk zs) w) := by
  have HI := Lib.hid (containsInts_any w v zs h hm)
  obtain ⟨a, cap, rfl, hc⟩ := h
  generalize valsOk zs = p at *
  generalize zs.length = n at *
  clear hc
  unfold BoolPost at *
  by_cases hn : (n : Int) = m
  · have e1 : decide ((n : Int) = m) = true := by simpa using hn
    have e2 : ((n : Int) == m) = true := by simpa using hn
    rw [e1]
    subst hn
    go_enter Tryd.func75, Tryd.ntmps75
    go_wp2_with (fail)
    go_at_call 99
    refine HI.out.mono ?_
    rintro e w1 ⟨rfl, hb⟩
    go_wp2_with (fail)
    go_ret
    exact ⟨by simp, hb⟩
  · have e1 : decide ((n : Int) = m) = false := by simpa using hn
    have e2 : ((n : Int) == m) = false := by simpa using hn
    rw [e1]
    go_enter Tryd.func75, Tryd.ntmps75
    go_wp2_with (fail)
    go_ret
    exact ⟨rfl, Below.refl _ _⟩

set_option maxHeartbeats 1000000 in
theorem l5Values_any (w : World) (v : Value) (zs : List Int) (h : IntsAt w v zs) (hm : zs.length ≤ 1099511627776) :
    Calls Tryd.prog 80 #[v] w (BoolPost (valsOk zs) w) := by
  obtain ⟨a, cap, rfl, hc⟩ := h
  obtain ⟨n, hl⟩ : ∃ n, n = zs.length := ⟨_, rfl⟩
  rw [← hl] at hm ⊢
  have Hc := Lib.hid hc
  have Hl := Lib.hid hl
  obtain ⟨p, hp⟩ : ∃ p, p = valsOk zs := ⟨_, rfl⟩
  rw [← hp]
  have Hp := Lib.hid hp
  have HL := Lib.hid (fun w' z q hq => l1In_named z 0 255 q hq w')
  clear hc hl hp
  unfold BoolPost
  go_enter Tryd.func80, Tryd.ntmps80
  go_wp2_with (fail)
  go_loopw [3] (fun i wr => ∃ k : Nat, k ≤ n ∧ i = .int .i64 k ∧ Hid (valsOk (zs.take k) = true) ∧ Below w.heap.size w wr) (fun i _ => n - (intOf i).toNat)
  case atStart => exact ⟨0, Nat.zero_le _, rfl, by simp [Hid, valsOk], Below.refl _ _⟩
  case round =>
    obtain ⟨k, hk, rfl, hno, hB⟩ := hrel
    obtain ⟨wo, rfl⟩ : ∃ wo : World, wo = wr := ⟨_, rfl⟩
    by_cases hlt : k < n
    · have hkl : k < zs.length := by rw [← Hl.out]; exact hlt
      obtain ⟨z, hz⟩ : ∃ z, z = zs[k] := ⟨_, rfl⟩
      obtain ⟨q, hq⟩ : ∃ q, inR 0 255 z = q := ⟨_, rfl⟩
      have hmem : z ∈ zs := by rw [hz]; exact List.getElem_mem hkl
      have htk : valsOk (zs.take (k + 1)) = q := by
        have h1 := hno.out
        unfold valsOk at h1 ⊢
        rw [List.take_succ_eq_append_getElem hkl, List.all_append, h1, ← hz]; simp [hq]
      obtain ⟨b, off, rfl, c0⟩ := Hc.out k hkl
      have hbl : b < w.heap.size := World.block_lt_of_cell? w ⟨b, off + k, none⟩ c0
      rw [← hB.cell (p := ⟨b, off + k, none⟩) hbl] at c0
      have hzz : zs.getD k 0 = z := by rw [hz, List.getD_eq_getElem?_getD, List.getElem?_eq_getElem hkl]; rfl
      rw [hzz] at c0
      have k0 : (0 : Int) ≤ k := by omega
      have k1 : (k : Int) < n := by omega
      have hpP : q = false → p = false := fun h => by
        rw [Hp.out]
        cases hv : valsOk zs
        · rfl
        · have := List.all_eq_true.1 hv z hmem
          rw [hq, h] at this; cases this
      have HQ := Lib.hid hq
      have HB := Lib.hid hB
      have HT := Lib.hid htk
      have HPP := Lib.hid hpP
      clear hB hz hmem hno hq htk hpP hzz
      go_wp2_with (fail)
      go_at_call 61
      refine (HL.out wo z q HQ.out).mono ?_
      rintro e _ ⟨rfl, rfl⟩
      cases q
      · go_wp2_with (fail)
        go_ret
        have hpt : p = false := by simpa using HPP.out
        exact ⟨by rw [hpt]; rfl, HB.out⟩
      · go_wp2_with (fail)
        go_roundw
        case rel => exact ⟨k + 1, by omega, by go_num, HT, HB.out⟩
        case measure => simp [intOf]; omega
    · obtain rfl : k = n := by omega
      have hall : zs.take k = zs := by rw [Hl.out]; exact List.take_length
      rw [hall] at hno
      go_wp2_with (fail)
      go_ret
      exact ⟨by rw [Hp.out, hno.out]; rfl, hB⟩

end Go.Proofs.YtbdbmmdnidonjaaDoor
