/- Small functions of the run in spec: stop, cell, l5Truth, l5Two. -/
import Derived.Test.YtbdbmmdnidonjaaDoorSp
import Derived.Test.YtbdbmmdnidonjaaDoorSt
import Derived.Deep.RegionHeld3
set_option maxRecDepth 100000
namespace Go.Proofs.YtbdbmmdnidonjaaDoor
open Go.RowKit

set_option maxHeartbeats 1000000 in
theorem sstop_any (w : World) (pr n : Nat) (y : Value) (c2 : w.cell? ⟨pr, 2, none⟩ = some y) (c6 : w.cell? ⟨pr, 6, none⟩ = some (.bool false)) (hf : ∀ j, w.frozen? ⟨pr, j, none⟩ = false) :
    Calls Tryd.prog 109 #[.pointer (some ⟨pr, 0, none⟩), .int .i64 (n : Int)] w fun e w' => e = .returned (.tuple #[]) ∧ w' = (w.setCell ⟨pr, 2, none⟩ (.int .i64 (n : Int))).setCell ⟨pr, 6, none⟩ (.bool true) := by
  have f2 := hf 2
  have f6 := hf 6
  go_enter Tryd.func109, Tryd.ntmps109
  go_wp2_with (fail)
  go_end0
  exact ⟨rfl, rfl⟩

set_option maxHeartbeats 1000000 in
theorem scell_yes (w : World) (pr i : Nat) (hi : i < 16) :
    Calls Tryd.prog 134 #[.pointer (some ⟨pr, 0, none⟩), .int .i64 (i : Int)] w fun e w' => e = .returned (.bool true) ∧ w' = w := by
  have hh : (i : Int) < 16 := by omega
  go_enter Tryd.func134, Tryd.ntmps134
  go_wp2_with (fail)
  go_ret
  exact ⟨rfl, rfl⟩
set_option maxHeartbeats 1000000 in
theorem scell_no (w : World) (pr i : Nat) (hi : 16 ≤ i) (y : Value) (c2 : w.cell? ⟨pr, 2, none⟩ = some y) (c6 : w.cell? ⟨pr, 6, none⟩ = some (.bool false)) (hf : ∀ j, w.frozen? ⟨pr, j, none⟩ = false) :
    Calls Tryd.prog 134 #[.pointer (some ⟨pr, 0, none⟩), .int .i64 (i : Int)] w fun e w' => e = .returned (.bool false) ∧ w' = (w.setCell ⟨pr, 2, none⟩ (.int .i64 ((2 : Nat) : Int))).setCell ⟨pr, 6, none⟩ (.bool true) := by
  have HS := Lib.hid (sstop_any w pr 2 y c2 c6 hf)
  have hh : (16 : Int) ≤ i := by omega
  clear c2 c6 hf
  go_enter Tryd.func134, Tryd.ntmps134
  go_wp2_with (fail)
  go_at_call 109
  refine HS.out.mono ?_
  rintro e w2 ⟨rfl, rfl⟩
  go_wp2_with (fail)
  go_ret
  exact ⟨rfl, rfl⟩

set_option maxHeartbeats 1000000 in
theorem struth_any (w : World) (p : Bool) (v : Nat) (hv : v = if p then 1 else 0) : Calls Tryd.prog 133 #[.bool p] w fun e w' => e = .returned (.int .i64 (v : Int)) ∧ w' = w := by
  subst hv
  cases p
  · go_enter Tryd.func133, Tryd.ntmps133
    go_wp2_with (fail)
    go_ret
    exact ⟨rfl, rfl⟩
  · go_enter Tryd.func133, Tryd.ntmps133
    go_wp2_with (fail)
    go_ret
    exact ⟨rfl, rfl⟩

/-- what l5Two answers -/
def twoR : Option Nat → Value
  | some v => .tuple #[.int .i64 (v : Int), .int .i64 0]
  | none => .tuple #[.int .i64 0, .int .i64 1]

set_option maxHeartbeats 2000000 in
theorem two_any (w : World) (op a b : Nat) (h1 : 3 ≤ op) (h2 : op ≤ 9) (ha : a < 256) (hb : b < 256) :
    Calls Tryd.prog 135 #[.int .i64 (op : Int), .int .i64 (a : Int), .int .i64 (b : Int)] w fun e w' => e = .returned (twoR (arithN op a b)) ∧ w' = w := by
  have HT := Lib.hid (fun w' p v hv => struth_any w' p v hv)
  have hc : op = 3 ∨ op = 4 ∨ op = 5 ∨ op = 6 ∨ op = 7 ∨ op = 8 ∨ op = 9 := by omega
  rcases hc with rfl | rfl | rfl | rfl | rfl | rfl | rfl
  · go_enter Tryd.func135, Tryd.ntmps135
    go_wp2_with (fail)
    refine bodyPost_ret (v := .tuple #[.int .i64 (((a + b) % 256 : Nat) : Int), .int .i64 0]) (by simp [results, Tryd.results135, go_sem]) rfl ⟨?_, rfl⟩
    rfl
  · go_enter Tryd.func135, Tryd.ntmps135
    go_wp2_with (fail)
    refine bodyPost_ret (v := .tuple #[.int .i64 (((a + 256 - b) % 256 : Nat) : Int), .int .i64 0]) (by simp [results, Tryd.results135, go_sem]; omega) rfl ⟨?_, rfl⟩
    rfl
  · have hp0 : (0 : Int) ≤ (a : Int) * b := Int.mul_nonneg (by omega) (by omega)
    have hp1 : (a : Int) * b < 65536 := by
      have h := Nat.mul_lt_mul'' ha hb
      have h2 : ((a * b : Nat) : Int) < ((256 * 256 : Nat) : Int) := by exact_mod_cast h
      rw [Int.natCast_mul] at h2
      exact h2
    go_enter Tryd.func135, Tryd.ntmps135
    go_wp2_with (fail)
    refine bodyPost_ret (v := .tuple #[.int .i64 ((a * b % 256 : Nat) : Int), .int .i64 0]) (by simp [results, Tryd.results135, go_sem]) rfl ⟨?_, rfl⟩
    rfl
  · by_cases hb0 : b = 0
    · subst hb0
      go_enter Tryd.func135, Tryd.ntmps135
      go_wp2_with (fail)
      refine bodyPost_ret (v := .tuple #[.int .i64 0, .int .i64 1]) (by simp [results, Tryd.results135, go_sem]) rfl ⟨?_, rfl⟩
      rfl
    · have hbi : ¬ (b : Int) = 0 := by omega
      have hq0 : (0 : Int) ≤ (a : Int) / b := Int.ediv_nonneg (by omega) (by omega)
      have hq1 : (a : Int) / b < 256 := by
        have h := Nat.div_le_self a b
        have h2 : ((a / b : Nat) : Int) ≤ (a : Int) := by exact_mod_cast h
        rw [Int.natCast_ediv] at h2
        omega
      go_enter Tryd.func135, Tryd.ntmps135
      go_wp2_with (fail)
      refine bodyPost_ret (v := .tuple #[.int .i64 ((a / b : Nat) : Int), .int .i64 0]) (by simp [results, Tryd.results135, go_sem]) rfl ⟨?_, rfl⟩
      simp [twoR, arithN, hb0]
  · by_cases hb0 : b = 0
    · subst hb0
      go_enter Tryd.func135, Tryd.ntmps135
      go_wp2_with (fail)
      refine bodyPost_ret (v := .tuple #[.int .i64 0, .int .i64 1]) (by simp [results, Tryd.results135, go_sem]) rfl ⟨?_, rfl⟩
      rfl
    · have hbi : ¬ (b : Int) = 0 := by omega
      go_enter Tryd.func135, Tryd.ntmps135
      go_wp2_with (fail)
      refine bodyPost_ret (v := .tuple #[.int .i64 ((a % b : Nat) : Int), .int .i64 0]) (by simp [results, Tryd.results135, go_sem]) rfl ⟨?_, rfl⟩
      simp [twoR, arithN, hb0]
  · go_enter Tryd.func135, Tryd.ntmps135
    go_wp2_with (fail)
    obtain ⟨v, hv⟩ : ∃ v : Nat, v = if a < b then 1 else 0 := ⟨_, rfl⟩
    have hv2 : v = if decide (a < b) = true then 1 else 0 := by rw [hv]; simp
    have hav : twoR (arithN 8 a b) = .tuple #[.int .i64 (v : Int), .int .i64 0] := by rw [hv]; rfl
    have HAV := Lib.hid hav
    refine (HT.out _ _ v hv2).mono ?_
    rintro e _ ⟨rfl, rfl⟩
    clear hv hv2 hav
    go_wp2_with (fail)
    refine bodyPost_ret (v := .tuple #[.int .i64 (v : Int), .int .i64 0]) (by simp [results, Tryd.results135, go_sem]) rfl ⟨by rw [HAV.out], rfl⟩
  · go_enter Tryd.func135, Tryd.ntmps135
    go_wp2_with (fail)
    obtain ⟨v, hv⟩ : ∃ v : Nat, v = if a = b then 1 else 0 := ⟨_, rfl⟩
    have hv2 : v = if ((a : Int) == (b : Int)) = true then 1 else 0 := by rw [hv]; simp [Int.ofNat_inj]
    have hav : twoR (arithN 9 a b) = .tuple #[.int .i64 (v : Int), .int .i64 0] := by rw [hv]; rfl
    have HAV := Lib.hid hav
    refine (HT.out _ _ v hv2).mono ?_
    rintro e _ ⟨rfl, rfl⟩
    clear hv hv2 hav
    go_wp2_with (fail)
    refine bodyPost_ret (v := .tuple #[.int .i64 (v : Int), .int .i64 0]) (by simp [results, Tryd.results135, go_sem]) rfl ⟨by rw [HAV.out], rfl⟩

end Go.Proofs.YtbdbmmdnidonjaaDoor
