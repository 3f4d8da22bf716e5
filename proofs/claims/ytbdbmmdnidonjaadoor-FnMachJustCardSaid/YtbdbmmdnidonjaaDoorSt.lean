/- Small functions of the machine: stop, tick, cell, arith. -/
import Derived.Test.YtbdbmmdnidonjaaDoorRp
import Derived.Deep.RegionHeld3
set_option maxRecDepth 100000
namespace Go.Proofs.YtbdbmmdnidonjaaDoor
open Go.RowKit

/-- the panic that ends a run -/
def endChain (n : Nat) : List PanicEntry := [{ v := .iface 165 (.int .i64 (n : Int)), recovered := false }]

set_option maxHeartbeats 1000000 in
theorem stop_any (w : World) (n : Nat) : Calls Tryd.prog 127 #[.int .i64 (n : Int)] w fun e w' => e = .panicked (endChain n) ∧ w = w' := by
  go_enter Tryd.func127, Tryd.ntmps127
  go_wp2_with (fail)
  exact ⟨rfl, rfl, rfl⟩

set_option maxHeartbeats 1000000 in
theorem tick_no (w : World) (pm : Nat) (T : Int) (c0 : w.cell? ⟨pm, 0, none⟩ = some (.int .i64 T)) (c1 : w.cell? ⟨pm, 1, none⟩ = some (.int .i64 T)) :
    Calls Tryd.prog 106 #[.pointer (some ⟨pm, 0, none⟩)] w fun e w' => e = .panicked (endChain 3) ∧ ∃ n, w' = w.drewN n := by
  have HS := Lib.hid (fun w' => stop_any w' 3)
  have d0 : ∀ m, (w.drewN m).cell? ⟨pm, 0, none⟩ = some (.int .i64 T) := fun _ => c0
  have d1 : ∀ m, (w.drewN m).cell? ⟨pm, 1, none⟩ = some (.int .i64 T) := fun _ => c1
  go_enter Tryd.func106, Tryd.ntmps106
  go_wp2_with (fail)
  go_quiet (fail)
  go_wp2_with (fail)
  go_at_call 127
  refine (HS.out _).mono ?_
  rintro e _ ⟨rfl, rfl⟩
  go_wp2_with (fail)
  exact ⟨rfl, rfl, _, rfl⟩

set_option maxHeartbeats 1000000 in
theorem tick_yes (w : World) (pm T u : Nat) (hT : T ≤ 1000000) (hu : u < T) (c0 : w.cell? ⟨pm, 0, none⟩ = some (.int .i64 T)) (c1 : w.cell? ⟨pm, 1, none⟩ = some (.int .i64 u)) (hf : w.frozen? ⟨pm, 1, none⟩ = false) :
    Calls Tryd.prog 106 #[.pointer (some ⟨pm, 0, none⟩)] w fun e w' => e = .returned (.tuple #[]) ∧ ∃ n, w' = (w.drewN n).setCell ⟨pm, 1, none⟩ (.int .i64 ((u + 1 : Nat) : Int)) := by
  have d0 : ∀ m, (w.drewN m).cell? ⟨pm, 0, none⟩ = some (.int .i64 T) := fun _ => c0
  have d1 : ∀ m, (w.drewN m).cell? ⟨pm, 1, none⟩ = some (.int .i64 u) := fun _ => c1
  have df : ∀ m, (w.drewN m).frozen? ⟨pm, 1, none⟩ = false := fun _ => hf
  have hne : ((u : Int) == (T : Int)) = false := by simpa using (by omega : (u : Int) ≠ T)
  have hne2 : decide ((u : Int) = (T : Int)) = false := by simpa using (by omega : (u : Int) ≠ T)
  have hne3 : ((u : Int) != (T : Int)) = true := by simpa using (by omega : (u : Int) ≠ T)
  go_enter Tryd.func106, Tryd.ntmps106
  go_wp2_with (fail)
  go_quiet (fail)
  go_wp2_with (fail)
  go_end0
  exact ⟨rfl, _, by go_num⟩

set_option maxHeartbeats 1000000 in
theorem cell_no (w : World) (pm i : Nat) (hi : 16 ≤ i) :
    Calls Tryd.prog 129 #[.pointer (some ⟨pm, 0, none⟩), .int .i64 (i : Int)] w fun e w' => e = .panicked (endChain 2) ∧ w = w' := by
  have HS := Lib.hid (fun w' => stop_any w' 2)
  have hh : (16 : Int) ≤ i := by omega
  go_enter Tryd.func129, Tryd.ntmps129
  go_wp2_with (fail)
  go_at_call 127
  refine (HS.out _).mono ?_
  rintro e _ ⟨rfl, rfl⟩
  go_wp2_with (fail)
  exact ⟨rfl, rfl, rfl⟩
set_option maxHeartbeats 1000000 in
theorem cell_yes (w : World) (pm i : Nat) (hi : i < 16) :
    Calls Tryd.prog 129 #[.pointer (some ⟨pm, 0, none⟩), .int .i64 (i : Int)] w fun e w' => e = .returned (.pointer (some ⟨pm, 3 + i, none⟩)) ∧ w = w' := by
  have h0 : (0 : Int) ≤ i := by omega
  have hh : (i : Int) < 16 := by omega
  go_enter Tryd.func129, Tryd.ntmps129
  go_wp2_with (fail)
  go_ret
  exact ⟨by go_num, rfl⟩

set_option maxHeartbeats 1000000 in
theorem truth_any (w : World) (p : Bool) : Calls Tryd.prog 149 #[.bool p] w fun e w' => e = .returned (.int .i64 ((if p then 1 else 0 : Nat) : Int)) ∧ w = w' := by
  cases p
  · go_enter Tryd.func149, Tryd.ntmps149
    go_wp2_with (fail)
    go_ret
    exact ⟨rfl, rfl⟩
  · go_enter Tryd.func149, Tryd.ntmps149
    go_wp2_with (fail)
    go_ret
    exact ⟨rfl, rfl⟩

theorem truth_named (w : World) (p : Bool) (v : Nat) (hv : v = if p then 1 else 0) : Calls Tryd.prog 149 #[.bool p] w fun e w' => e = .returned (.int .i64 (v : Int)) ∧ w = w' := by
  rw [hv]; exact truth_any w p

def arithV (op a b : Nat) : Value :=
  match arithN op a b with
  | some v => .tuple #[.int .i64 (v : Int), .bool true]
  | none => .tuple #[.int .i64 0, .bool false]

set_option maxHeartbeats 2000000 in
theorem arith_any (w : World) (op a b : Nat) (h1 : 3 ≤ op) (h2 : op ≤ 9) (ha : a < 256) (hb : b < 256) :
    Calls Tryd.prog 128 #[.int .i64 (op : Int), .int .i64 (a : Int), .int .i64 (b : Int)] w fun e w' => e = .returned (arithV op a b) ∧ w = w' := by
  have HT := Lib.hid (fun w' p v hv => truth_named w' p v hv)
  have hc : op = 3 ∨ op = 4 ∨ op = 5 ∨ op = 6 ∨ op = 7 ∨ op = 8 ∨ op = 9 := by omega
  rcases hc with rfl | rfl | rfl | rfl | rfl | rfl | rfl
  · go_enter Tryd.func128, Tryd.ntmps128
    go_wp2_with (fail)
    refine bodyPost_ret (v := .tuple #[.int .i64 (((a + b) % 256 : Nat) : Int), .bool true]) (by simp [results, Tryd.results128, go_sem]) rfl ⟨?_, rfl⟩
    rfl
  · go_enter Tryd.func128, Tryd.ntmps128
    go_wp2_with (fail)
    refine bodyPost_ret (v := .tuple #[.int .i64 (((a + 256 - b) % 256 : Nat) : Int), .bool true]) (by simp [results, Tryd.results128, go_sem]; omega) rfl ⟨?_, rfl⟩
    rfl
  · have hp0 : (0 : Int) ≤ (a : Int) * b := Int.mul_nonneg (by omega) (by omega)
    have hp1 : (a : Int) * b < 65536 := by
      have h := Nat.mul_lt_mul'' ha hb
      have h2 : ((a * b : Nat) : Int) < ((256 * 256 : Nat) : Int) := by exact_mod_cast h
      rw [Int.natCast_mul] at h2
      exact h2
    go_enter Tryd.func128, Tryd.ntmps128
    go_wp2_with (fail)
    refine bodyPost_ret (v := .tuple #[.int .i64 ((a * b % 256 : Nat) : Int), .bool true]) (by simp [results, Tryd.results128, go_sem]) rfl ⟨?_, rfl⟩
    rfl
  · by_cases hb0 : b = 0
    · subst hb0
      go_enter Tryd.func128, Tryd.ntmps128
      go_wp2_with (fail)
      refine bodyPost_ret (v := .tuple #[.int .i64 0, .bool false]) (by simp [results, Tryd.results128, go_sem]) rfl ⟨?_, rfl⟩
      rfl
    · have hbi : ¬ (b : Int) = 0 := by omega
      have hq0 : (0 : Int) ≤ (a : Int) / b := Int.ediv_nonneg (by omega) (by omega)
      have hq1 : (a : Int) / b < 256 := by
        have h := Nat.div_le_self a b
        have h2 : ((a / b : Nat) : Int) ≤ (a : Int) := by exact_mod_cast h
        rw [Int.natCast_ediv] at h2
        omega
      go_enter Tryd.func128, Tryd.ntmps128
      go_wp2_with (fail)
      refine bodyPost_ret (v := .tuple #[.int .i64 ((a / b : Nat) : Int), .bool true]) (by simp [results, Tryd.results128, go_sem]) rfl ⟨?_, rfl⟩
      simp [arithV, arithN, hb0]
  · by_cases hb0 : b = 0
    · subst hb0
      go_enter Tryd.func128, Tryd.ntmps128
      go_wp2_with (fail)
      refine bodyPost_ret (v := .tuple #[.int .i64 0, .bool false]) (by simp [results, Tryd.results128, go_sem]) rfl ⟨?_, rfl⟩
      rfl
    · have hbi : ¬ (b : Int) = 0 := by omega
      go_enter Tryd.func128, Tryd.ntmps128
      go_wp2_with (fail)
      refine bodyPost_ret (v := .tuple #[.int .i64 ((a % b : Nat) : Int), .bool true]) (by simp [results, Tryd.results128, go_sem]) rfl ⟨?_, rfl⟩
      simp [arithV, arithN, hb0]
  · go_enter Tryd.func128, Tryd.ntmps128
    go_wp2_with (fail)
    obtain ⟨v, hv⟩ : ∃ v : Nat, v = if a < b then 1 else 0 := ⟨_, rfl⟩
    have hv2 : v = if decide (a < b) = true then 1 else 0 := by rw [hv]; simp
    have hav : arithV 8 a b = .tuple #[.int .i64 (v : Int), .bool true] := by rw [hv]; rfl
    have HAV := Lib.hid hav
    refine (HT.out _ _ v hv2).mono ?_
    rintro e _ ⟨rfl, rfl⟩
    clear hv hv2 hav
    go_wp2_with (fail)
    refine bodyPost_ret (v := .tuple #[.int .i64 (v : Int), .bool true]) (by simp [results, Tryd.results128, go_sem]) rfl ⟨by rw [HAV.out], rfl⟩
  · go_enter Tryd.func128, Tryd.ntmps128
    go_wp2_with (fail)
    obtain ⟨v, hv⟩ : ∃ v : Nat, v = if a = b then 1 else 0 := ⟨_, rfl⟩
    have hv2 : v = if ((a : Int) == (b : Int)) = true then 1 else 0 := by rw [hv]; simp [Int.ofNat_inj]
    have hav : arithV 9 a b = .tuple #[.int .i64 (v : Int), .bool true] := by rw [hv]; rfl
    have HAV := Lib.hid hav
    refine (HT.out _ _ v hv2).mono ?_
    rintro e _ ⟨rfl, rfl⟩
    clear hv hv2 hav
    go_wp2_with (fail)
    refine bodyPost_ret (v := .tuple #[.int .i64 (v : Int), .bool true]) (by simp [results, Tryd.results128, go_sem]) rfl ⟨by rw [HAV.out], rfl⟩

end Go.Proofs.YtbdbmmdnidonjaaDoor
