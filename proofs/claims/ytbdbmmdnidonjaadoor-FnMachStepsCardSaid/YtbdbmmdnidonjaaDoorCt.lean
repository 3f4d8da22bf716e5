/- A run that ends by a panic of its own is caught: impl's caught. -/
import Derived.Test.YtbdbmmdnidonjaaDoorSt
import Derived.Recover
set_option maxRecDepth 100000
namespace Go.Proofs.YtbdbmmdnidonjaaDoor
open Go.RowKit

set_option maxHeartbeats 1000000 in
theorem catch_panicking (p : Addr) (x : Value) (n : Nat) (w : World) (hc : w.cell? p = some x) (hz : w.frozen? p = false) :
    CallsD Tryd.prog 126 #[.pointer (some p)] (.panicking (endChain n)) w fun e u' w' =>
      e = .returned (.tuple #[]) ∧ u' = .panicking [{ v := .iface 165 (.int .i64 (n : Int)), recovered := true }] ∧ w' = w.setCell p (.int .i64 (n : Int)) := by
  have hta : ∀ (v : Value) (w : World), (Instr.typeAssert (.iface 165 v) 20 165 true).run Tryd.prog w = .ok (.tuple #[v, .bool true]) w := fun v w => by kernel_rfl
  unfold endChain
  refine callsD_of_wpS Tryd.func126 rfl fun c₀ cs hu => ?_
  apply wpS_seq
  apply wpS_region
  simp [wpOpsS, go_sem, recoverD, hu, Tryd.ntmps126, Exit.thenS]
  refine wpS_of_wp ?_
  have ht : (#[Value.pointer (some p)] ++ ((Array.replicate 15 undef).setIfInBounds 3 (Value.iface 165 (.int .i64 (n : Int)))).setIfInBounds 0 (Value.iface 165 (.int .i64 (n : Int)))) = #[.pointer (some p), Value.iface 165 (.int .i64 (n : Int)), undef, undef, Value.iface 165 (.int .i64 (n : Int)), undef, undef, undef, undef, undef, undef, undef, undef, undef, undef, undef] := by simp [Array.replicate]
  rw [ht]
  go_wp2_with (fail)
  simp_all [bodyPostS, results, Tryd.results126]

set_option maxHeartbeats 1000000 in
theorem catch_idle (p : Addr) (w : World) :
    CallsD Tryd.prog 126 #[.pointer (some p)] .returning w fun e u' w' => e = .returned (.tuple #[]) ∧ u' = .returning ∧ w' = w := by
  refine callsD_of_wpS Tryd.func126 rfl fun c₀ cs hu => ?_
  apply wpS_seq
  apply wpS_region
  simp [wpOpsS, go_sem, recoverD, hu, Tryd.ntmps126, Exit.thenS]
  refine wpS_of_wp ?_
  have ht : (#[Value.pointer (some p)] ++ ((Array.replicate 15 undef).setIfInBounds 3 Value.nilIface).setIfInBounds 0 Value.nilIface) = #[.pointer (some p), Value.nilIface, undef, undef, Value.nilIface, undef, undef, undef, undef, undef, undef, undef, undef, undef, undef, undef] := by simp [Array.replicate]
  rw [ht]
  go_wp2_with (fail)
  cases c₀
  simp_all [bodyPostS, results, Tryd.results126]

set_option maxHeartbeats 1000000 in
theorem caught_ret (w : World) (cap : Array Value) (Q : World → Prop) (h : Calls Tryd.prog 103 cap (w.alloc (.cells #[.int .i64 0] 3)) (fun e w2 => e = .returned (.tuple #[]) ∧ Q w2))
    (hq : ∀ w2, Q w2 → w2.cell? ⟨w.heap.size, 0, none⟩ = some (.int .i64 0) ∧ w2.frozen? ⟨w.heap.size, 0, none⟩ = false) :
    Calls Tryd.prog 102 #[.func (.func 103) #[] cap] w fun e w' => e = .returned (.int .i64 0) ∧ ∃ w2, Q w2 ∧ w' = w2.setCell ⟨w.heap.size, 0, none⟩ (.int .i64 0) := by
  have hmf : ∀ (fn : Fn) (first cap : Array Value) (w : World), (Instr.makeFunc fn first cap).run Tryd.prog w = .ok (.func fn first cap) w := fun _ _ _ _ => rfl
  have HC := Lib.hid h
  have HQ := Lib.hid hq
  clear h hq
  go_enter_defers Tryd.func102, Tryd.ntmps102
  go_wp2_with (fail)
  refine HC.out.mono ?_
  rintro e w2 ⟨rfl, hq⟩
  obtain ⟨q1, q2⟩ := HQ.out w2 hq
  have HQ2 := Lib.hid hq
  clear HQ HC hq
  go_wp2_with (fail)
  refine leaves_cons (f := 126) (args := #[.pointer (some ⟨w.heap.size, 0, none⟩)]) (by simp) (by simp [go_sem]) ?_
  refine (catch_idle ⟨w.heap.size, 0, none⟩ _).mono ?_
  rintro e u' w'' ⟨rfl, rfl, rfl⟩
  simp [Leaves, settle, results, Tryd.results102, go_sem, q1]
  exact ⟨w2, HQ2.out, rfl⟩

set_option maxHeartbeats 1000000 in
theorem caught_stop (w : World) (n : Nat) (cap : Array Value) (Q : World → Prop) (h : Calls Tryd.prog 103 cap (w.alloc (.cells #[.int .i64 0] 3)) (fun e w2 => e = .panicked (endChain n) ∧ Q w2))
    (hq : ∀ w2, Q w2 → w2.cell? ⟨w.heap.size, 0, none⟩ = some (.int .i64 0) ∧ w2.frozen? ⟨w.heap.size, 0, none⟩ = false) :
    Calls Tryd.prog 102 #[.func (.func 103) #[] cap] w fun e w' => e = .returned (.int .i64 (n : Int)) ∧ ∃ w2, Q w2 ∧ w' = w2.setCell ⟨w.heap.size, 0, none⟩ (.int .i64 (n : Int)) := by
  have hmf : ∀ (fn : Fn) (first cap : Array Value) (w : World), (Instr.makeFunc fn first cap).run Tryd.prog w = .ok (.func fn first cap) w := fun _ _ _ _ => rfl
  have HC := Lib.hid h
  have HQ := Lib.hid hq
  clear h hq
  go_enter_defers Tryd.func102, Tryd.ntmps102
  go_wp2_with (fail)
  refine HC.out.mono ?_
  rintro e w2 ⟨rfl, hq⟩
  obtain ⟨q1, q2⟩ := HQ.out w2 hq
  have HQ2 := Lib.hid hq
  clear HQ HC hq
  go_wp2_with (fail)
  refine leaves_cons (f := 126) (args := #[.pointer (some ⟨w.heap.size, 0, none⟩)]) (by simp) (by simp [go_sem]) ?_
  refine (catch_panicking ⟨w.heap.size, 0, none⟩ _ n _ q1 q2).mono ?_
  rintro e u' w'' ⟨rfl, rfl, rfl⟩
  simp [Leaves, settle, results, Tryd.results102, go_sem, q1]
  exact ⟨w2, HQ2.out, rfl⟩

end Go.Proofs.YtbdbmmdnidonjaaDoor
