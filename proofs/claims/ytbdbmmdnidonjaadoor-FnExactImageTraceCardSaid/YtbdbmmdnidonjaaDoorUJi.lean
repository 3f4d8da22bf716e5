/- A run of a function of the machine: impl's run, the walk. A run that ends by a panic of its own is caught: impl's caught. The outcome of a run of the machine: impl's outcome and its closures. The outcome of a run of the machine: impl's outcome. -/
import Derived.Test.YtbdbmmdnidonjaaDoorUJg
import Derived.Test.YtbdbmmdnidonjaaDoorUJh
import Derived.Test.YtbdbmmdnidonjaaDoorUJd
import Derived.Test.YtbdbmmdnidonjaaDoorUJc
import Derived.Recover
set_option linter.unusedVariables false
set_option linter.unusedSimpArgs false
set_option maxRecDepth 100000
namespace Go.Proofs.YtbdbmmdnidonjaaDoor
open Go.RowKit
theorem Ni.val_mi (op a b c n : Nat) : Mi.val (Ni.mi ⟨op, a, b, c, n⟩) = .agg #[.int .i64 (op : Int), .int .i64 (a : Int), .int .i64 (b : Int), .int .i64 (c : Int), .int .i64 (n : Int)] := rfl
theorem SrcAt.below {w w' : World} {b off n cap : Nat} {inp : List Nat} (h : SrcAt w b off n cap inp) (hb : Below w.heap.size w w') : SrcAt w' b off n cap inp :=
 ⟨h.len, h.cap, h.small, fun i hi => by rw [hb.cell (p := ⟨b, off + i, none⟩) (World.block_lt_of_cell? _ _ (h.cells i hi))]; exact h.cells i hi⟩
/-- the steps that are left, off the machine's block -/
def leftOf (T pm : Nat) (w : World) : Nat := T - (intOf ((w.cell? ⟨pm, 1, none⟩).getD (.int .i64 0))).toNat
theorem leftOf_at {B pm : Nat} {rest : List Value} {T : Nat} {s : Cm} {sv : Value} {w : World} (h : MacAt B w pm rest T s sv) : leftOf T pm w = s.left := by
 have h1 := h.left
 unfold leftOf
 rw [h.blk.cell]
 show T - (intOf (.int .i64 ((T - s.left : Nat) : Int))).toNat = _
 simp [intOf]
 omega
theorem MacAt.drewN {B : Nat} {w : World} {pm : Nat} {rest : List Value} {T : Nat} {s : Cm} {sv : Value} (h : MacAt B w pm rest T s sv) (n : Nat) : MacAt B (w.drewN n) pm rest T s sv := h.below (belowDr (Below.refl _ _) n)
theorem CallAt.drewN {K : Nat → Prop} {w : World} {pm : Nat} {sv : Value} {pc pl par : Nat} {l : Lc} (h : CallAt K w pm sv pc pl par l) (n : Nat) : CallAt K (w.drewN n) pm sv pc pl par l := h.below (belowDr (Below.refl _ _) n)
end Go.Proofs.YtbdbmmdnidonjaaDoor
set_option maxRecDepth 100000
namespace Go.Proofs.YtbdbmmdnidonjaaDoor
open Go.RowKit
set_option maxHeartbeats 1000000 in
theorem catch_panicking (p : Addr) (x : Value) (n : Nat) (w : World) (hc : w.cell? p = some x) (hz : w.frozen? p = false) :
  CallsD Tryd.prog 126 #[.pointer (some p)] (.panicking (endChain n)) w fun e u' w' =>
   e = .returned (.tuple #[]) ∧ u' = .panicking [{ v := .iface 165 (.int .i64 (n : Int)), recovered := true }] ∧ w' = w.setCell p (.int .i64 (n : Int)) := by
 have hta : ∀ (v : Value) (w : World), (Instr.typeAssert (.iface 165 v) 20 165 true).run Tryd.prog w = .ok (.tuple #[v, .bool true]) w := fun v w => by kernel_rfl
 unfold endChain
 refine callsD_of_wpS Tryd.func126 rfl fun c₀ cs hu => ?_
 apply wpS_seq
 apply wpS_region
 simp [wpOpsS, go_sem, recoverD, hu, Tryd.ntmps126, Exit.thenS]
 refine wpS_of_wp ?_
 have ht : (#[Value.pointer (some p)] ++ ((Array.replicate 15 undef).setIfInBounds 3 (Value.iface 165 (.int .i64 (n : Int)))).setIfInBounds 0 (Value.iface 165 (.int .i64 (n : Int)))) = #[.pointer (some p), Value.iface 165 (.int .i64 (n : Int)), undef, undef, Value.iface 165 (.int .i64 (n : Int)), undef, undef, undef, undef, undef, undef, undef, undef, undef, undef, undef] := by simp [Array.replicate]
 rw [ht]
 go_wp2_with (fail)
 simp_all [bodyPostS, results, Tryd.results126]
set_option maxHeartbeats 1000000 in
theorem catch_idle (p : Addr) (w : World) :
  CallsD Tryd.prog 126 #[.pointer (some p)] .returning w fun e u' w' => e = .returned (.tuple #[]) ∧ u' = .returning ∧ w' = w := by
 refine callsD_of_wpS Tryd.func126 rfl fun c₀ cs hu => ?_
 apply wpS_seq
 apply wpS_region
 simp [wpOpsS, go_sem, recoverD, hu, Tryd.ntmps126, Exit.thenS]
 refine wpS_of_wp ?_
 have ht : (#[Value.pointer (some p)] ++ ((Array.replicate 15 undef).setIfInBounds 3 Value.nilIface).setIfInBounds 0 Value.nilIface) = #[.pointer (some p), Value.nilIface, undef, undef, Value.nilIface, undef, undef, undef, undef, undef, undef, undef, undef, undef, undef, undef] := by simp [Array.replicate]
 rw [ht]
 go_wp2_with (fail)
 cases c₀
 simp_all [bodyPostS, results, Tryd.results126]
set_option maxHeartbeats 1000000 in
theorem caught_ret (w : World) (cap : Array Value) (Q : World → Prop) (h : Calls Tryd.prog 103 cap (w.alloc (.cells #[.int .i64 0] 3)) (fun e w2 => e = .returned (.tuple #[]) ∧ Q w2))
  (hq : ∀ w2, Q w2 → w2.cell? ⟨w.heap.size, 0, none⟩ = some (.int .i64 0) ∧ w2.frozen? ⟨w.heap.size, 0, none⟩ = false) :
  Calls Tryd.prog 102 #[.func (.func 103) #[] cap] w fun e w' => e = .returned (.int .i64 0) ∧ ∃ w2, Q w2 ∧ w' = w2.setCell ⟨w.heap.size, 0, none⟩ (.int .i64 0) := by
 have hmf : ∀ (fn : Fn) (first cap : Array Value) (w : World), (Instr.makeFunc fn first cap).run Tryd.prog w = .ok (.func fn first cap) w := fun _ _ _ _ => rfl
 have HC := Lib.hid h
 have HQ := Lib.hid hq
 clear h hq
 go_enter_defers Tryd.func102, Tryd.ntmps102
 go_wp2_with (fail)
 refine HC.out.mono ?_
 rintro e w2 ⟨rfl, hq⟩
 obtain ⟨q1, q2⟩ := HQ.out w2 hq
 have HQ2 := Lib.hid hq
 clear HQ HC hq
 go_wp2_with (fail)
 refine leaves_cons (f := 126) (args := #[.pointer (some ⟨w.heap.size, 0, none⟩)]) (by simp) (by simp [go_sem]) ?_
 refine (catch_idle ⟨w.heap.size, 0, none⟩ _).mono ?_
 rintro e u' w'' ⟨rfl, rfl, rfl⟩
 simp [Leaves, settle, results, Tryd.results102, go_sem, q1]
 exact ⟨w2, HQ2.out, rfl⟩
set_option maxHeartbeats 1000000 in
theorem caught_stop (w : World) (n : Nat) (cap : Array Value) (Q : World → Prop) (h : Calls Tryd.prog 103 cap (w.alloc (.cells #[.int .i64 0] 3)) (fun e w2 => e = .panicked (endChain n) ∧ Q w2))
  (hq : ∀ w2, Q w2 → w2.cell? ⟨w.heap.size, 0, none⟩ = some (.int .i64 0) ∧ w2.frozen? ⟨w.heap.size, 0, none⟩ = false) :
  Calls Tryd.prog 102 #[.func (.func 103) #[] cap] w fun e w' => e = .returned (.int .i64 (n : Int)) ∧ ∃ w2, Q w2 ∧ w' = w2.setCell ⟨w.heap.size, 0, none⟩ (.int .i64 (n : Int)) := by
 have hmf : ∀ (fn : Fn) (first cap : Array Value) (w : World), (Instr.makeFunc fn first cap).run Tryd.prog w = .ok (.func fn first cap) w := fun _ _ _ _ => rfl
 have HC := Lib.hid h
 have HQ := Lib.hid hq
 clear h hq
 go_enter_defers Tryd.func102, Tryd.ntmps102
 go_wp2_with (fail)
 refine HC.out.mono ?_
 rintro e w2 ⟨rfl, hq⟩
 obtain ⟨q1, q2⟩ := HQ.out w2 hq
 have HQ2 := Lib.hid hq
 clear HQ HC hq
 go_wp2_with (fail)
 refine leaves_cons (f := 126) (args := #[.pointer (some ⟨w.heap.size, 0, none⟩)]) (by simp) (by simp [go_sem]) ?_
 refine (catch_panicking ⟨w.heap.size, 0, none⟩ _ n _ q1 q2).mono ?_
 rintro e u' w'' ⟨rfl, rfl, rfl⟩
 simp [Leaves, settle, results, Tryd.results102, go_sem, q1]
 exact ⟨w2, HQ2.out, rfl⟩
end Go.Proofs.YtbdbmmdnidonjaaDoor
set_option maxRecDepth 100000
namespace Go.Proofs.YtbdbmmdnidonjaaDoor
open Go.RowKit
end Go.Proofs.YtbdbmmdnidonjaaDoor
set_option maxRecDepth 100000
namespace Go.Proofs.YtbdbmmdnidonjaaDoor
open Go.RowKit
def Rs.en : Rs → Nat
 |.ret _ _ => 0
 |.stop e _ => e
def Rs.val : Rs → Nat
 |.ret v _ => v
 |.stop _ _ => 0
/-- two rows lie apart -/
def Apart2 (a b : Value) : Prop := ∀ k, a.ownBlock = some k → b.ownBlock ≠ some k
theorem clone_full {w : World} {b off n cap : Nat} {xs : List Nat} (hn : xs.length = n) (hm : n ≤ 1048576) (hc : ∀ i, i < n → w.cell? ⟨b, off + i, none⟩ = some (.int .i64 ((xs.getD i 0 : Nat) : Int))) :
  Calls Tryd.prog 104 #[.slice (some ⟨b, off, none⟩) n cap] w (fun e w2 => ∃ a c, e = .returned (.slice a n c) ∧ w2.ownsRow w.heap.size 3 1 (.slice a n c) n (nats xs) ∧ Below w.heap.size w w2) :=
 (clone_some w b off n cap xs hn hm hc).mono fun e w2 ⟨v, he, hown, hb⟩ => by
  obtain ⟨a, c, rfl⟩ : ∃ a c, v = .slice a n c := by
   rcases hown.2 with ⟨h1, h2⟩ | ⟨g, cp, cur, h1, _⟩
   ·exact ⟨none, 0, by rw [h1, ← h2, hn]⟩
   ·exact ⟨_, cp, by rw [h1, hn]⟩
  exact ⟨a, c, he, by rw [hn] at hown; exact hown, hb⟩
theorem saidForm {w : World} {B : Nat} {sv : Value} {xs : List Nat} (h : Said w B sv xs) : ∃ a c, sv = .slice a xs.length c := by
 rcases h.2 with ⟨h1, h2⟩ | ⟨g, cp, cur, h1, _⟩
 ·exact ⟨none, 0, by rw [h1, ← h2]⟩
 ·exact ⟨_, cp, h1⟩
end Go.Proofs.YtbdbmmdnidonjaaDoor
