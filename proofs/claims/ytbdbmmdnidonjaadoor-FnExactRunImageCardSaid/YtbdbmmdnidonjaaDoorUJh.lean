/- How an instruction is written: formOf. Premise: the table of forms reads as laid. Is an instruction valid: minsOk. -/
import Derived.Test.YtbdbmmdnidonjaaDoorUJb
import Derived.Deep.QuietTactic
import Derived.BigQuiet
import Derived.Handy
set_option linter.unusedVariables false
set_option linter.unusedSimpArgs false
set_option maxRecDepth 100000
namespace Go.Proofs.YtbdbmmdnidonjaaDoor
open Go.RowKit
/-- the fields of an op as bits: A 1, B 2, C 4, N 8 -/
def fieldsOf (op : Int) : Int :=
 if op = 1 then 9 else if op = 2 then 3 else if op = 3 then 7 else if op = 4 then 7 else if op = 5 then 7 else if op = 6 then 7 else if op = 7 then 7 else if op = 8 then 7 else if op = 9 then 7
 else if op = 10 then 3 else if op = 11 then 3 else if op = 12 then 3 else if op = 13 then 1 else if op = 14 then 8 else if op = 15 then 9 else if op = 16 then 9 else if op = 17 then 9 else if op = 18 then 9
 else if op = 19 then 1 else if op = 20 then 8 else if op = 21 then 9 else 1
/-- has an op field k (0 A, 1 B, 2 C, 3 N)? -/
def hasF (k : Nat) (op : Int) : Bool := (fieldsOf op / (2 ^ k : Nat)) % 2 == 1
def nameOf (op : Int) : ByteArray :=
 if op = 1 then ⟨#[115, 101, 116]⟩ else if op = 2 then ⟨#[109, 111, 118, 101]⟩ else if op = 3 then ⟨#[97, 100, 100]⟩ else if op = 4 then ⟨#[115, 117, 98]⟩ else if op = 5 then ⟨#[109, 117, 108]⟩
 else if op = 6 then ⟨#[100, 105, 118]⟩ else if op = 7 then ⟨#[114, 101, 109]⟩ else if op = 8 then ⟨#[108, 101, 115, 115]⟩ else if op = 9 then ⟨#[115, 97, 109, 101]⟩ else if op = 10 then ⟨#[110, 111, 116]⟩
 else if op = 11 then ⟨#[108, 111, 97, 100]⟩ else if op = 12 then ⟨#[115, 116, 111, 114, 101]⟩ else if op = 13 then ⟨#[115, 97, 121]⟩ else if op = 14 then ⟨#[99, 97, 108, 108]⟩ else if op = 15 then ⟨#[107, 101, 101, 112]⟩
 else if op = 16 then ⟨#[116, 97, 107, 101]⟩ else if op = 17 then ⟨#[103, 105, 118, 101]⟩ else if op = 18 then ⟨#[102, 101, 116, 99, 104]⟩ else if op = 19 then ⟨#[114, 101, 115, 117, 108, 116]⟩
 else if op = 20 then ⟨#[106, 117, 109, 112]⟩ else if op = 21 then ⟨#[98, 114, 97, 110, 99, 104]⟩ else ⟨#[98, 97, 99, 107]⟩
/-- the table of forms in memory -/
def Forms (w : World) : Prop := ∀ i : Nat, 1 ≤ i → i ≤ 22 → w.cell? ⟨1, i * 2, none⟩ = some (.string (nameOf i)) ∧ w.cell? ⟨1, i * 2 + 1, none⟩ = some (.int .i64 (fieldsOf i))
theorem Forms.below {w w' : World} (h : Forms w) (hb : Below w.heap.size w w') : Forms w' := by
 intro i h1 h2
 obtain ⟨a, b⟩ := h i h1 h2
 have hl := World.block_lt_of_cell? _ _ a
 exact ⟨by rw [hb.cell (p := ⟨1, i * 2, none⟩) hl]; exact a, by rw [hb.cell (p := ⟨1, i * 2 + 1, none⟩) hl]; exact b⟩
theorem op_cases {op : Int} (h1 : 1 ≤ op) (h2 : op ≤ 22) : op = 1 ∨ op = 2 ∨ op = 3 ∨ op = 4 ∨ op = 5 ∨ op = 6 ∨ op = 7 ∨ op = 8 ∨ op = 9 ∨ op = 10 ∨ op = 11 ∨ op = 12 ∨ op = 13 ∨ op = 14 ∨ op = 15 ∨ op = 16 ∨ op = 17 ∨ op = 18 ∨ op = 19 ∨ op = 20 ∨ op = 21 ∨ op = 22 := by omega
theorem bit0 {op : Int} (h1 : 1 ≤ op) (h2 : op ≤ 22) : (bits .and .i64 (fieldsOf op) 1 == 0) = !hasF 0 op := by
 rcases op_cases h1 h2 with h | h | h | h | h | h | h | h | h | h | h | h | h | h | h | h | h | h | h | h | h | h <;> subst h <;> decide
theorem bit1 {op : Int} (h1 : 1 ≤ op) (h2 : op ≤ 22) : (bits .and .i64 (fieldsOf op) 2 == 0) = !hasF 1 op := by
 rcases op_cases h1 h2 with h | h | h | h | h | h | h | h | h | h | h | h | h | h | h | h | h | h | h | h | h | h <;> subst h <;> decide
theorem bit2 {op : Int} (h1 : 1 ≤ op) (h2 : op ≤ 22) : (bits .and .i64 (fieldsOf op) 4 == 0) = !hasF 2 op := by
 rcases op_cases h1 h2 with h | h | h | h | h | h | h | h | h | h | h | h | h | h | h | h | h | h | h | h | h | h <;> subst h <;> decide
theorem bit3 {op : Int} (h1 : 1 ≤ op) (h2 : op ≤ 22) : (bits .and .i64 (fieldsOf op) 8 == 0) = !hasF 3 op := by
 rcases op_cases h1 h2 with h | h | h | h | h | h | h | h | h | h | h | h | h | h | h | h | h | h | h | h | h | h <;> subst h <;> decide
/-- no field that the op has not is other than 0 -/
def restOk (x : Mi) : Bool := (hasF 0 x.op || x.a == 0) && (hasF 1 x.op || x.b == 0) && (hasF 2 x.op || x.c == 0) && (hasF 3 x.op || x.n == 0)
def formOk (x : Mi) : Bool := decide (1 ≤ x.op) && decide (x.op ≤ 22) && restOk x
set_option maxHeartbeats 400000 in
theorem within_yes (w : World) (n lo hi : Int) (h1 : lo ≤ n) (h2 : n ≤ hi) : Calls Tryd.prog 52 #[.int .i64 n, .int .i64 lo, .int .i64 hi] w fun e w' => e = .returned (.bool true) ∧ w = w' := by
 have d1 : decide (lo ≤ n) = true := by simpa using h1
 have d2 : decide (n ≤ hi) = true := by simpa using h2
 go_enter Tryd.func52, Tryd.ntmps52
 go_wp2
 go_ret
 exact ⟨rfl, rfl⟩
set_option maxHeartbeats 400000 in
theorem within_low (w : World) (n lo hi : Int) (h1 : n < lo) : Calls Tryd.prog 52 #[.int .i64 n, .int .i64 lo, .int .i64 hi] w fun e w' => e = .returned (.bool false) ∧ w = w' := by
 have d1 : decide (lo ≤ n) = false := by simpa using h1
 go_enter Tryd.func52, Tryd.ntmps52
 go_wp2
 go_ret
 exact ⟨rfl, rfl⟩
set_option maxHeartbeats 400000 in
theorem within_high (w : World) (n lo hi : Int) (h1 : lo ≤ n) (h2 : hi < n) : Calls Tryd.prog 52 #[.int .i64 n, .int .i64 lo, .int .i64 hi] w fun e w' => e = .returned (.bool false) ∧ w = w' := by
 have d1 : decide (lo ≤ n) = true := by simpa using h1
 have d2 : decide (n ≤ hi) = false := by simpa using h2
 go_enter Tryd.func52, Tryd.ntmps52
 go_wp2
 go_ret
 exact ⟨rfl, rfl⟩
def inR (lo hi n : Int) : Bool := decide (lo ≤ n) && decide (n ≤ hi)
theorem within_any (w : World) (n lo hi : Int) : Calls Tryd.prog 52 #[.int .i64 n, .int .i64 lo, .int .i64 hi] w fun e w' => e = .returned (.bool (inR lo hi n)) ∧ w = w' := by
 by_cases h1 : lo ≤ n
 ·by_cases h2 : n ≤ hi
  ·have e : inR lo hi n = true := by simp [inR, h1, h2]
   rw [e]; exact within_yes w n lo hi h1 h2
  ·have e : inR lo hi n = false := by simp [inR, h2]
   rw [e]; exact within_high w n lo hi h1 (by omega)
 ·have e : inR lo hi n = false := by simp [inR, h1]
  rw [e]; exact within_low w n lo hi (by omega)
def FormPost (x : Mi) (w : World) (e : Ending) (w' : World) : Prop :=
 e = .returned (.tuple #[if formOk x then .agg #[.string (nameOf x.op), .int .i64 (fieldsOf x.op)] else .agg #[.string ⟨#[]⟩, .int .i64 0], .bool (formOk x)]) ∧ Below w.heap.size w w'
set_option maxHeartbeats 1000000 in
theorem formOf_out (w : World) (op a b c n : Int) (h : op < 1 ∨ 22 < op) :
  Calls Tryd.prog 124 #[.agg #[.int .i64 op, .int .i64 a, .int .i64 b, .int .i64 c, .int .i64 n]] w (FormPost ⟨op, a, b, c, n⟩ w) := by
 have e : formOk ⟨op, a, b, c, n⟩ = false := by
  unfold formOk
  rcases h with h | h
  ·have : decide (1 ≤ op) = false := by simpa using h
   simp [this]
  ·have : decide (op ≤ 22) = false := by simpa using h
   simp [this]
 have e2 : inR 1 22 op = false := by
  unfold inR
  rcases h with h | h
  ·have : decide (1 ≤ op) = false := by simpa using h
   simp [this]
  ·have : decide (op ≤ 22) = false := by simpa using h
   simp [this]
 unfold FormPost
 rw [e]
 simp only [Bool.false_eq_true, if_false]
 go_enter Tryd.func124, Tryd.ntmps124
 go_wp2_with (go_at_call 52; refine (within_any _ _ _ _).mono ?_; rintro e w1 ⟨rfl, rfl⟩; rw [e2])
 refine bodyPost_ret (v := .tuple #[.agg #[.string ⟨#[]⟩, .int .i64 0], .bool false]) (by simp [results, Tryd.results124, go_sem]) rfl ⟨rfl, ?_⟩
 repeat' (first | exact Below.refl _ _ | (refine Below.setCell ?_ ?_ _) | (refine Below.alloc ?_ ?_ _))
 all_goals (first | omega | (simp; done) | (simp; omega))
theorem belowDrewN {B : Nat} {a w : World} (h : Below B a w) (n : Nat) : Below B a (w.drewN n) := h.trans ⟨rfl, rfl, rfl, Nat.le_refl _, fun _ _ => rfl⟩
@[simp] theorem sizeDrewN (w : World) (n : Nat) : (w.drewN n).heap.size = w.heap.size := rfl
theorem hidR {q p : Prop} (h : p) : Hid (q ∨ p) := Lib.hid (Or.inr h)
set_option maxHeartbeats 2000000 in
theorem formOf_in (w : World) (op a b c n : Int) (h1 : 1 ≤ op) (h2 : op ≤ 22) (hF : Forms w) :
  Calls Tryd.prog 124 #[.agg #[.int .i64 op, .int .i64 a, .int .i64 b, .int .i64 c, .int .i64 n]] w (FormPost ⟨op, a, b, c, n⟩ w) := by
 obtain ⟨u, rfl⟩ := Int.eq_ofNat_of_zero_le (show 0 ≤ op by omega)
 obtain ⟨f1, f2⟩ := hF u (by omega) (by omega)
 have hfl := World.block_lt_of_cell? _ _ f1
 have b0 := bit0 h1 h2
 have b1 := bit1 h1 h2
 have b2 := bit2 h1 h2
 have b3 := bit3 h1 h2
 have e2 : inR 1 22 (u : Int) = true := by simp [inR, h1, h2]
 have hok : formOk ⟨u, a, b, c, n⟩ = ((hasF 0 u || a == 0) && (hasF 1 u || b == 0) && (hasF 2 u || c == 0) && (hasF 3 u || n == 0)) := by
  unfold formOk restOk
  have d1 : decide (1 ≤ (u : Int)) = true := by simpa using h1
  have d2 : decide ((u : Int) ≤ 22) = true := by simpa using h2
  rw [d1, d2]; rfl
 unfold FormPost
 obtain ⟨ok, hok'⟩ : ∃ ok, ok = formOk ⟨u, a, b, c, n⟩ := ⟨_, rfl⟩
 rw [← hok'] at hok ⊢
 simp only []
 generalize nameOf (u : Int) = nm at *
 generalize fieldsOf (u : Int) = F at *
 generalize hasF 0 (u : Int) = g0 at *
 generalize hasF 1 (u : Int) = g1 at *
 generalize hasF 2 (u : Int) = g2 at *
 generalize hasF 3 (u : Int) = g3 at *
 have HOK := Lib.hid hok
 clear hok hok' hF
 obtain ⟨R, hR⟩ : ∃ R, R = (if ok then Value.agg #[.string nm, .int .i64 F] else .agg #[.string ⟨#[]⟩, .int .i64 0]) := ⟨_, rfl⟩
 rw [← hR]
 have HR := Lib.hid hR
 clear hR
 have B0 := Lib.hid b0; have B1 := Lib.hid b1; have B2 := Lib.hid b2; have B3 := Lib.hid b3
 clear b0 b1 b2 b3
 have f1' : ∀ o1 o2, ((w.alloc o1).alloc o2).cell? ⟨1, u * 2, none⟩ = some (.string nm) := fun o1 o2 => by rw [(below2 w o1 o2).cell (p := ⟨1, u * 2, none⟩) hfl]; exact f1
 have f2' : ∀ o1 o2, ((w.alloc o1).alloc o2).cell? ⟨1, u * 2 + 1, none⟩ = some (.int .i64 F) := fun o1 o2 => by rw [(below2 w o1 o2).cell (p := ⟨1, u * 2 + 1, none⟩) hfl]; exact f2
 have x0 : ∀ w : World, (Instr.index 199 (.agg #[.int .i64 a, .int .i64 b, .int .i64 c, .int .i64 n]) (.int .i64 0)).run Tryd.prog w = .ok (.int .i64 a) w := fun _ => by kernel_rfl
 have x1 : ∀ w : World, (Instr.index 199 (.agg #[.int .i64 a, .int .i64 b, .int .i64 c, .int .i64 n]) (.int .i64 1)).run Tryd.prog w = .ok (.int .i64 b) w := fun _ => by kernel_rfl
 have x2 : ∀ w : World, (Instr.index 199 (.agg #[.int .i64 a, .int .i64 b, .int .i64 c, .int .i64 n]) (.int .i64 2)).run Tryd.prog w = .ok (.int .i64 c) w := fun _ => by kernel_rfl
 have x3 : ∀ w : World, (Instr.index 199 (.agg #[.int .i64 a, .int .i64 b, .int .i64 c, .int .i64 n]) (.int .i64 3)).run Tryd.prog w = .ok (.int .i64 n) w := fun _ => by kernel_rfl
 go_enter Tryd.func124, Tryd.ntmps124
 go_wp2_with (go_at_call 52; refine (within_any _ _ _ _).mono ?_; rintro e w1 ⟨rfl, rfl⟩; rw [e2])
 go_loopw [25] (fun i wr => ∃ k : Nat, k ≤ 4 ∧ i = .int .i64 k ∧ Hid (k ≤ 0 ∨ (g0 || a == 0) = true) ∧ Hid (k ≤ 1 ∨ (g1 || b == 0) = true) ∧ Hid (k ≤ 2 ∨ (g2 || c == 0) = true) ∧ Hid (k ≤ 3 ∨ (g3 || n == 0) = true) ∧ ∃ m, wr = (((w.alloc (.cells #[.int .i64 u, .int .i64 a, .int .i64 b, .int .i64 c, .int .i64 n] 124)).alloc (.cells #[.string ⟨#[]⟩, .int .i64 0] 161)).alloc (.cells #[.string nm, .int .i64 F] 161)).drewN m) (fun i _ => 4 - (intOf i).toNat)
 case atStart => exact ⟨0, by omega, rfl, by simp [Hid], by simp [Hid], by simp [Hid], by simp [Hid], 0, rfl⟩
 case round =>
  obtain ⟨k, hk, rfl, hr0, hr1, hr2, hr3, m, rfl⟩ := hrel
  rcases (show k = 0 ∨ k = 1 ∨ k = 2 ∨ k = 3 ∨ k = 4 by omega) with rfl | rfl | rfl | rfl | rfl
  ·have bb := B0.out
   clear B0 B1 B2 B3 f1' f2' f1 f2
   cases g0
   ·simp only [Bool.not_false] at bb
    by_cases hz : a = 0
    ·subst hz
     go_wp2
     go_quiet (fail)
     go_wp2
     go_roundw
     case rel => exact ⟨1, by omega, by rfl, hidR (by simp), by simp [Hid], by simp [Hid], by simp [Hid], _, rfl⟩
     case measure => simp [intOf]
    ·have d1 : decide (a = 0) = false := by simpa using hz
     have d2 : (a == 0) = false := by simpa using hz
     have d3 : (a != 0) = true := by simpa using hz
     have hf : ok = false := by
      have := HOK.out
      rw [this, d2]; simp
     subst hf
     have hR := HR.out
     simp only [Bool.false_eq_true, if_false] at hR
     subst hR
     go_wp2
     go_quiet (fail)
     go_wp2
     refine bodyPost_ret (v := .tuple #[.agg #[.string ⟨#[]⟩, .int .i64 0], .bool false]) (by simp [results, Tryd.results124, go_sem]) rfl ⟨rfl, ?_⟩
     (repeat' (first | exact Below.refl _ _ | assumption | (refine Below.setCell ?_ ?_ _) | (refine Below.alloc ?_ ?_ _) | (refine belowDrewN ?_ _) | omega | (simp; done) | (simp; omega)))
   ·simp only [Bool.not_true] at bb
    go_wp2
    go_quiet (fail)
    go_wp2
    go_roundw
    case rel => exact ⟨1, by omega, by rfl, hidR (by simp), by simp [Hid], by simp [Hid], by simp [Hid], _, rfl⟩
    case measure => simp [intOf]
  ·have bb := B1.out
   clear B0 B1 B2 B3 f1' f2' f1 f2
   cases g1
   ·simp only [Bool.not_false] at bb
    by_cases hz : b = 0
    ·subst hz
     go_wp2
     go_quiet (fail)
     go_wp2
     go_roundw
     case rel => exact ⟨2, by omega, by rfl, hidR (hr0.out.resolve_left (by omega)), hidR (by simp), by simp [Hid], by simp [Hid], _, rfl⟩
     case measure => simp [intOf]
    ·have d1 : decide (b = 0) = false := by simpa using hz
     have d2 : (b == 0) = false := by simpa using hz
     have d3 : (b != 0) = true := by simpa using hz
     have hf : ok = false := by
      have := HOK.out
      rw [this, d2]; simp
     subst hf
     have hR := HR.out
     simp only [Bool.false_eq_true, if_false] at hR
     subst hR
     go_wp2
     go_quiet (fail)
     go_wp2
     refine bodyPost_ret (v := .tuple #[.agg #[.string ⟨#[]⟩, .int .i64 0], .bool false]) (by simp [results, Tryd.results124, go_sem]) rfl ⟨rfl, ?_⟩
     (repeat' (first | exact Below.refl _ _ | assumption | (refine Below.setCell ?_ ?_ _) | (refine Below.alloc ?_ ?_ _) | (refine belowDrewN ?_ _) | omega | (simp; done) | (simp; omega)))
   ·simp only [Bool.not_true] at bb
    go_wp2
    go_quiet (fail)
    go_wp2
    go_roundw
    case rel => exact ⟨2, by omega, by rfl, hidR (hr0.out.resolve_left (by omega)), hidR (by simp), by simp [Hid], by simp [Hid], _, rfl⟩
    case measure => simp [intOf]
  ·have bb := B2.out
   clear B0 B1 B2 B3 f1' f2' f1 f2
   cases g2
   ·simp only [Bool.not_false] at bb
    by_cases hz : c = 0
    ·subst hz
     go_wp2
     go_quiet (fail)
     go_wp2
     go_roundw
     case rel => exact ⟨3, by omega, by rfl, hidR (hr0.out.resolve_left (by omega)), hidR (hr1.out.resolve_left (by omega)), hidR (by simp), by simp [Hid], _, rfl⟩
     case measure => simp [intOf]
    ·have d1 : decide (c = 0) = false := by simpa using hz
     have d2 : (c == 0) = false := by simpa using hz
     have d3 : (c != 0) = true := by simpa using hz
     have hf : ok = false := by
      have := HOK.out
      rw [this, d2]; simp
     subst hf
     have hR := HR.out
     simp only [Bool.false_eq_true, if_false] at hR
     subst hR
     go_wp2
     go_quiet (fail)
     go_wp2
     refine bodyPost_ret (v := .tuple #[.agg #[.string ⟨#[]⟩, .int .i64 0], .bool false]) (by simp [results, Tryd.results124, go_sem]) rfl ⟨rfl, ?_⟩
     (repeat' (first | exact Below.refl _ _ | assumption | (refine Below.setCell ?_ ?_ _) | (refine Below.alloc ?_ ?_ _) | (refine belowDrewN ?_ _) | omega | (simp; done) | (simp; omega)))
   ·simp only [Bool.not_true] at bb
    go_wp2
    go_quiet (fail)
    go_wp2
    go_roundw
    case rel => exact ⟨3, by omega, by rfl, hidR (hr0.out.resolve_left (by omega)), hidR (hr1.out.resolve_left (by omega)), hidR (by simp), by simp [Hid], _, rfl⟩
    case measure => simp [intOf]
  ·have bb := B3.out
   clear B0 B1 B2 B3 f1' f2' f1 f2
   cases g3
   ·simp only [Bool.not_false] at bb
    by_cases hz : n = 0
    ·subst hz
     go_wp2
     go_quiet (fail)
     go_wp2
     go_roundw
     case rel => exact ⟨4, by omega, by rfl, hidR (hr0.out.resolve_left (by omega)), hidR (hr1.out.resolve_left (by omega)), hidR (hr2.out.resolve_left (by omega)), hidR (by simp), _, rfl⟩
     case measure => simp [intOf]
    ·have d1 : decide (n = 0) = false := by simpa using hz
     have d2 : (n == 0) = false := by simpa using hz
     have d3 : (n != 0) = true := by simpa using hz
     have hf : ok = false := by
      have := HOK.out
      rw [this, d2]; simp
     subst hf
     have hR := HR.out
     simp only [Bool.false_eq_true, if_false] at hR
     subst hR
     go_wp2
     go_quiet (fail)
     go_wp2
     refine bodyPost_ret (v := .tuple #[.agg #[.string ⟨#[]⟩, .int .i64 0], .bool false]) (by simp [results, Tryd.results124, go_sem]) rfl ⟨rfl, ?_⟩
     (repeat' (first | exact Below.refl _ _ | assumption | (refine Below.setCell ?_ ?_ _) | (refine Below.alloc ?_ ?_ _) | (refine belowDrewN ?_ _) | omega | (simp; done) | (simp; omega)))
   ·simp only [Bool.not_true] at bb
    go_wp2
    go_quiet (fail)
    go_wp2
    go_roundw
    case rel => exact ⟨4, by omega, by rfl, hidR (hr0.out.resolve_left (by omega)), hidR (hr1.out.resolve_left (by omega)), hidR (hr2.out.resolve_left (by omega)), hidR (by simp), _, rfl⟩
    case measure => simp [intOf]
  ·have ht : ok = true := by
    rw [HOK.out, hr0.out.resolve_left (by omega), hr1.out.resolve_left (by omega), hr2.out.resolve_left (by omega), hr3.out.resolve_left (by omega)]; rfl
   clear B0 B1 B2 B3 f1' f2' f1 f2
   subst ht
   have hR := HR.out
   simp only [if_true] at hR
   subst hR
   go_wp2
   refine bodyPost_ret (v := .tuple #[.agg #[.string nm, .int .i64 F], .bool true]) (by simp [results, Tryd.results124, go_sem]) rfl ⟨rfl, ?_⟩
   (repeat' (first | exact Below.refl _ _ | assumption | (refine Below.setCell ?_ ?_ _) | (refine Below.alloc ?_ ?_ _) | (refine belowDrewN ?_ _) | omega | (simp; done) | (simp; omega)))
theorem formOf_any (w : World) (x : Mi) (hF : Forms w) :
  Calls Tryd.prog 124 #[.agg #[.int .i64 x.op, .int .i64 x.a, .int .i64 x.b, .int .i64 x.c, .int .i64 x.n]] w (FormPost x w) := by
 by_cases h : 1 ≤ x.op ∧ x.op ≤ 22
 ·exact formOf_in w x.op x.a x.b x.c x.n h.1 h.2 hF
 ·exact formOf_out w x.op x.a x.b x.c x.n (by omega)
end Go.Proofs.YtbdbmmdnidonjaaDoor
set_option maxRecDepth 100000
namespace Go.Proofs.YtbdbmmdnidonjaaDoor
open Go.RowKit
/-- the most that N may be -/
def mostOf (k : Nat) (f : Mf) (op : Int) : Int :=
 if op = 14 then (k : Int) - 1 else if op = 15 ∨ op = 16 then f.slots - 1 else if op = 17 then 2 else if op = 18 then f.params - 1 else if op = 20 ∨ op = 21 then (f.ins.length : Int) - 1 else 255
def insOk (k : Nat) (f : Mf) (x : Mi) : Bool :=
 formOk x && inR 0 7 x.a && inR 0 7 x.b && inR 0 7 x.c && (!hasF 3 x.op || inR 0 (mostOf k f x.op) x.n)
def BoolPost (b : Bool) (w : World) (e : Ending) (w' : World) : Prop := e = .returned (.bool b) ∧ Below w.heap.size w w'
/-- function k of a row of functions, in the walk's form -/
theorem MfsAt.get {w : World} {v : Value} {fs : List Mf} (h : MfsAt w v fs) {k : Nat} {f : Mf} (hk : fs[k]? = some f) :
  ∃ b off cap iv, v = .slice (some ⟨b, off, none⟩) fs.length cap ∧ b < w.heap.size ∧ w.cell? ⟨b, off + k * 3, none⟩ = some (.int .i64 f.params) ∧ w.cell? ⟨b, off + k * 3 + 1, none⟩ = some (.int .i64 f.slots) ∧ w.cell? ⟨b, off + k * 3 + 2, none⟩ = some iv ∧ MisAt w iv f.ins := by
 obtain ⟨a, cap, hv, hc⟩ := h
 obtain ⟨b, off, iv, ha, c0, c1, c2, hm⟩ := hc k f hk
 exact ⟨b, off, cap, iv, by rw [hv, ha], World.block_lt_of_cell? _ _ c0, c0, c1, c2, hm⟩
/-- within, as a fact on a named answer -/
theorem within_named (n lo hi : Int) (p : Bool) (hp : inR lo hi n = p) (w : World) : Calls Tryd.prog 52 #[.int .i64 n, .int .i64 lo, .int .i64 hi] w fun e w' => e = .returned (.bool p) ∧ w = w' := by
 rw [← hp]; exact within_any w n lo hi
set_option maxHeartbeats 2000000 in
theorem minsOk_no (w : World) (v : Value) (op a b c n : Int) (k : Nat) (hF : Forms w) (hno : (formOk ⟨op, a, b, c, n⟩ && inR 0 7 a && inR 0 7 b && inR 0 7 c) = false) :
  Calls Tryd.prog 98 #[.agg #[v], .int .i64 k, .agg #[.int .i64 op, .int .i64 a, .int .i64 b, .int .i64 c, .int .i64 n]] w (BoolPost false w) := by
 have HF := Lib.hid (fun w' (hb : Below w.heap.size w w') => formOf_any w' ⟨op, a, b, c, n⟩ (hF.below hb))
 unfold FormPost at HF
 generalize nameOf (Mi.op ⟨op, a, b, c, n⟩) = nm at *
 generalize fieldsOf (Mi.op ⟨op, a, b, c, n⟩) = F at *
 obtain ⟨ok, hok⟩ : ∃ ok, ok = formOk ⟨op, a, b, c, n⟩ := ⟨_, rfl⟩
 rw [← hok] at HF hno
 obtain ⟨pa, hpa⟩ : ∃ p, inR 0 7 a = p := ⟨_, rfl⟩
 obtain ⟨pb, hpb⟩ : ∃ p, inR 0 7 b = p := ⟨_, rfl⟩
 obtain ⟨pc, hpc⟩ : ∃ p, inR 0 7 c = p := ⟨_, rfl⟩
 rw [hpa, hpb, hpc] at hno
 have WA := within_named a 0 7 pa hpa
 have WB := within_named b 0 7 pb hpb
 have WC := within_named c 0 7 pc hpc
 obtain ⟨R, hR⟩ : ∃ R, R = (if ok = true then Value.agg #[.string nm, .int .i64 F] else .agg #[.string ⟨#[]⟩, .int .i64 0]) := ⟨_, rfl⟩
 rw [← hR] at HF
 have hR2 : ∃ s g, R = .agg #[.string s, .int .i64 g] := by
  rw [hR]; by_cases h : ok = true
  ·rw [if_pos h]; exact ⟨_, _, rfl⟩
  ·rw [if_neg h]; exact ⟨_, _, rfl⟩
 obtain ⟨s, g, rfl⟩ := hR2
 clear hR hok hpa hpb hpc hF
 have HA := Lib.hid WA; have HB := Lib.hid WB; have HC := Lib.hid WC
 clear WA WB WC
 unfold BoolPost
 go_enter Tryd.func98, Tryd.ntmps98
 go_wp2_with (fail)
 go_at_call 124
 refine (HF.out _ (below2 _ _ _)).mono ?_
 rintro e w1 ⟨rfl, hb⟩
 obtain ⟨hc, hf⟩ := bcell hb
 have hw1 := Below.trans (below2 w _ _) (hb.mono (by simp; omega))
 have hsz := hb.size
 simp at hsz
 have HW := Lib.hid hw1
 have hlt : w.heap.size + 1 < w1.heap.size := by omega
 have q1 : w1.cell? ⟨w.heap.size + 1, 1, none⟩ = some (.int .i64 a) := by rw [hc _ _ (by simp)]; simp [go_sem]
 have q2 : w1.cell? ⟨w.heap.size + 1, 2, none⟩ = some (.int .i64 b) := by rw [hc _ _ (by simp)]; simp [go_sem]
 have q3 : w1.cell? ⟨w.heap.size + 1, 3, none⟩ = some (.int .i64 c) := by rw [hc _ _ (by simp)]; simp [go_sem]
 clear hw1 hb HF hc hf
 cases ok
 ·go_wp2_with (fail)
  go_ret
  refine ⟨rfl, ?_⟩
  have hw1 := HW.out
  (repeat' (first | exact Below.refl _ _ | assumption | (refine Below.setCell ?_ ?_ _) | (refine Below.alloc ?_ ?_ _) | (refine belowDrewN ?_ _) | omega | (simp; done) | (simp; omega)))
 go_wp2_with (fail)
 go_at_call 52
 refine (HA.out _).mono ?_
 rintro e w2 ⟨rfl, hw2⟩
 have r2 : w2.cell? ⟨w.heap.size + 1, 2, none⟩ = some (.int .i64 b) := by
  rw [← hw2]; simp [go_sem, hlt]; exact q2
 have r3 : w2.cell? ⟨w.heap.size + 1, 3, none⟩ = some (.int .i64 c) := by
  rw [← hw2]; simp [go_sem, hlt]; exact q3
 have HB2 : Hid (Below w.heap.size w w2) := by
  rw [← hw2]
  have hw1 := HW.out
  apply Lib.hid
  (repeat' (first | exact Below.refl _ _ | assumption | (refine Below.setCell ?_ ?_ _) | (refine Below.alloc ?_ ?_ _) | (refine belowDrewN ?_ _) | omega | (simp; done) | (simp; omega)))
 clear hw2 q1 q2 q3 HW HA
 cases pa
 ·go_wp2_with (fail)
  go_ret
  exact ⟨rfl, HB2.out⟩
 go_wp2_with (fail)
 go_at_call 52
 refine (HB.out _).mono ?_
 rintro e _ ⟨rfl, rfl⟩
 cases pb
 ·go_wp2_with (fail)
  go_ret
  exact ⟨rfl, HB2.out⟩
 go_wp2_with (fail)
 go_at_call 52
 refine (HC.out _).mono ?_
 rintro e _ ⟨rfl, rfl⟩
 cases pc
 ·go_wp2_with (fail)
  go_ret
  exact ⟨rfl, HB2.out⟩
 cases hno
set_option maxHeartbeats 4000000 in
theorem minsOk_yes (w : World) (vb vo vc k : Nat) (len : Nat) (pr sl : Int) (la : Option Addr) (il lc : Nat) (op a b c n : Int) (hF : Forms w) (hyes : (formOk ⟨op, a, b, c, n⟩ && inR 0 7 a && inR 0 7 b && inR 0 7 c) = true)
  (hkl : k < len) (hlen : len ≤ 1048576) (hvb : vb < w.heap.size) (c0 : w.cell? ⟨vb, vo + k * 3, none⟩ = some (.int .i64 pr)) (c1 : w.cell? ⟨vb, vo + k * 3 + 1, none⟩ = some (.int .i64 sl)) (c2 : w.cell? ⟨vb, vo + k * 3 + 2, none⟩ = some (.slice la il lc))
  (hs0 : 0 ≤ sl) (hs1 : sl ≤ 64) (hp0 : 0 ≤ pr) (hp1 : pr ≤ 3) (hil : il ≤ 1048576) (M : Int)
  (hM : M = if op = 14 then (k : Int) - 1 else if op = 15 ∨ op = 16 then sl - 1 else if op = 17 then 2 else if op = 18 then pr - 1 else if op = 20 ∨ op = 21 then (il : Int) - 1 else 255) :
  Calls Tryd.prog 98 #[.agg #[.slice (some ⟨vb, vo, none⟩) len vc], .int .i64 k, .agg #[.int .i64 op, .int .i64 a, .int .i64 b, .int .i64 c, .int .i64 n]] w (BoolPost (!hasF 3 op || inR 0 M n) w) := by
 have HF := Lib.hid (fun w' (hb : Below w.heap.size w w') => formOf_any w' ⟨op, a, b, c, n⟩ (hF.below hb))
 unfold FormPost at HF
 simp only [Bool.and_eq_true] at hyes
 obtain ⟨⟨⟨hok, hpa⟩, hpb⟩, hpc⟩ := hyes
 rw [hok] at HF
 simp only [if_true] at HF
 have hop : 1 ≤ op ∧ op ≤ 22 := by
  unfold formOk at hok
  simp only [Bool.and_eq_true, decide_eq_true_eq] at hok
  exact hok.1
 have b3 := bit3 hop.1 hop.2
 generalize nameOf op = nm at *
 generalize fieldsOf op = F at *
 generalize hasF 3 op = g3 at *
 have HA := Lib.hid (within_named a 0 7 true hpa)
 have HB := Lib.hid (within_named b 0 7 true hpb)
 have HC := Lib.hid (within_named c 0 7 true hpc)
 have HN := Lib.hid (within_named n 0 M _ rfl)
 generalize inR 0 M n = pn at *
 clear hok hpa hpb hpc hF hop
 have HM := Lib.hid hM
 have B3 := Lib.hid b3
 clear hM b3
 have C0 := Lib.hid c0; have C1 := Lib.hid c1; have C2 := Lib.hid c2
 clear c0 c1 c2
 unfold BoolPost
 go_enter Tryd.func98, Tryd.ntmps98
 go_wp2_with (fail)
 go_at_call 124
 refine (HF.out _ (below2 _ _ _)).mono ?_
 rintro e w1 ⟨rfl, hb⟩
 obtain ⟨hc, hf⟩ := bcell hb
 have hw1 := Below.trans (below2 w _ _) (hb.mono (by simp; omega))
 have hsz := hb.size
 simp at hsz
 have HW := Lib.hid hw1
 have hlt : w.heap.size + 1 < w1.heap.size := by omega
 have hlt0 : w.heap.size < w1.heap.size := by omega
 have q1 : w1.cell? ⟨w.heap.size + 1, 1, none⟩ = some (.int .i64 a) := by rw [hc _ _ (by simp)]; simp [go_sem]
 have q2 : w1.cell? ⟨w.heap.size + 1, 2, none⟩ = some (.int .i64 b) := by rw [hc _ _ (by simp)]; simp [go_sem]
 have q3 : w1.cell? ⟨w.heap.size + 1, 3, none⟩ = some (.int .i64 c) := by rw [hc _ _ (by simp)]; simp [go_sem]
 have Q0 := Lib.hid (show w1.cell? ⟨w.heap.size + 1, 0, none⟩ = some (.int .i64 op) by rw [hc _ _ (by simp)]; simp [go_sem])
 have Q4 := Lib.hid (show w1.cell? ⟨w.heap.size + 1, 4, none⟩ = some (.int .i64 n) by rw [hc _ _ (by simp)]; simp [go_sem])
 have QV := Lib.hid (show w1.cell? ⟨w.heap.size, 0, none⟩ = some (.slice (some ⟨vb, vo, none⟩) len vc) by rw [hc _ _ (by simp; omega)]; simp [go_sem])
 clear hw1 hb HF hc hf
 go_wp2_with (fail)
 go_at_call 52
 refine (HA.out _).mono ?_
 rintro e w2 ⟨rfl, hw2⟩
 have r0 : w2.cell? ⟨w.heap.size + 1, 0, none⟩ = some (.int .i64 op) := by
  rw [← hw2]; simp [go_sem, hlt]; exact Q0.out
 have r2 : w2.cell? ⟨w.heap.size + 1, 2, none⟩ = some (.int .i64 b) := by
  rw [← hw2]; simp [go_sem, hlt]; exact q2
 have r3 : w2.cell? ⟨w.heap.size + 1, 3, none⟩ = some (.int .i64 c) := by
  rw [← hw2]; simp [go_sem, hlt]; exact q3
 have r4 : w2.cell? ⟨w.heap.size + 1, 4, none⟩ = some (.int .i64 n) := by
  rw [← hw2]; simp [go_sem, hlt]; exact Q4.out
 have rv : w2.cell? ⟨w.heap.size, 0, none⟩ = some (.slice (some ⟨vb, vo, none⟩) len vc) := by
  rw [← hw2]; simp [go_sem, hlt0]; exact QV.out
 have rF : w2.cell? ⟨w1.heap.size, 1, none⟩ = some (.int .i64 F) := by
  rw [← hw2]; simp [go_sem]
 have hB2 : Below w.heap.size w w2 := by
  rw [← hw2]
  have hw1 := HW.out
  (repeat' (first | exact Below.refl _ _ | assumption | (refine Below.setCell ?_ ?_ _) | (refine Below.alloc ?_ ?_ _) | (refine belowDrewN ?_ _) | omega | (simp; done) | (simp; omega)))
 have k0 : w2.cell? ⟨vb, vo + k * 3, none⟩ = some (.int .i64 pr) := by rw [hB2.cell (p := ⟨vb, vo + k * 3, none⟩) hvb]; exact C0.out
 have k1 : w2.cell? ⟨vb, vo + k * 3 + 1, none⟩ = some (.int .i64 sl) := by rw [hB2.cell (p := ⟨vb, vo + k * 3 + 1, none⟩) hvb]; exact C1.out
 have k2 : w2.cell? ⟨vb, vo + k * 3 + 2, none⟩ = some (.slice la il lc) := by rw [hB2.cell (p := ⟨vb, vo + k * 3 + 2, none⟩) hvb]; exact C2.out
 have HB2 := Lib.hid hB2
 clear hw2 q1 q2 q3 Q0 Q4 QV HW HA C0 C1 C2 hB2
 go_wp2_with (fail)
 go_at_call 52
 refine (HB.out _).mono ?_
 rintro e _ ⟨rfl, rfl⟩
 go_wp2_with (fail)
 go_at_call 52
 refine (HC.out _).mono ?_
 rintro e _ ⟨rfl, rfl⟩
 clear HB HC r2 r3
 have b3 := B3.out
 clear B3
 by_cases h14 : op = 14
 ·subst h14
  obtain rfl : M = (k : Int) - 1 := by rw [HM.out]; simp
  cases g3
  ·simp only [Bool.not_false] at b3
   go_wp2_with (fail)
   go_ret
   exact ⟨by simp, HB2.out⟩
  ·simp only [Bool.not_true] at b3
   go_wp2_with (fail)
   go_at_call 52
   refine (HN.out _).mono ?_
   rintro e _ ⟨rfl, rfl⟩
   go_wp2_with (fail)
   go_ret
   exact ⟨by simp, HB2.out⟩
 by_cases h15 : op = 15
 ·subst h15
  obtain rfl : M = sl - 1 := by rw [HM.out]; simp
  cases g3
  ·simp only [Bool.not_false] at b3
   go_wp2_with (fail)
   go_ret
   exact ⟨by simp, HB2.out⟩
  ·simp only [Bool.not_true] at b3
   go_wp2_with (fail)
   go_at_call 52
   refine (HN.out _).mono ?_
   rintro e _ ⟨rfl, rfl⟩
   go_wp2_with (fail)
   go_ret
   exact ⟨by simp, HB2.out⟩
 by_cases h16 : op = 16
 ·subst h16
  obtain rfl : M = sl - 1 := by rw [HM.out]; simp
  cases g3
  ·simp only [Bool.not_false] at b3
   go_wp2_with (fail)
   go_ret
   exact ⟨by simp, HB2.out⟩
  ·simp only [Bool.not_true] at b3
   go_wp2_with (fail)
   go_at_call 52
   refine (HN.out _).mono ?_
   rintro e _ ⟨rfl, rfl⟩
   go_wp2_with (fail)
   go_ret
   exact ⟨by simp, HB2.out⟩
 by_cases h17 : op = 17
 ·subst h17
  obtain rfl : M = 2 := by rw [HM.out]; simp
  cases g3
  ·simp only [Bool.not_false] at b3
   go_wp2_with (fail)
   go_ret
   exact ⟨by simp, HB2.out⟩
  ·simp only [Bool.not_true] at b3
   go_wp2_with (fail)
   go_at_call 52
   refine (HN.out _).mono ?_
   rintro e _ ⟨rfl, rfl⟩
   go_wp2_with (fail)
   go_ret
   exact ⟨by simp, HB2.out⟩
 by_cases h18 : op = 18
 ·subst h18
  obtain rfl : M = pr - 1 := by rw [HM.out]; simp
  cases g3
  ·simp only [Bool.not_false] at b3
   go_wp2_with (fail)
   go_ret
   exact ⟨by simp, HB2.out⟩
  ·simp only [Bool.not_true] at b3
   go_wp2_with (fail)
   go_at_call 52
   refine (HN.out _).mono ?_
   rintro e _ ⟨rfl, rfl⟩
   go_wp2_with (fail)
   go_ret
   exact ⟨by simp, HB2.out⟩
 by_cases h20 : op = 20
 ·subst h20
  obtain rfl : M = (il : Int) - 1 := by rw [HM.out]; simp
  cases g3
  ·simp only [Bool.not_false] at b3
   go_wp2_with (fail)
   go_ret
   exact ⟨by simp, HB2.out⟩
  ·simp only [Bool.not_true] at b3
   go_wp2_with (fail)
   go_at_call 52
   refine (HN.out _).mono ?_
   rintro e _ ⟨rfl, rfl⟩
   go_wp2_with (fail)
   go_ret
   exact ⟨by simp, HB2.out⟩
 by_cases h21 : op = 21
 ·subst h21
  obtain rfl : M = (il : Int) - 1 := by rw [HM.out]; simp
  cases g3
  ·simp only [Bool.not_false] at b3
   go_wp2_with (fail)
   go_ret
   exact ⟨by simp, HB2.out⟩
  ·simp only [Bool.not_true] at b3
   go_wp2_with (fail)
   go_at_call 52
   refine (HN.out _).mono ?_
   rintro e _ ⟨rfl, rfl⟩
   go_wp2_with (fail)
   go_ret
   exact ⟨by simp, HB2.out⟩
 obtain rfl : M = 255 := by rw [HM.out]; simp [h14, h15, h16, h17, h18, h20, h21]
 cases g3
 ·simp only [Bool.not_false] at b3
  go_wp2_with (fail)
  go_ret
  exact ⟨by simp, HB2.out⟩
 ·simp only [Bool.not_true] at b3
  go_wp2_with (fail)
  go_at_call 52
  refine (HN.out _).mono ?_
  rintro e _ ⟨rfl, rfl⟩
  go_wp2_with (fail)
  go_ret
  exact ⟨by simp, HB2.out⟩
end Go.Proofs.YtbdbmmdnidonjaaDoor
