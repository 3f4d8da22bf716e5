/- How an instruction is written: formOf. Premise: the table of forms reads as laid. -/
import Derived.Test.YtbdbmmdnidonjaaDoorMc
import Derived.Deep.QuietTactic
import Derived.BigQuiet
import Derived.Handy
set_option maxRecDepth 100000
namespace Go.Proofs.YtbdbmmdnidonjaaDoor
open Go.RowKit

/-- the fields of an op as bits: A 1, B 2, C 4, N 8 -/
def fieldsOf (op : Int) : Int :=
  if op = 1 then 9 else if op = 2 then 3 else if op = 3 then 7 else if op = 4 then 7 else if op = 5 then 7 else if op = 6 then 7 else if op = 7 then 7 else if op = 8 then 7 else if op = 9 then 7
  else if op = 10 then 3 else if op = 11 then 3 else if op = 12 then 3 else if op = 13 then 1 else if op = 14 then 8 else if op = 15 then 9 else if op = 16 then 9 else if op = 17 then 9 else if op = 18 then 9
  else if op = 19 then 1 else if op = 20 then 8 else if op = 21 then 9 else 1
/-- has an op field k (0 A, 1 B, 2 C, 3 N)? -/
def hasF (k : Nat) (op : Int) : Bool := (fieldsOf op / (2 ^ k : Nat)) % 2 == 1

def nameOf (op : Int) : ByteArray :=
  if op = 1 then ⟨#[115, 101, 116]⟩ else if op = 2 then ⟨#[109, 111, 118, 101]⟩ else if op = 3 then ⟨#[97, 100, 100]⟩ else if op = 4 then ⟨#[115, 117, 98]⟩ else if op = 5 then ⟨#[109, 117, 108]⟩
  else if op = 6 then ⟨#[100, 105, 118]⟩ else if op = 7 then ⟨#[114, 101, 109]⟩ else if op = 8 then ⟨#[108, 101, 115, 115]⟩ else if op = 9 then ⟨#[115, 97, 109, 101]⟩ else if op = 10 then ⟨#[110, 111, 116]⟩
  else if op = 11 then ⟨#[108, 111, 97, 100]⟩ else if op = 12 then ⟨#[115, 116, 111, 114, 101]⟩ else if op = 13 then ⟨#[115, 97, 121]⟩ else if op = 14 then ⟨#[99, 97, 108, 108]⟩ else if op = 15 then ⟨#[107, 101, 101, 112]⟩
  else if op = 16 then ⟨#[116, 97, 107, 101]⟩ else if op = 17 then ⟨#[103, 105, 118, 101]⟩ else if op = 18 then ⟨#[102, 101, 116, 99, 104]⟩ else if op = 19 then ⟨#[114, 101, 115, 117, 108, 116]⟩
  else if op = 20 then ⟨#[106, 117, 109, 112]⟩ else if op = 21 then ⟨#[98, 114, 97, 110, 99, 104]⟩ else ⟨#[98, 97, 99, 107]⟩

/-- the table of forms in memory -/
def Forms (w : World) : Prop := ∀ i : Nat, 1 ≤ i → i ≤ 22 → w.cell? ⟨1, i * 2, none⟩ = some (.string (nameOf i)) ∧ w.cell? ⟨1, i * 2 + 1, none⟩ = some (.int .i64 (fieldsOf i))
theorem Forms.below {w w' : World} (h : Forms w) (hb : Below w.heap.size w w') : Forms w' := by
  intro i h1 h2
  obtain ⟨a, b⟩ := h i h1 h2
  have hl := World.block_lt_of_cell? _ _ a
  exact ⟨by rw [hb.cell (p := ⟨1, i * 2, none⟩) hl]; exact a, by rw [hb.cell (p := ⟨1, i * 2 + 1, none⟩) hl]; exact b⟩

theorem op_cases {op : Int} (h1 : 1 ≤ op) (h2 : op ≤ 22) : op = 1 ∨ op = 2 ∨ op = 3 ∨ op = 4 ∨ op = 5 ∨ op = 6 ∨ op = 7 ∨ op = 8 ∨ op = 9 ∨ op = 10 ∨ op = 11 ∨ op = 12 ∨ op = 13 ∨ op = 14 ∨ op = 15 ∨ op = 16 ∨ op = 17 ∨ op = 18 ∨ op = 19 ∨ op = 20 ∨ op = 21 ∨ op = 22 := by omega

theorem bit0 {op : Int} (h1 : 1 ≤ op) (h2 : op ≤ 22) : (bits .and .i64 (fieldsOf op) 1 == 0) = !hasF 0 op := by
  rcases op_cases h1 h2 with h | h | h | h | h | h | h | h | h | h | h | h | h | h | h | h | h | h | h | h | h | h <;> subst h <;> decide
theorem bit1 {op : Int} (h1 : 1 ≤ op) (h2 : op ≤ 22) : (bits .and .i64 (fieldsOf op) 2 == 0) = !hasF 1 op := by
  rcases op_cases h1 h2 with h | h | h | h | h | h | h | h | h | h | h | h | h | h | h | h | h | h | h | h | h | h <;> subst h <;> decide
theorem bit2 {op : Int} (h1 : 1 ≤ op) (h2 : op ≤ 22) : (bits .and .i64 (fieldsOf op) 4 == 0) = !hasF 2 op := by
  rcases op_cases h1 h2 with h | h | h | h | h | h | h | h | h | h | h | h | h | h | h | h | h | h | h | h | h | h <;> subst h <;> decide
theorem bit3 {op : Int} (h1 : 1 ≤ op) (h2 : op ≤ 22) : (bits .and .i64 (fieldsOf op) 8 == 0) = !hasF 3 op := by
  rcases op_cases h1 h2 with h | h | h | h | h | h | h | h | h | h | h | h | h | h | h | h | h | h | h | h | h | h <;> subst h <;> decide

/-- no field that the op has not is other than 0 -/
def restOk (x : Mi) : Bool := (hasF 0 x.op || x.a == 0) && (hasF 1 x.op || x.b == 0) && (hasF 2 x.op || x.c == 0) && (hasF 3 x.op || x.n == 0)
def formOk (x : Mi) : Bool := decide (1 ≤ x.op) && decide (x.op ≤ 22) && restOk x

set_option maxHeartbeats 400000 in
theorem within_yes (w : World) (n lo hi : Int) (h1 : lo ≤ n) (h2 : n ≤ hi) : Calls Tryd.prog 52 #[.int .i64 n, .int .i64 lo, .int .i64 hi] w fun e w' => e = .returned (.bool true) ∧ w = w' := by
  have d1 : decide (lo ≤ n) = true := by simpa using h1
  have d2 : decide (n ≤ hi) = true := by simpa using h2
  go_enter Tryd.func52, Tryd.ntmps52
  go_wp2
  go_ret
  exact ⟨rfl, rfl⟩
set_option maxHeartbeats 400000 in
theorem within_low (w : World) (n lo hi : Int) (h1 : n < lo) : Calls Tryd.prog 52 #[.int .i64 n, .int .i64 lo, .int .i64 hi] w fun e w' => e = .returned (.bool false) ∧ w = w' := by
  have d1 : decide (lo ≤ n) = false := by simpa using h1
  go_enter Tryd.func52, Tryd.ntmps52
  go_wp2
  go_ret
  exact ⟨rfl, rfl⟩
set_option maxHeartbeats 400000 in
theorem within_high (w : World) (n lo hi : Int) (h1 : lo ≤ n) (h2 : hi < n) : Calls Tryd.prog 52 #[.int .i64 n, .int .i64 lo, .int .i64 hi] w fun e w' => e = .returned (.bool false) ∧ w = w' := by
  have d1 : decide (lo ≤ n) = true := by simpa using h1
  have d2 : decide (n ≤ hi) = false := by simpa using h2
  go_enter Tryd.func52, Tryd.ntmps52
  go_wp2
  go_ret
  exact ⟨rfl, rfl⟩
def inR (lo hi n : Int) : Bool := decide (lo ≤ n) && decide (n ≤ hi)
theorem within_any (w : World) (n lo hi : Int) : Calls Tryd.prog 52 #[.int .i64 n, .int .i64 lo, .int .i64 hi] w fun e w' => e = .returned (.bool (inR lo hi n)) ∧ w = w' := by
  by_cases h1 : lo ≤ n
  · by_cases h2 : n ≤ hi
    · have e : inR lo hi n = true := by simp [inR, h1, h2]
      rw [e]; exact within_yes w n lo hi h1 h2
    · have e : inR lo hi n = false := by simp [inR, h2]
      rw [e]; exact within_high w n lo hi h1 (by omega)
  · have e : inR lo hi n = false := by simp [inR, h1]
    rw [e]; exact within_low w n lo hi (by omega)

def FormPost (x : Mi) (w : World) (e : Ending) (w' : World) : Prop :=
  e = .returned (.tuple #[if formOk x then .agg #[.string (nameOf x.op), .int .i64 (fieldsOf x.op)] else .agg #[.string ⟨#[]⟩, .int .i64 0], .bool (formOk x)]) ∧ Below w.heap.size w w'

set_option maxHeartbeats 1000000 in
theorem formOf_out (w : World) (op a b c n : Int) (h : op < 1 ∨ 22 < op) :
    Calls Tryd.prog 124 #[.agg #[.int .i64 op, .int .i64 a, .int .i64 b, .int .i64 c, .int .i64 n]] w (FormPost ⟨op, a, b, c, n⟩ w) := by
  have e : formOk ⟨op, a, b, c, n⟩ = false := by
    unfold formOk
    rcases h with h | h
    · have : decide (1 ≤ op) = false := by simpa using h
      simp [this]
    · have : decide (op ≤ 22) = false := by simpa using h
      simp [this]
  have e2 : inR 1 22 op = false := by
    unfold inR
    rcases h with h | h
    · have : decide (1 ≤ op) = false := by simpa using h
      simp [this]
    · have : decide (op ≤ 22) = false := by simpa using h
      simp [this]
  unfold FormPost
  rw [e]
  simp only [Bool.false_eq_true, if_false]
  go_enter Tryd.func124, Tryd.ntmps124
  go_wp2_with (go_at_call 52; refine (within_any _ _ _ _).mono ?_; rintro e w1 ⟨rfl, rfl⟩; rw [e2])
  refine bodyPost_ret (v := .tuple #[.agg #[.string ⟨#[]⟩, .int .i64 0], .bool false]) (by simp [results, Tryd.results124, go_sem]) rfl ⟨rfl, ?_⟩
  repeat' (first | exact Below.refl _ _ | (refine Below.setCell ?_ ?_ _) | (refine Below.alloc ?_ ?_ _))
  all_goals (first | omega | (simp; done) | (simp; omega))

theorem belowDrewN {B : Nat} {a w : World} (h : Below B a w) (n : Nat) : Below B a (w.drewN n) := h.trans ⟨rfl, rfl, rfl, Nat.le_refl _, fun _ _ => rfl⟩
@[simp] theorem sizeDrewN (w : World) (n : Nat) : (w.drewN n).heap.size = w.heap.size := rfl
theorem hidR {q p : Prop} (h : p) : Hid (q ∨ p) := Lib.hid (Or.inr h)
set_option maxHeartbeats 2000000 in
theorem formOf_in (w : World) (op a b c n : Int) (h1 : 1 ≤ op) (h2 : op ≤ 22) (hF : Forms w) :
    Calls Tryd.prog 124 #[.agg #[.int .i64 op, .int .i64 a, .int .i64 b, .int .i64 c, .int .i64 n]] w (FormPost ⟨op, a, b, c, n⟩ w) := by
  obtain ⟨u, rfl⟩ := Int.eq_ofNat_of_zero_le (show 0 ≤ op by omega)
  obtain ⟨f1, f2⟩ := hF u (by omega) (by omega)
  have hfl := World.block_lt_of_cell? _ _ f1
  have b0 := bit0 h1 h2
  have b1 := bit1 h1 h2
  have b2 := bit2 h1 h2
  have b3 := bit3 h1 h2
  have e2 : inR 1 22 (u : Int) = true := by simp [inR, h1, h2]
  have hok : formOk ⟨u, a, b, c, n⟩ = ((hasF 0 u || a == 0) && (hasF 1 u || b == 0) && (hasF 2 u || c == 0) && (hasF 3 u || n == 0)) := by
    unfold formOk restOk
    have d1 : decide (1 ≤ (u : Int)) = true := by simpa using h1
    have d2 : decide ((u : Int) ≤ 22) = true := by simpa using h2
    rw [d1, d2]; rfl
  unfold FormPost
  obtain ⟨ok, hok'⟩ : ∃ ok, ok = formOk ⟨u, a, b, c, n⟩ := ⟨_, rfl⟩
  rw [← hok'] at hok ⊢
  simp only []
  generalize nameOf (u : Int) = nm at *
  generalize fieldsOf (u : Int) = F at *
  generalize hasF 0 (u : Int) = g0 at *
  generalize hasF 1 (u : Int) = g1 at *
  generalize hasF 2 (u : Int) = g2 at *
  generalize hasF 3 (u : Int) = g3 at *
  have HOK := Lib.hid hok
  clear hok hok' hF
  obtain ⟨R, hR⟩ : ∃ R, R = (if ok then Value.agg #[.string nm, .int .i64 F] else .agg #[.string ⟨#[]⟩, .int .i64 0]) := ⟨_, rfl⟩
  rw [← hR]
  have HR := Lib.hid hR
  clear hR
  have B0 := Lib.hid b0; have B1 := Lib.hid b1; have B2 := Lib.hid b2; have B3 := Lib.hid b3
  clear b0 b1 b2 b3
  have f1' : ∀ o1 o2, ((w.alloc o1).alloc o2).cell? ⟨1, u * 2, none⟩ = some (.string nm) := fun o1 o2 => by rw [(below2 w o1 o2).cell (p := ⟨1, u * 2, none⟩) hfl]; exact f1
  have f2' : ∀ o1 o2, ((w.alloc o1).alloc o2).cell? ⟨1, u * 2 + 1, none⟩ = some (.int .i64 F) := fun o1 o2 => by rw [(below2 w o1 o2).cell (p := ⟨1, u * 2 + 1, none⟩) hfl]; exact f2
  have x0 : ∀ w : World, (Instr.index 199 (.agg #[.int .i64 a, .int .i64 b, .int .i64 c, .int .i64 n]) (.int .i64 0)).run Tryd.prog w = .ok (.int .i64 a) w := fun _ => by kernel_rfl
  have x1 : ∀ w : World, (Instr.index 199 (.agg #[.int .i64 a, .int .i64 b, .int .i64 c, .int .i64 n]) (.int .i64 1)).run Tryd.prog w = .ok (.int .i64 b) w := fun _ => by kernel_rfl
  have x2 : ∀ w : World, (Instr.index 199 (.agg #[.int .i64 a, .int .i64 b, .int .i64 c, .int .i64 n]) (.int .i64 2)).run Tryd.prog w = .ok (.int .i64 c) w := fun _ => by kernel_rfl
  have x3 : ∀ w : World, (Instr.index 199 (.agg #[.int .i64 a, .int .i64 b, .int .i64 c, .int .i64 n]) (.int .i64 3)).run Tryd.prog w = .ok (.int .i64 n) w := fun _ => by kernel_rfl
  go_enter Tryd.func124, Tryd.ntmps124
  go_wp2_with (go_at_call 52; refine (within_any _ _ _ _).mono ?_; rintro e w1 ⟨rfl, rfl⟩; rw [e2])
  go_loopw [25] (fun i wr => ∃ k : Nat, k ≤ 4 ∧ i = .int .i64 k ∧ Hid (k ≤ 0 ∨ (g0 || a == 0) = true) ∧ Hid (k ≤ 1 ∨ (g1 || b == 0) = true) ∧ Hid (k ≤ 2 ∨ (g2 || c == 0) = true) ∧ Hid (k ≤ 3 ∨ (g3 || n == 0) = true) ∧ ∃ m, wr = (((w.alloc (.cells #[.int .i64 u, .int .i64 a, .int .i64 b, .int .i64 c, .int .i64 n] 124)).alloc (.cells #[.string ⟨#[]⟩, .int .i64 0] 161)).alloc (.cells #[.string nm, .int .i64 F] 161)).drewN m) (fun i _ => 4 - (intOf i).toNat)
  case atStart => exact ⟨0, by omega, rfl, by simp [Hid], by simp [Hid], by simp [Hid], by simp [Hid], 0, rfl⟩
  case round =>
    obtain ⟨k, hk, rfl, hr0, hr1, hr2, hr3, m, rfl⟩ := hrel
    rcases (show k = 0 ∨ k = 1 ∨ k = 2 ∨ k = 3 ∨ k = 4 by omega) with rfl | rfl | rfl | rfl | rfl
    · have bb := B0.out
      clear B0 B1 B2 B3 f1' f2' f1 f2
      cases g0
      · simp only [Bool.not_false] at bb
        by_cases hz : a = 0
        · subst hz
          go_wp2
          go_quiet (fail)
          go_wp2
          go_roundw
          case rel => exact ⟨1, by omega, by rfl, hidR (by simp), by simp [Hid], by simp [Hid], by simp [Hid], _, rfl⟩
          case measure => simp [intOf]
        · have d1 : decide (a = 0) = false := by simpa using hz
          have d2 : (a == 0) = false := by simpa using hz
          have d3 : (a != 0) = true := by simpa using hz
          have hf : ok = false := by
            have := HOK.out
            rw [this, d2]; simp
          subst hf
          have hR := HR.out
          simp only [Bool.false_eq_true, if_false] at hR
          subst hR
          go_wp2
          go_quiet (fail)
          go_wp2
          refine bodyPost_ret (v := .tuple #[.agg #[.string ⟨#[]⟩, .int .i64 0], .bool false]) (by simp [results, Tryd.results124, go_sem]) rfl ⟨rfl, ?_⟩
          (repeat' (first | exact Below.refl _ _ | assumption | (refine Below.setCell ?_ ?_ _) | (refine Below.alloc ?_ ?_ _) | (refine belowDrewN ?_ _) | omega | (simp; done) | (simp; omega)))
      · simp only [Bool.not_true] at bb
        go_wp2
        go_quiet (fail)
        go_wp2
        go_roundw
        case rel => exact ⟨1, by omega, by rfl, hidR (by simp), by simp [Hid], by simp [Hid], by simp [Hid], _, rfl⟩
        case measure => simp [intOf]
    · have bb := B1.out
      clear B0 B1 B2 B3 f1' f2' f1 f2
      cases g1
      · simp only [Bool.not_false] at bb
        by_cases hz : b = 0
        · subst hz
          go_wp2
          go_quiet (fail)
          go_wp2
          go_roundw
          case rel => exact ⟨2, by omega, by rfl, hidR (hr0.out.resolve_left (by omega)), hidR (by simp), by simp [Hid], by simp [Hid], _, rfl⟩
          case measure => simp [intOf]
        · have d1 : decide (b = 0) = false := by simpa using hz
          have d2 : (b == 0) = false := by simpa using hz
          have d3 : (b != 0) = true := by simpa using hz
          have hf : ok = false := by
            have := HOK.out
            rw [this, d2]; simp
          subst hf
          have hR := HR.out
          simp only [Bool.false_eq_true, if_false] at hR
          subst hR
          go_wp2
          go_quiet (fail)
          go_wp2
          refine bodyPost_ret (v := .tuple #[.agg #[.string ⟨#[]⟩, .int .i64 0], .bool false]) (by simp [results, Tryd.results124, go_sem]) rfl ⟨rfl, ?_⟩
          (repeat' (first | exact Below.refl _ _ | assumption | (refine Below.setCell ?_ ?_ _) | (refine Below.alloc ?_ ?_ _) | (refine belowDrewN ?_ _) | omega | (simp; done) | (simp; omega)))
      · simp only [Bool.not_true] at bb
        go_wp2
        go_quiet (fail)
        go_wp2
        go_roundw
        case rel => exact ⟨2, by omega, by rfl, hidR (hr0.out.resolve_left (by omega)), hidR (by simp), by simp [Hid], by simp [Hid], _, rfl⟩
        case measure => simp [intOf]
    · have bb := B2.out
      clear B0 B1 B2 B3 f1' f2' f1 f2
      cases g2
      · simp only [Bool.not_false] at bb
        by_cases hz : c = 0
        · subst hz
          go_wp2
          go_quiet (fail)
          go_wp2
          go_roundw
          case rel => exact ⟨3, by omega, by rfl, hidR (hr0.out.resolve_left (by omega)), hidR (hr1.out.resolve_left (by omega)), hidR (by simp), by simp [Hid], _, rfl⟩
          case measure => simp [intOf]
        · have d1 : decide (c = 0) = false := by simpa using hz
          have d2 : (c == 0) = false := by simpa using hz
          have d3 : (c != 0) = true := by simpa using hz
          have hf : ok = false := by
            have := HOK.out
            rw [this, d2]; simp
          subst hf
          have hR := HR.out
          simp only [Bool.false_eq_true, if_false] at hR
          subst hR
          go_wp2
          go_quiet (fail)
          go_wp2
          refine bodyPost_ret (v := .tuple #[.agg #[.string ⟨#[]⟩, .int .i64 0], .bool false]) (by simp [results, Tryd.results124, go_sem]) rfl ⟨rfl, ?_⟩
          (repeat' (first | exact Below.refl _ _ | assumption | (refine Below.setCell ?_ ?_ _) | (refine Below.alloc ?_ ?_ _) | (refine belowDrewN ?_ _) | omega | (simp; done) | (simp; omega)))
      · simp only [Bool.not_true] at bb
        go_wp2
        go_quiet (fail)
        go_wp2
        go_roundw
        case rel => exact ⟨3, by omega, by rfl, hidR (hr0.out.resolve_left (by omega)), hidR (hr1.out.resolve_left (by omega)), hidR (by simp), by simp [Hid], _, rfl⟩
        case measure => simp [intOf]
    · have bb := B3.out
      clear B0 B1 B2 B3 f1' f2' f1 f2
      cases g3
      · simp only [Bool.not_false] at bb
        by_cases hz : n = 0
        · subst hz
          go_wp2
          go_quiet (fail)
          go_wp2
          go_roundw
          case rel => exact ⟨4, by omega, by rfl, hidR (hr0.out.resolve_left (by omega)), hidR (hr1.out.resolve_left (by omega)), hidR (hr2.out.resolve_left (by omega)), hidR (by simp), _, rfl⟩
          case measure => simp [intOf]
        · have d1 : decide (n = 0) = false := by simpa using hz
          have d2 : (n == 0) = false := by simpa using hz
          have d3 : (n != 0) = true := by simpa using hz
          have hf : ok = false := by
            have := HOK.out
            rw [this, d2]; simp
          subst hf
          have hR := HR.out
          simp only [Bool.false_eq_true, if_false] at hR
          subst hR
          go_wp2
          go_quiet (fail)
          go_wp2
          refine bodyPost_ret (v := .tuple #[.agg #[.string ⟨#[]⟩, .int .i64 0], .bool false]) (by simp [results, Tryd.results124, go_sem]) rfl ⟨rfl, ?_⟩
          (repeat' (first | exact Below.refl _ _ | assumption | (refine Below.setCell ?_ ?_ _) | (refine Below.alloc ?_ ?_ _) | (refine belowDrewN ?_ _) | omega | (simp; done) | (simp; omega)))
      · simp only [Bool.not_true] at bb
        go_wp2
        go_quiet (fail)
        go_wp2
        go_roundw
        case rel => exact ⟨4, by omega, by rfl, hidR (hr0.out.resolve_left (by omega)), hidR (hr1.out.resolve_left (by omega)), hidR (hr2.out.resolve_left (by omega)), hidR (by simp), _, rfl⟩
        case measure => simp [intOf]
    · have ht : ok = true := by
        rw [HOK.out, hr0.out.resolve_left (by omega), hr1.out.resolve_left (by omega), hr2.out.resolve_left (by omega), hr3.out.resolve_left (by omega)]; rfl
      clear B0 B1 B2 B3 f1' f2' f1 f2
      subst ht
      have hR := HR.out
      simp only [if_true] at hR
      subst hR
      go_wp2
      refine bodyPost_ret (v := .tuple #[.agg #[.string nm, .int .i64 F], .bool true]) (by simp [results, Tryd.results124, go_sem]) rfl ⟨rfl, ?_⟩
      (repeat' (first | exact Below.refl _ _ | assumption | (refine Below.setCell ?_ ?_ _) | (refine Below.alloc ?_ ?_ _) | (refine belowDrewN ?_ _) | omega | (simp; done) | (simp; omega)))
theorem formOf_any (w : World) (x : Mi) (hF : Forms w) :
    Calls Tryd.prog 124 #[.agg #[.int .i64 x.op, .int .i64 x.a, .int .i64 x.b, .int .i64 x.c, .int .i64 x.n]] w (FormPost x w) := by
  by_cases h : 1 ≤ x.op ∧ x.op ≤ 22
  · exact formOf_in w x.op x.a x.b x.c x.n h.1 h.2 hF
  · exact formOf_out w x.op x.a x.b x.c x.n (by omega)

end Go.Proofs.YtbdbmmdnidonjaaDoor
