/- Words, fields of the ops, as the reference has them. -/
import Derived.Test.YtbdbmmdnidonjaaDoorMv
set_option maxRecDepth 100000
namespace Go.Proofs.YtbdbmmdnidonjaaDoor
open Go.RowKit

def fieldStr (op : Int) : ByteArray :=
  if op = 1 then ⟨#[65, 78]⟩ else if op = 2 then ⟨#[65, 66]⟩ else if op = 3 then ⟨#[65, 66, 67]⟩ else if op = 4 then ⟨#[65, 66, 67]⟩ else if op = 5 then ⟨#[65, 66, 67]⟩ else if op = 6 then ⟨#[65, 66, 67]⟩ else if op = 7 then ⟨#[65, 66, 67]⟩ else if op = 8 then ⟨#[65, 66, 67]⟩ else if op = 9 then ⟨#[65, 66, 67]⟩ else if op = 10 then ⟨#[65, 66]⟩ else if op = 11 then ⟨#[65, 66]⟩ else if op = 12 then ⟨#[65, 66]⟩ else if op = 13 then ⟨#[65]⟩ else if op = 14 then ⟨#[78]⟩ else if op = 15 then ⟨#[65, 78]⟩ else if op = 16 then ⟨#[65, 78]⟩ else if op = 17 then ⟨#[65, 78]⟩ else if op = 18 then ⟨#[65, 78]⟩ else if op = 19 then ⟨#[65]⟩ else if op = 20 then ⟨#[78]⟩ else if op = 21 then ⟨#[65, 78]⟩ else ⟨#[65]⟩
def wordsA : Array Value := #[.string ⟨#[]⟩, .string ⟨#[115, 101, 116]⟩, .string ⟨#[109, 111, 118, 101]⟩, .string ⟨#[97, 100, 100]⟩, .string ⟨#[115, 117, 98]⟩, .string ⟨#[109, 117, 108]⟩, .string ⟨#[100, 105, 118]⟩, .string ⟨#[114, 101, 109]⟩, .string ⟨#[108, 101, 115, 115]⟩, .string ⟨#[115, 97, 109, 101]⟩, .string ⟨#[110, 111, 116]⟩, .string ⟨#[108, 111, 97, 100]⟩, .string ⟨#[115, 116, 111, 114, 101]⟩, .string ⟨#[115, 97, 121]⟩, .string ⟨#[99, 97, 108, 108]⟩, .string ⟨#[107, 101, 101, 112]⟩, .string ⟨#[116, 97, 107, 101]⟩, .string ⟨#[103, 105, 118, 101]⟩, .string ⟨#[102, 101, 116, 99, 104]⟩, .string ⟨#[114, 101, 115, 117, 108, 116]⟩, .string ⟨#[106, 117, 109, 112]⟩, .string ⟨#[98, 114, 97, 110, 99, 104]⟩, .string ⟨#[98, 97, 99, 107]⟩]
def fieldsA : Array Value := #[.string ⟨#[]⟩, .string ⟨#[65, 78]⟩, .string ⟨#[65, 66]⟩, .string ⟨#[65, 66, 67]⟩, .string ⟨#[65, 66, 67]⟩, .string ⟨#[65, 66, 67]⟩, .string ⟨#[65, 66, 67]⟩, .string ⟨#[65, 66, 67]⟩, .string ⟨#[65, 66, 67]⟩, .string ⟨#[65, 66, 67]⟩, .string ⟨#[65, 66]⟩, .string ⟨#[65, 66]⟩, .string ⟨#[65, 66]⟩, .string ⟨#[65]⟩, .string ⟨#[78]⟩, .string ⟨#[65, 78]⟩, .string ⟨#[65, 78]⟩, .string ⟨#[65, 78]⟩, .string ⟨#[65, 78]⟩, .string ⟨#[65]⟩, .string ⟨#[78]⟩, .string ⟨#[65, 78]⟩, .string ⟨#[65]⟩]
theorem wordsA_at {u : Nat} (h1 : 1 ≤ u) (h2 : u ≤ 22) : wordsA[u]? = some (.string (nameOf u)) := by
  rcases (show u = 1 ∨ u = 2 ∨ u = 3 ∨ u = 4 ∨ u = 5 ∨ u = 6 ∨ u = 7 ∨ u = 8 ∨ u = 9 ∨ u = 10 ∨ u = 11 ∨ u = 12 ∨ u = 13 ∨ u = 14 ∨ u = 15 ∨ u = 16 ∨ u = 17 ∨ u = 18 ∨ u = 19 ∨ u = 20 ∨ u = 21 ∨ u = 22 by omega) with h | h | h | h | h | h | h | h | h | h | h | h | h | h | h | h | h | h | h | h | h | h <;> subst h <;> rfl
theorem fieldsA_at {u : Nat} (h1 : 1 ≤ u) (h2 : u ≤ 22) : fieldsA[u]? = some (.string (fieldStr u)) := by
  rcases (show u = 1 ∨ u = 2 ∨ u = 3 ∨ u = 4 ∨ u = 5 ∨ u = 6 ∨ u = 7 ∨ u = 8 ∨ u = 9 ∨ u = 10 ∨ u = 11 ∨ u = 12 ∨ u = 13 ∨ u = 14 ∨ u = 15 ∨ u = 16 ∨ u = 17 ∨ u = 18 ∨ u = 19 ∨ u = 20 ∨ u = 21 ∨ u = 22 by omega) with h | h | h | h | h | h | h | h | h | h | h | h | h | h | h | h | h | h | h | h | h | h <;> subst h <;> rfl

/-- is a byte among those of a string? -/
def inS (s : ByteArray) (c : UInt8) : Bool := s.data.toList.any (· == c)
theorem fieldStr_in0 {op : Int} (h1 : 1 ≤ op) (h2 : op ≤ 22) : inS (fieldStr op) 65 = hasF 0 op := by
  rcases op_cases h1 h2 with h | h | h | h | h | h | h | h | h | h | h | h | h | h | h | h | h | h | h | h | h | h <;> subst h <;> decide
theorem fieldStr_in1 {op : Int} (h1 : 1 ≤ op) (h2 : op ≤ 22) : inS (fieldStr op) 66 = hasF 1 op := by
  rcases op_cases h1 h2 with h | h | h | h | h | h | h | h | h | h | h | h | h | h | h | h | h | h | h | h | h | h <;> subst h <;> decide
theorem fieldStr_in2 {op : Int} (h1 : 1 ≤ op) (h2 : op ≤ 22) : inS (fieldStr op) 67 = hasF 2 op := by
  rcases op_cases h1 h2 with h | h | h | h | h | h | h | h | h | h | h | h | h | h | h | h | h | h | h | h | h | h <;> subst h <;> decide
theorem fieldStr_in3 {op : Int} (h1 : 1 ≤ op) (h2 : op ≤ 22) : inS (fieldStr op) 78 = hasF 3 op := by
  rcases op_cases h1 h2 with h | h | h | h | h | h | h | h | h | h | h | h | h | h | h | h | h | h | h | h | h | h <;> subst h <;> decide
theorem fieldStr_small {op : Int} (h1 : 1 ≤ op) (h2 : op ≤ 22) : (fieldStr op).size ≤ 3 ∧ 1 ≤ (fieldStr op).size := by
  rcases op_cases h1 h2 with h | h | h | h | h | h | h | h | h | h | h | h | h | h | h | h | h | h | h | h | h | h <;> subst h <;> decide

set_option maxHeartbeats 400000 in
theorem in_yes (w : World) (n lo hi : Int) (h1 : lo ≤ n) (h2 : n ≤ hi) : Calls Tryd.prog 61 #[.int .i64 n, .int .i64 lo, .int .i64 hi] w fun e w' => e = .returned (.bool true) ∧ w = w' := by
  have d1 : decide (lo ≤ n) = true := by simpa using h1
  have d2 : decide (n ≤ hi) = true := by simpa using h2
  go_enter Tryd.func61, Tryd.ntmps61
  go_wp2
  go_ret
  exact ⟨rfl, rfl⟩
set_option maxHeartbeats 400000 in
theorem in_low (w : World) (n lo hi : Int) (h1 : n < lo) : Calls Tryd.prog 61 #[.int .i64 n, .int .i64 lo, .int .i64 hi] w fun e w' => e = .returned (.bool false) ∧ w = w' := by
  have d1 : decide (lo ≤ n) = false := by simpa using h1
  go_enter Tryd.func61, Tryd.ntmps61
  go_wp2
  go_ret
  exact ⟨rfl, rfl⟩
set_option maxHeartbeats 400000 in
theorem in_high (w : World) (n lo hi : Int) (h1 : lo ≤ n) (h2 : hi < n) : Calls Tryd.prog 61 #[.int .i64 n, .int .i64 lo, .int .i64 hi] w fun e w' => e = .returned (.bool false) ∧ w = w' := by
  have d1 : decide (lo ≤ n) = true := by simpa using h1
  have d2 : decide (n ≤ hi) = false := by simpa using h2
  go_enter Tryd.func61, Tryd.ntmps61
  go_wp2
  go_ret
  exact ⟨rfl, rfl⟩
theorem l1In_any (w : World) (n lo hi : Int) : Calls Tryd.prog 61 #[.int .i64 n, .int .i64 lo, .int .i64 hi] w fun e w' => e = .returned (.bool (inR lo hi n)) ∧ w = w' := by
  by_cases h1 : lo ≤ n
  · by_cases h2 : n ≤ hi
    · have e : inR lo hi n = true := by simp [inR, h1, h2]
      rw [e]; exact in_yes w n lo hi h1 h2
    · have e : inR lo hi n = false := by simp [inR, h2]
      rw [e]; exact in_high w n lo hi h1 (by omega)
  · have e : inR lo hi n = false := by simp [inR, h1]
    rw [e]; exact in_low w n lo hi (by omega)
theorem l1In_named (n lo hi : Int) (p : Bool) (hp : inR lo hi n = p) (w : World) : Calls Tryd.prog 61 #[.int .i64 n, .int .i64 lo, .int .i64 hi] w fun e w' => e = .returned (.bool p) ∧ w = w' := by
  rw [← hp]; exact l1In_any w n lo hi

def opIn (op : Int) : Bool := inR 1 22 op
def WordPost (op : Int) (w : World) (e : Ending) (w' : World) : Prop :=
  e = .returned (.tuple #[.string (if opIn op then nameOf op else ⟨#[]⟩), .string (if opIn op then fieldStr op else ⟨#[]⟩)]) ∧ Below w.heap.size w w'

set_option maxHeartbeats 1000000 in
theorem l22Word_out (w : World) (op : Int) (h : opIn op = false) : Calls Tryd.prog 130 #[.int .i64 op] w (WordPost op w) := by
  have HI := Lib.hid (l1In_named op 1 22 _ h)
  unfold WordPost
  rw [h]
  simp only [Bool.false_eq_true, if_false]
  clear h
  go_enter Tryd.func130, Tryd.ntmps130
  go_wp2_with (fail)
  go_at_call 61
  refine (HI.out _).mono ?_
  rintro e w1 ⟨rfl, hw1⟩
  have hB : Below w.heap.size w w1 := by rw [← hw1]; (repeat' (first | exact Below.refl _ _ | assumption | (refine Below.setCell ?_ ?_ _) | (refine Below.alloc ?_ ?_ _) | (refine belowDrewN ?_ _) | omega | (simp; done) | (simp; omega)))
  clear hw1
  go_wp2_with (fail)
  go_ret2
  exact ⟨rfl, hB⟩

set_option maxHeartbeats 1000000 in
theorem l22Word_in (w : World) (u : Nat) (h1 : 1 ≤ u) (h2 : u ≤ 22) : Calls Tryd.prog 130 #[.int .i64 u] w (WordPost u w) := by
  have hin : opIn (u : Int) = true := inR_iff.mpr ⟨by omega, by omega⟩
  have HI := Lib.hid (l1In_named (u : Int) 1 22 _ hin)
  unfold WordPost
  rw [hin]
  simp only [if_true]
  have HA : Hid (((w.alloc (.cells wordsA 9)).alloc (.cells fieldsA 9)).cell? ⟨w.heap.size, u, none⟩ = some (.string (nameOf u))) := by
    apply Lib.hid
    rw [World.cell?_alloc_past _ _ _ (by simp), World.cell?_alloc_at _ _ _ _ rfl]
    exact wordsA_at h1 h2
  have HB : Hid (((w.alloc (.cells wordsA 9)).alloc (.cells fieldsA 9)).cell? ⟨w.heap.size + 1, u, none⟩ = some (.string (fieldStr u))) := by
    apply Lib.hid
    rw [World.cell?_alloc_at _ _ _ _ (by simp)]
    exact fieldsA_at h1 h2
  have u1 : (1 : Int) ≤ u := by omega
  have u2 : (u : Int) ≤ 22 := by omega
  have u0 : (0 : Int) ≤ u := by omega
  have u3 : (u : Int) < 23 := by omega
  generalize nameOf (u : Int) = nm at *
  generalize fieldStr (u : Int) = fm at *
  clear hin
  go_enter Tryd.func130, Tryd.ntmps130
  go_wp2_with (fail)
  go_at_call 61
  refine (HI.out _).mono ?_
  rintro e w1 ⟨rfl, hw1⟩
  have ha : w1.cell? ⟨w.heap.size, u, none⟩ = some (.string nm) := by rw [← hw1]; exact HA.out
  have hb : w1.cell? ⟨w.heap.size + 1, u, none⟩ = some (.string fm) := by rw [← hw1]; exact HB.out
  have hB : Below w.heap.size w w1 := by rw [← hw1]; (repeat' (first | exact Below.refl _ _ | assumption | (refine Below.setCell ?_ ?_ _) | (refine Below.alloc ?_ ?_ _) | (refine belowDrewN ?_ _) | omega | (simp; done) | (simp; omega)))
  clear hw1 HA HB
  go_wp2_with (fail)
  go_quiet (fail)
  go_wp2_with (fail)
  go_ret2
  exact ⟨rfl, belowDrewN hB _⟩
theorem l22Word_any (w : World) (op : Int) : Calls Tryd.prog 130 #[.int .i64 op] w (WordPost op w) := by
  cases h : opIn op
  · exact l22Word_out w op h
  · have h2 := inR_iff.mp h
    obtain ⟨u, rfl⟩ := Int.eq_ofNat_of_zero_le (show 0 ≤ op by omega)
    exact l22Word_in w u (by omega) (by omega)

/-- the field of a letter -/
def fieldAt (x : Mi) (c : UInt8) : Int := if c = 65 then x.a else if c = 66 then x.b else if c = 67 then x.c else x.n

set_option maxHeartbeats 1000000 in
theorem l22Field_any (w : World) (op a b c n : Int) (q : UInt8) : Calls Tryd.prog 132 #[.agg #[.int .i64 op, .int .i64 a, .int .i64 b, .int .i64 c, .int .i64 n], .int .u8 q.toNat] w fun e w' => e = .returned (.int .i64 (fieldAt ⟨op, a, b, c, n⟩ q)) ∧ Below w.heap.size w w' := by
  unfold fieldAt
  by_cases h65 : q = 65
  · subst h65
    rw [if_pos rfl]
    go_enter Tryd.func132, Tryd.ntmps132
    go_wp2_with (fail)
    go_ret
    exact ⟨rfl, by (repeat' (first | exact Below.refl _ _ | assumption | (refine Below.setCell ?_ ?_ _) | (refine Below.alloc ?_ ?_ _) | (refine belowDrewN ?_ _) | omega | (simp; done) | (simp; omega)))⟩
  rw [if_neg h65]
  have n65 : ¬ ((q.toNat : Int) = 65) := fun h => h65 (by apply UInt8.toNat_inj.mp; show q.toNat = 65; omega)
  by_cases h66 : q = 66
  · subst h66
    rw [if_pos rfl]
    go_enter Tryd.func132, Tryd.ntmps132
    go_wp2_with (fail)
    go_ret
    exact ⟨rfl, by (repeat' (first | exact Below.refl _ _ | assumption | (refine Below.setCell ?_ ?_ _) | (refine Below.alloc ?_ ?_ _) | (refine belowDrewN ?_ _) | omega | (simp; done) | (simp; omega)))⟩
  rw [if_neg h66]
  have n66 : ¬ ((q.toNat : Int) = 66) := fun h => h66 (by apply UInt8.toNat_inj.mp; show q.toNat = 66; omega)
  by_cases h67 : q = 67
  · subst h67
    rw [if_pos rfl]
    go_enter Tryd.func132, Tryd.ntmps132
    go_wp2_with (fail)
    go_ret
    exact ⟨rfl, by (repeat' (first | exact Below.refl _ _ | assumption | (refine Below.setCell ?_ ?_ _) | (refine Below.alloc ?_ ?_ _) | (refine belowDrewN ?_ _) | omega | (simp; done) | (simp; omega)))⟩
  rw [if_neg h67]
  have n67 : ¬ ((q.toNat : Int) = 67) := fun h => h67 (by apply UInt8.toNat_inj.mp; show q.toNat = 67; omega)
  obtain ⟨z, hz⟩ : ∃ z : Int, z = q.toNat := ⟨_, rfl⟩
  rw [← hz] at n65 n66 n67 ⊢
  have e65 : (z == 65) = false := by simpa using n65
  have e66 : (z == 66) = false := by simpa using n66
  have e67 : (z == 67) = false := by simpa using n67
  clear hz
  go_enter Tryd.func132, Tryd.ntmps132
  go_wp2_with (fail)
  go_ret
  exact ⟨rfl, by (repeat' (first | exact Below.refl _ _ | assumption | (refine Below.setCell ?_ ?_ _) | (refine Below.alloc ?_ ?_ _) | (refine belowDrewN ?_ _) | omega | (simp; done) | (simp; omega)))⟩

end Go.Proofs.YtbdbmmdnidonjaaDoor
