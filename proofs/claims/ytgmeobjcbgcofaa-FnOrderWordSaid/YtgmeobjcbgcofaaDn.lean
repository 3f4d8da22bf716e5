/- Names of passes as they are drawn: some strings, none long. No conditions. -/
import Derived.Test.YtgmeobjcbgcofaaPick
import Derived.Deep.RegionHeld3
namespace Go.Proofs.Ytgmeobjcbgcofaa
open Go.RowKit

/-- a string of at most m bytes -/
def StrLe (m : Nat) (x : Value) : Prop := ∃ s : ByteArray, x = .string s ∧ s.size ≤ m

theorem row_new {Q : Value → Prop} (w : World) (cs : Array Value) (t : TypeId) (f : Nat × Nat) (h : ∀ x ∈ cs.toList, Q x) (i : Nat) (hi : i < cs.size) :
    ∃ x, (w.alloc (.cells cs t f)).cell? ⟨w.heap.size, i, none⟩ = some x ∧ Q x := by
  refine ⟨cs[i], ?_, h _ (by simp)⟩
  have : (w.alloc (.cells cs t f)).heap[w.heap.size]? = some (.cells cs t f) := by (show (w.heap.push _)[w.heap.size]? = _); simp
  exact cell_of_heap this (by simp [hi])
theorem rowQ_new {Q : Value → Prop} (w : World) (cs : Array Value) (t : TypeId) (f : Nat × Nat) {r : Nat} (hr : r < w.heap.size) (h : ∀ x ∈ cs.toList, Q x) : RowQ Q (w.alloc (.cells cs t f)) r w.heap.size 0 cs.size :=
  ⟨by omega, by simp, fun i hi => by rw [Nat.zero_add]; exact row_new w cs t f h i hi⟩
theorem StrLe.str {m : Nat} (x : Value) (h : StrLe m x) : ∃ s, x = .string s := let ⟨s, h, _⟩ := h; ⟨s, h⟩

set_option maxHeartbeats 400000 in
theorem in_yes (w : World) (n lo hi : Int) (h1 : lo ≤ n) (h2 : n ≤ hi) : Calls Try.prog 18 #[.int .i64 n, .int .i64 lo, .int .i64 hi] w fun e w' => e = .returned (.bool true) ∧ w = w' := by
  have d1 : decide (lo ≤ n) = true := by simpa using h1
  have d2 : decide (n ≤ hi) = true := by simpa using h2
  go_enter Try.func18, Try.ntmps18
  go_wp2
  go_ret
  exact ⟨rfl, rfl⟩
set_option maxHeartbeats 400000 in
theorem in_low (w : World) (n lo hi : Int) (h1 : n < lo) : Calls Try.prog 18 #[.int .i64 n, .int .i64 lo, .int .i64 hi] w fun e w' => e = .returned (.bool false) ∧ w = w' := by
  have d1 : decide (lo ≤ n) = false := by simpa using h1
  go_enter Try.func18, Try.ntmps18
  go_wp2
  go_ret
  exact ⟨rfl, rfl⟩
set_option maxHeartbeats 400000 in
theorem in_high (w : World) (n lo hi : Int) (h1 : lo ≤ n) (h2 : hi < n) : Calls Try.prog 18 #[.int .i64 n, .int .i64 lo, .int .i64 hi] w fun e w' => e = .returned (.bool false) ∧ w = w' := by
  have d1 : decide (lo ≤ n) = true := by simpa using h1
  have d2 : decide (n ≤ hi) = false := by simpa using h2
  go_enter Try.func18, Try.ntmps18
  go_wp2
  go_ret
  exact ⟨rfl, rfl⟩

def SomeBool (w : World) (e : Ending) (w' : World) : Prop := ∃ b : Bool, e = .returned (.bool b) ∧ w = w'

set_option maxHeartbeats 400000 in
theorem has_any (w : World) (b off n cap : Nat) (s : ByteArray) (hn : n ≤ 9223372036854775807) (hc : ∀ i, i < n → ∃ x : ByteArray, w.cell? ⟨b, off + i, none⟩ = some (.string x)) :
    Calls Try.prog 19 #[.slice (some ⟨b, off, none⟩) n cap, .string s] w (SomeBool w) := by
  have Hc := Lib.hid hc
  clear hc
  go_enter Try.func19, Try.ntmps19
  go_wp2
  go_loop [5] (fun i => ∃ k : Nat, k ≤ n ∧ i = .int .i64 k) (fun i => n - (intOf i).toNat)
  case atStart => exact ⟨0, Nat.zero_le _, rfl⟩
  case round =>
    obtain ⟨k, hk, rfl⟩ := hrel
    by_cases hlt : k < n
    · obtain ⟨x, hx⟩ := Hc.out k hlt
      go_wp2
      · go_ret
        exact ⟨_, rfl, rfl⟩
      · go_round
        case rel => exact ⟨k + 1, by omega, by go_num⟩
        case measure => simp [intOf]; omega
    · go_wp2
      go_ret
      exact ⟨_, rfl, rfl⟩

def NamesPost (w : World) (e : Ending) (w' : World) : Prop :=
  ∃ g, e = .returned (.slice (some ⟨g, 0, none⟩) 16 16) ∧ w.heap.size ≤ g ∧ Below w.heap.size w w' ∧ g < w'.heap.size ∧ ∀ i, i < 16 → ∃ x, w'.cell? ⟨g, i, none⟩ = some x ∧ StrLe 16 x

set_option maxHeartbeats 400000 in
theorem names_any (w : World) : Calls Try.prog 20 #[] w (NamesPost w) := by
  go_enter Try.func20, Try.ntmps20
  go_wp2
  go_ret
  refine ⟨_, rfl, Nat.le_refl _, (Below.refl _ _).alloc (Nat.le_refl _) _, by simp, fun i hi => row_new w _ _ _ ?_ i hi⟩
  simp only [List.mem_cons, List.not_mem_nil, or_false, forall_eq_or_imp, forall_eq]
  refine ⟨?_, ?_, ?_, ?_, ?_, ?_, ?_, ?_, ?_, ?_, ?_, ?_, ?_, ?_, ?_, ?_⟩ <;> exact ⟨_, rfl, by decide⟩

def TextPost (w : World) (e : Ending) (w' : World) : Prop :=
  ∃ (s : ByteArray) (ok : Bool), e = .returned (.tuple #[.string s, .bool ok]) ∧ s.size ≤ 2000 ∧ Below w.heap.size w w'

set_option maxHeartbeats 1000000 in
theorem passesText_any (w : World) (b off n cap : Nat) (hn : n ≤ 64) (hb : b < w.heap.size) (hc : ∀ i, i < n → ∃ x, w.cell? ⟨b, off + i, none⟩ = some x ∧ StrLe 16 x) :
    Calls Try.prog 15 #[.slice (some ⟨b, off, none⟩) n cap] w (TextPost w) := by
  have Hc := Lib.hid hc
  clear hc
  by_cases hno : n < 1
  · go_enter Try.func15, Try.ntmps15
    go_wp2_with (go_at_call 18; refine (in_low _ _ _ _ (by omega)).mono ?_; rintro e w' ⟨rfl, rfl⟩)
    go_ret2
    exact ⟨_, _, rfl, by decide, Below.refl _ _⟩
  by_cases hno2 : 40 < n
  · go_enter Try.func15, Try.ntmps15
    go_wp2_with (go_at_call 18; refine (in_high _ _ _ _ (by omega) (by omega)).mono ?_; rintro e w' ⟨rfl, rfl⟩)
    go_ret2
    exact ⟨_, _, rfl, by decide, Below.refl _ _⟩
  go_enter Try.func15, Try.ntmps15
  go_wp2_with (go_at_call 18; refine (in_yes _ _ _ _ (by omega) (by omega)).mono ?_; rintro e w' ⟨rfl, rfl⟩)
  go_loopw [4, 5] (fun o i wr => ∃ (k : Nat) (s : ByteArray), k ≤ n ∧ i = .int .i64 k ∧ o = .string s ∧ s.size ≤ 17 * k ∧ Below w.heap.size w wr) (fun _ i _ => n - (intOf i).toNat)
  case atStart => exact ⟨0, _, Nat.zero_le _, rfl, rfl, by decide, Below.refl _ _⟩
  case round =>
    obtain ⟨k, s, hk, rfl, rfl, hs, hB⟩ := hrel
    obtain ⟨wo, rfl⟩ : ∃ wo : World, wo = wr := ⟨_, rfl⟩
    by_cases hlt : k < n
    · obtain ⟨x, hx, st, rfl, hst⟩ := Hc.out k hlt
      rw [← hB.cell (p := ⟨b, off + k, none⟩) hb] at hx
      have hk0 : (0 : Int) ≤ (k : Int) := Int.natCast_nonneg _
      have hk1 : (k : Int) < (n : Int) := by omega
      have HB := Lib.hid hB
      clear hB
      go_wp2
      go_region_held3 (fun w' => w'.cell? ⟨b, off + k, none⟩ = some (.string st)) (first | go_keep | (rw [hbb.cell (World.block_lt_of_cell? _ _ (by assumption))]; assumption)) (first | (go_at_call 20; refine (names_any _).mono ?_; rintro e w' ⟨g, rfl, hg, hbb, hgl, hcc⟩) | (go_at_call 19; refine (has_any _ _ _ _ _ _ (by omega) (by intro i hi; obtain ⟨x, hx, s, rfl, _⟩ := hcc i hi; exact ⟨s, by rw [Nat.zero_add]; exact hx⟩)).mono ?_; rintro e w' ⟨bb, rfl, rfl⟩))
      have hB' : Below w.heap.size w w' := HB.out.drew.trans (hbb.mono (by have := HB.out.size; simpa using this))
      have hx' : w'.cell? ⟨b, off + k, none⟩ = some (.string st) := by
        rw [hbb.cell (World.block_lt_of_cell? _ _ (show wo.drew.cell? _ = _ from hx))]; exact hx
      have HB' := Lib.hid hB'
      clear hB' hcc hgl hbb hg hx
      cases bb
      · go_wp2
        go_ret2
        exact ⟨_, _, rfl, by decide, HB'.out⟩
      · by_cases hk2 : 0 < k
        · go_wp2
          go_roundw
          case rel => exact ⟨k + 1, _, by omega, by go_num, rfl, by rw [ByteArray.size_append, ByteArray.size_append]; simp only [show (⟨#[44]⟩ : ByteArray).size = 1 from rfl]; omega, HB'.out⟩
          case measure => simp [intOf]; omega
        · go_wp2
          go_roundw
          case rel => exact ⟨k + 1, _, by omega, by go_num, rfl, by rw [ByteArray.size_append]; omega, HB'.out⟩
          case measure => simp [intOf]; omega
    · go_wp2
      go_ret2
      exact ⟨_, _, rfl, by omega, hB⟩

end Go.Proofs.Ytgmeobjcbgcofaa
