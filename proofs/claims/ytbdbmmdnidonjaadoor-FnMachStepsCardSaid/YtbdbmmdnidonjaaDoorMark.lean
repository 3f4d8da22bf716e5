/- Marks: markIntS writes them, heldIntS finds them. -/
import Derived.Test.YtbdbmmdnidonjaaDoorOwn
set_option maxRecDepth 100000
namespace Go.Proofs.YtbdbmmdnidonjaaDoor
open Go.RowKit

def iota (k n : Nat) : List Int := (List.range n).map fun i => ((k + i : Nat) : Int)
theorem iota_length (k n : Nat) : (iota k n).length = n := by simp [iota]
theorem iota_at (k n i : Nat) (h : i < n) : (iota k n).getD i 0 = ((k + i : Nat) : Int) := by
  simp [iota, List.getD_eq_getElem?_getD, h]

def MarkPost (B : Nat) (v : Value) (n k : Nat) (w : World) (e : Ending) (w' : World) : Prop :=
  e = .returned (.int .i64 ((k + n : Nat) : Int)) ∧ w'.ownsRow B 3 1 v n (ints (iota k n)) ∧ Below B w w'

set_option maxHeartbeats 1000000 in
theorem markIntS_any (w : World) (B : Nat) (v : Value) (n k : Nat) (xs : List Value) (h : w.ownsRow B 3 1 v n xs) (hk : k + n ≤ 1099511627776) :
    Calls Tryd.prog 28 #[v, .int .i64 k] w (MarkPost B v n k w) := by
  by_cases hv : v = .slice none 0 0
  · subst hv
    have hn : n = 0 := by
      rcases h.2 with ⟨_, h⟩ | ⟨_, _, _, h, _⟩
      · exact h
      · cases h
    subst hn
    go_enter Tryd.func28, Tryd.ntmps28
    go_wp2
    refine wp_loop_rounds 1 ?_
    rw [rounds_succ]
    go_wp2
    go_ret
    exact ⟨rfl, ⟨rfl, .inl ⟨rfl, rfl⟩⟩, Below.refl _ _⟩
  obtain ⟨g, cap, rfl⟩ := ownsRow_form h hv
  have hl := ownsRow_lt h
  have HO := Lib.hid h
  have hBg := hl.2.1
  clear h hv hl
  go_enter Tryd.func28, Tryd.ntmps28
  go_wp2
  go_loopw [1, 5] (fun q i wr => ∃ (j : Nat) (ys : List Value), j ≤ n ∧ i = .int .i64 j ∧ q = .int .i64 ((k + j : Nat) : Int) ∧ wr.ownsRow B 3 1 (.slice (some ⟨g, 0, none⟩) n cap) n ys ∧ Hid (∀ i, i < j → ys[i]? = some (.int .i64 ((k + i : Nat) : Int))) ∧ Below B w wr) (fun _ i _ => n - (intOf i).toNat)
  case atStart => exact ⟨0, xs, Nat.zero_le _, rfl, rfl, HO.out, by simp [Hid], Below.refl _ _⟩
  case round =>
    obtain ⟨j, ys, hj, rfl, rfl, hown, hys, hB⟩ := hrel
    obtain ⟨wo, rfl⟩ : ∃ wo : World, wo = wr := ⟨_, rfl⟩
    by_cases hlt : j < n
    · have hlen : ys.length = n := by have := hown.1; omega
      have hfz := hown.frozenAt j
      have hck := hown.cellAt j (by omega)
      rw [List.getElem?_eq_getElem (by omega)] at hck
      have HST := Lib.hid (hown.stored j (.int .i64 ((k + j : Nat) : Int)))
      have HB' := Lib.hid (hB.setCell (p := ⟨g, j, none⟩) hBg (.int .i64 ((k + j : Nat) : Int)))
      clear hown hB
      have hcast : ((k + j : Nat) : Int) = (k : Int) + j := by omega
      go_wp2
      go_roundw
      case rel =>
        refine ⟨j + 1, _, by omega, by go_num, by congr 1, HST.out.1, ?_, HB'.out⟩
        show ∀ i, _
        intro i hi
        by_cases hij : i = j
        · subst hij
          rw [List.getElem?_set_self (by omega)]
        · rw [List.getElem?_set_ne (by omega)]
          exact hys.out i (by omega)
      case measure => simp [intOf]; omega
    · obtain rfl : j = n := by omega
      have hyi : ys = ints (iota k j) := by
        have hlen : ys.length = j := by have := hown.1; omega
        apply List.ext_getElem?
        intro i
        by_cases hi : i < j
        · rw [hys.out i hi]
          simp [ints, iota, hi]
        · rw [List.getElem?_eq_none (by omega), List.getElem?_eq_none (by simp [ints, iota]; omega)]
      subst hyi
      have HOW := Lib.hid hown
      have HB' := Lib.hid hB
      clear hown hB
      go_wp2
      go_ret
      exact ⟨rfl, HOW.out, HB'.out⟩

set_option maxHeartbeats 1000000 in
theorem heldIntS_any (w : World) (v : Value) (n k : Nat) (h : IntsAt w v (iota k n)) (hk : k + n ≤ 1099511627776) :
    Calls Tryd.prog 45 #[v, .int .i64 k] w fun e w' => e = .returned (.int .i64 ((k + n : Nat) : Int)) ∧ w = w' := by
  obtain ⟨a, cap, rfl, hc⟩ := h
  rw [iota_length] at hc ⊢
  have HC := Lib.hid hc
  clear hc
  go_enter Tryd.func45, Tryd.ntmps45
  go_wp2
  go_loop [1, 5] (fun q i => ∃ j : Nat, j ≤ n ∧ i = .int .i64 j ∧ q = .int .i64 ((k + j : Nat) : Int)) (fun _ i => n - (intOf i).toNat)
  case atStart => exact ⟨0, Nat.zero_le _, rfl, rfl⟩
  case round =>
    obtain ⟨j, hj, rfl, rfl⟩ := hrel
    by_cases hlt : j < n
    · obtain ⟨b, off, rfl, hcell⟩ := HC.out j hlt
      rw [iota_at k n j hlt] at hcell
      go_wp2
      go_round
      case rel => exact ⟨j + 1, by omega, by go_num, by congr 1⟩
      case measure => simp [intOf]; omega
    · obtain rfl : j = n := by omega
      go_wp2
      go_ret
      exact ⟨rfl, rfl⟩

end Go.Proofs.YtbdbmmdnidonjaaDoor
