/- Slices of ints: a copy, a comparison. No conditions. -/
import Derived.Test.YtbdbmmdnidonjaaDoorArg
set_option maxRecDepth 100000
namespace Go.Proofs.YtbdbmmdnidonjaaDoor
open Go.RowKit

theorem info_int : (Tryd.prog.info? 3).map (fun i => (i.zero, i.size, i.bytes)) = some (some (.int .i64 0), 1, 8) := by kernel_rfl

/-- the slice v reads as the numbers zs -/
def IntsAt (w : World) (v : Value) (zs : List Int) : Prop :=
  ∃ a cap, v = .slice a zs.length cap ∧ ∀ i, i < zs.length → ∃ b off, a = some ⟨b, off, none⟩ ∧ w.cell? ⟨b, off + i, none⟩ = some (.int .i64 (zs.getD i 0))

theorem IntsAt.below {w w' : World} {v : Value} {zs : List Int} (h : IntsAt w v zs) (hb : Below w.heap.size w w') : IntsAt w' v zs := by
  obtain ⟨a, cap, hv, hc⟩ := h
  refine ⟨a, cap, hv, fun i hi => ?_⟩
  obtain ⟨b, off, ha, hcell⟩ := hc i hi
  exact ⟨b, off, ha, by rw [hb.cell (World.block_lt_of_cell? _ _ hcell)]; exact hcell⟩

def ints (zs : List Int) : List Value := zs.map (Value.int .i64)

theorem intsAt_own {w : World} {B g cap : Nat} {zs : List Int} (h : w.ownsRow B 3 1 (.slice (some ⟨g, 0, none⟩) zs.length cap) zs.length (ints zs)) : IntsAt w (.slice (some ⟨g, 0, none⟩) zs.length cap) zs := by
  refine ⟨_, _, rfl, fun i hi => ⟨g, 0, rfl, ?_⟩⟩
  rw [Nat.zero_add, h.cellAt i (by omega)]
  simp [ints, List.getD_eq_getElem?_getD, List.getElem?_eq_getElem hi]

/-- a new slice with these numbers; all else as it was -/
def NewInts (zs : List Int) (w : World) (e : Ending) (w' : World) : Prop :=
  ∃ g, e = .returned (.slice (some ⟨g, 0, none⟩) zs.length zs.length) ∧ w'.ownsRow w.heap.size 3 1 (.slice (some ⟨g, 0, none⟩) zs.length zs.length) zs.length (ints zs) ∧ Below w.heap.size w w'

set_option maxHeartbeats 1000000 in
theorem toIntS_any (w : World) (a : Option Addr) (cap n : Nat) (zs : List Int) (hl : zs.length = n) (hm : n ≤ 1099511627776)
    (hc : ∀ i, i < zs.length → ∃ b off, a = some ⟨b, off, none⟩ ∧ w.cell? ⟨b, off + i, none⟩ = some (.int .i64 (zs.getD i 0))) :
    Calls Tryd.prog 19 #[.slice a n cap] w (NewInts zs w) := by
  obtain ⟨i0, hi, hz0, hz1, hz2⟩ := info_parts info_int
  have Hc := Lib.hid hc
  have Hl := Lib.hid hl
  clear hc hl
  go_enter Tryd.func19, Tryd.ntmps19
  go_wp2_with (refine wpList_make_full _ rfl _ _ 26 rfl w.heap.size 3 i0 (.int .i64 0) 1 Tryd.underlying26 hi hz0 hz1 .i64 .i64 n n n (by rfl) (by rfl) rfl rfl (by rw [hz2]; omega) (by unfold maxLen; omega) (Nat.le_refl _) ?_; intro w1 hown hg; have HOWN := Lib.hid hown; have HB := Lib.hid ((Below.refl w.heap.size w).grown hg (Nat.le_refl _) (fun k hk => by cases hk)); clear hown hg)
  go_loopw [4] (fun i wr => ∃ k xs, k ≤ n ∧ i = .int .i64 k ∧ wr.ownsRow w.heap.size 3 1 (.slice (some ⟨w.heap.size, 0, none⟩) n n) n xs ∧ (∀ j, j < k → xs[j]? = some (.int .i64 (zs.getD j 0))) ∧ Below w.heap.size w wr) (fun i _ => n - (intOf i).toNat)
  case atStart => exact ⟨0, _, Nat.zero_le _, rfl, HOWN.out, by simp, HB.out⟩
  case round =>
    obtain ⟨k, xs, hk, rfl, hown, hxs, hB⟩ := hrel
    obtain ⟨wo, rfl⟩ : ∃ wo : World, wo = wr := ⟨_, rfl⟩
    by_cases hlt : k < n
    · obtain ⟨b, off, rfl, hcell⟩ := Hc.out k (by rw [Hl.out]; exact hlt)
      have hbl : b < w.heap.size := World.block_lt_of_cell? w ⟨b, off + k, none⟩ hcell
      rw [← hB.cell (p := ⟨b, off + k, none⟩) hbl] at hcell
      have hlen : xs.length = n := by have := hown.1; omega
      have hfz := hown.frozenAt k
      have hck := hown.cellAt k (by omega)
      rw [List.getElem?_eq_getElem (by omega)] at hck
      have hst := hown.stored k (.int .i64 (zs.getD k 0))
      have hB' := hB.setCell (p := ⟨w.heap.size, k, none⟩) (Nat.le_refl _) (.int .i64 (zs.getD k 0))
      obtain ⟨z, hz⟩ : ∃ z, z = zs.getD k 0 := ⟨_, rfl⟩
      rw [← hz] at hst hB' hcell
      have HZ := Lib.hid hz
      clear hz
      have HST := Lib.hid hst; have HXS := Lib.hid hxs; have HB' := Lib.hid hB'
      clear hst hxs hB' hB hown
      go_wp2
      go_roundw
      case rel =>
        refine ⟨k + 1, _, by omega, by go_num, HST.out.1, fun j hj => ?_, HB'.out⟩
        by_cases hjk : j = k
        · subst hjk
          rw [List.getElem?_set_self (by omega)]
          rw [← HZ.out]
        · rw [List.getElem?_set_ne (by omega)]
          exact HXS.out j (by omega)
      case measure => simp [intOf]; omega
    · obtain rfl : k = n := by omega
      have hxs' : xs = ints zs := by
        apply List.ext_getElem?
        intro j
        by_cases hj : j < k
        · rw [hxs j hj]
          have hj' : j < zs.length := by rw [Hl.out]; exact hj
          simp [ints, List.getD_eq_getElem?_getD, List.getElem?_eq_getElem hj']
        · have hlen : xs.length = k := by have := hown.1; omega
          rw [List.getElem?_eq_none (by omega), List.getElem?_eq_none (by simp [ints]; have := Hl.out; omega)]
      subst hxs'
      have HO := Lib.hid hown; have HB' := Lib.hid hB
      clear hxs hown hB
      go_wp2
      go_ret
      exact ⟨w.heap.size, by rw [Hl.out]; rfl, by rw [Hl.out]; exact HO.out, HB'.out⟩

/-- it says yes, and turns nothing -/
def Yes (w : World) (e : Ending) (w' : World) : Prop := e = .returned (.bool true) ∧ Below w.heap.size w w'

set_option maxHeartbeats 1000000 in
theorem eqIntS_same (w : World) (a a2 : Option Addr) (cap cap2 n : Nat) (zs : List Int) (hl : zs.length = n) (hm : n ≤ 1099511627776)
    (hc : ∀ i, i < zs.length → ∃ b off, a = some ⟨b, off, none⟩ ∧ w.cell? ⟨b, off + i, none⟩ = some (.int .i64 (zs.getD i 0)))
    (hc2 : ∀ i, i < zs.length → ∃ b off, a2 = some ⟨b, off, none⟩ ∧ w.cell? ⟨b, off + i, none⟩ = some (.int .i64 (zs.getD i 0))) :
    Calls Tryd.prog 21 #[.slice a n cap, .slice a2 n cap2] w (Yes w) := by
  have Hc := Lib.hid hc
  have Hc2 := Lib.hid hc2
  have Hl := Lib.hid hl
  clear hc hl hc2
  go_enter Tryd.func21, Tryd.ntmps21
  go_wp2
  go_loopw [5] (fun i wr => ∃ k : Nat, k ≤ n ∧ i = .int .i64 k ∧ ∃ m, wr = w.drewN m) (fun i _ => n - (intOf i).toNat)
  case atStart => exact ⟨0, Nat.zero_le _, rfl, 0, rfl⟩
  case round =>
    obtain ⟨k, hk, rfl, m, rfl⟩ := hrel
    by_cases hlt : k < n
    · obtain ⟨b, off, rfl, hcell⟩ := Hc.out k (by rw [Hl.out]; exact hlt)
      obtain ⟨b2, off2, rfl, hcell2⟩ := Hc2.out k (by rw [Hl.out]; exact hlt)
      generalize zs.getD k 0 = z at *
      have hd : ∀ m', (w.drewN m').cell? ⟨b, off + k, none⟩ = some (.int .i64 z) := fun _ => hcell
      have hd2 : ∀ m', (w.drewN m').cell? ⟨b2, off2 + k, none⟩ = some (.int .i64 z) := fun _ => hcell2
      have k0 : (0 : Int) ≤ k := by omega
      have k1 : (k : Int) < n := by omega
      go_wp2
      go_quiet (fail)
      go_wp2
      go_roundw
      case rel => exact ⟨k + 1, by omega, by go_num, _, rfl⟩
      case measure => simp [intOf]; omega
    · obtain rfl : k = n := by omega
      go_wp2
      go_ret
      exact ⟨rfl, rfl, rfl, rfl, Nat.le_refl _, fun _ _ => rfl⟩

theorem eqInts {w : World} {v v2 : Value} {zs : List Int} (h : IntsAt w v zs) (h2 : IntsAt w v2 zs) (hm : zs.length ≤ 1099511627776) : Calls Tryd.prog 21 #[v, v2] w (Yes w) := by
  obtain ⟨a, cap, rfl, hc⟩ := h
  obtain ⟨a2, cap2, rfl, hc2⟩ := h2
  exact eqIntS_same w a a2 cap cap2 _ zs rfl hm hc hc2
theorem toInts {w : World} {v : Value} {zs : List Int} (h : IntsAt w v zs) (hm : zs.length ≤ 1099511627776) : Calls Tryd.prog 19 #[v] w (NewInts zs w) := by
  obtain ⟨a, cap, rfl, hc⟩ := h
  exact toIntS_any w a cap _ zs rfl hm hc

end Go.Proofs.YtbdbmmdnidonjaaDoor
