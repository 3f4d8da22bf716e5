/- Slices of bytes: a copy, a comparison. No conditions. ImageValid on both sides; the law of it, walked. -/
import Derived.Test.YtbdbmmdnidonjaaDoorUJa
import Derived.Test.YtbdbmmdnidonjaaDoorUJv
import Derived.Test.YtbdbmmdnidonjaaDoorUIe
set_option linter.unusedVariables false
set_option linter.unusedSimpArgs false
set_option maxRecDepth 100000
namespace Go.Proofs.YtbdbmmdnidonjaaDoor
open Go.RowKit
/-- a new slice with these numbers; all else as it was -/
def CopyU8 (zs : List Nat) (w : World) (e : Ending) (w' : World) : Prop :=
 ∃ g, e = .returned (.slice (some ⟨g, 0, none⟩) zs.length zs.length) ∧ w'.ownsRow w.heap.size 5 1 (.slice (some ⟨g, 0, none⟩) zs.length zs.length) zs.length (u8s zs) ∧ Below w.heap.size w w'
set_option maxHeartbeats 1000000 in
theorem toByteS_any (w : World) (a : Option Addr) (cap n : Nat) (zs : List Nat) (hl : zs.length = n) (hm : n ≤ 1099511627776)
  (hc : ∀ i, i < zs.length → ∃ b off, a = some ⟨b, off, none⟩ ∧ w.cell? ⟨b, off + i, none⟩ = some (.int .u8 ((byteN zs i : Nat) : Int))) :
  Calls Tryd.prog 32 #[.slice a n cap] w (CopyU8 zs w) := by
 obtain ⟨i0, hi, hz0, hz1, hz2⟩ := info_parts info_u8
 have Hc := Lib.hid hc
 have Hl := Lib.hid hl
 clear hc hl
 go_enter Tryd.func32, Tryd.ntmps32
 go_wp2_with (refine wpList_make_full _ rfl _ _ 22 rfl w.heap.size 5 i0 (.int .u8 0) 1 Tryd.underlying22 hi hz0 hz1 .i64 .i64 n n n (by rfl) (by rfl) rfl rfl (by rw [hz2]; omega) (by unfold maxLen; omega) (Nat.le_refl _) ?_; intro w1 hown hg; have HOWN := Lib.hid hown; have HB := Lib.hid ((Below.refl w.heap.size w).grown hg (Nat.le_refl _) (fun k hk => by cases hk)); clear hown hg)
 go_loopw [4] (fun i wr => ∃ k xs, k ≤ n ∧ i = .int .i64 k ∧ wr.ownsRow w.heap.size 5 1 (.slice (some ⟨w.heap.size, 0, none⟩) n n) n xs ∧ (∀ j, j < k → xs[j]? = some (.int .u8 ((byteN zs j : Nat) : Int))) ∧ Below w.heap.size w wr) (fun i _ => n - (intOf i).toNat)
 case atStart => exact ⟨0, _, Nat.zero_le _, rfl, HOWN.out, by simp, HB.out⟩
 case round =>
  obtain ⟨k, xs, hk, rfl, hown, hxs, hB⟩ := hrel
  obtain ⟨wo, rfl⟩ : ∃ wo : World, wo = wr := ⟨_, rfl⟩
  by_cases hlt : k < n
  ·obtain ⟨b, off, rfl, hcell⟩ := Hc.out k (by rw [Hl.out]; exact hlt)
   have hbl : b < w.heap.size := World.block_lt_of_cell? w ⟨b, off + k, none⟩ hcell
   rw [← hB.cell (p := ⟨b, off + k, none⟩) hbl] at hcell
   have hlen : xs.length = n := by have := hown.1; omega
   have hfz := hown.frozenAt k
   have hck := hown.cellAt k (by omega)
   rw [List.getElem?_eq_getElem (by omega)] at hck
   have hst := hown.stored k (.int .u8 ((byteN zs k : Nat) : Int))
   have hB' := hB.setCell (p := ⟨w.heap.size, k, none⟩) (Nat.le_refl _) (.int .u8 ((byteN zs k : Nat) : Int))
   obtain ⟨z, hz⟩ : ∃ z, z = byteN zs k := ⟨_, rfl⟩
   rw [← hz] at hst hB' hcell
   have HZ := Lib.hid hz
   clear hz
   have HST := Lib.hid hst; have HXS := Lib.hid hxs; have HB' := Lib.hid hB'
   clear hst hxs hB' hB hown
   go_wp2
   go_roundw
   case rel =>
    refine ⟨k + 1, _, by omega, by go_num, HST.out.1, fun j hj => ?_, HB'.out⟩
    by_cases hjk : j = k
    ·subst hjk
     rw [List.getElem?_set_self (by omega)]
     rw [← HZ.out]
    ·rw [List.getElem?_set_ne (by omega)]
     exact HXS.out j (by omega)
   case measure => simp [intOf]; omega
  ·obtain rfl : k = n := by omega
   have hxs' : xs = u8s zs := by
    apply List.ext_getElem?
    intro j
    by_cases hj : j < k
    ·rw [hxs j hj]
     have hj' : j < zs.length := by rw [Hl.out]; exact hj
     simp [u8s, byteN, List.getD_eq_getElem?_getD, List.getElem?_eq_getElem hj']
    ·have hlen : xs.length = k := by have := hown.1; omega
     rw [List.getElem?_eq_none (by omega), List.getElem?_eq_none (by simp [u8s]; have := Hl.out; omega)]
   subst hxs'
   have HO := Lib.hid hown; have HB' := Lib.hid hB
   clear hxs hown hB
   go_wp2
   go_ret
   exact ⟨w.heap.size, by rw [Hl.out]; rfl, by rw [Hl.out]; exact HO.out, HB'.out⟩
set_option maxHeartbeats 1000000 in
theorem eqByteS_same (w : World) (a a2 : Option Addr) (cap cap2 n : Nat) (zs : List Nat) (hl : zs.length = n) (hm : n ≤ 1099511627776)
  (hc : ∀ i, i < zs.length → ∃ b off, a = some ⟨b, off, none⟩ ∧ w.cell? ⟨b, off + i, none⟩ = some (.int .u8 ((byteN zs i : Nat) : Int)))
  (hc2 : ∀ i, i < zs.length → ∃ b off, a2 = some ⟨b, off, none⟩ ∧ w.cell? ⟨b, off + i, none⟩ = some (.int .u8 ((byteN zs i : Nat) : Int))) :
  Calls Tryd.prog 34 #[.slice a n cap, .slice a2 n cap2] w (Yes w) := by
 have Hc := Lib.hid hc
 have Hc2 := Lib.hid hc2
 have Hl := Lib.hid hl
 clear hc hl hc2
 go_enter Tryd.func34, Tryd.ntmps34
 go_wp2
 go_loopw [5] (fun i wr => ∃ k : Nat, k ≤ n ∧ i = .int .i64 k ∧ ∃ m, wr = w.drewN m) (fun i _ => n - (intOf i).toNat)
 case atStart => exact ⟨0, Nat.zero_le _, rfl, 0, rfl⟩
 case round =>
  obtain ⟨k, hk, rfl, m, rfl⟩ := hrel
  by_cases hlt : k < n
  ·obtain ⟨b, off, rfl, hcell⟩ := Hc.out k (by rw [Hl.out]; exact hlt)
   obtain ⟨b2, off2, rfl, hcell2⟩ := Hc2.out k (by rw [Hl.out]; exact hlt)
   generalize byteN zs k = z at *
   have hd : ∀ m', (w.drewN m').cell? ⟨b, off + k, none⟩ = some (.int .u8 (z : Int)) := fun _ => hcell
   have hd2 : ∀ m', (w.drewN m').cell? ⟨b2, off2 + k, none⟩ = some (.int .u8 (z : Int)) := fun _ => hcell2
   have k0 : (0 : Int) ≤ k := by omega
   have k1 : (k : Int) < n := by omega
   go_wp2
   go_quiet (fail)
   go_wp2
   go_roundw
   case rel => exact ⟨k + 1, by omega, by go_num, _, rfl⟩
   case measure => simp [intOf]; omega
  ·obtain rfl : k = n := by omega
   go_wp2
   go_ret
   exact ⟨rfl, rfl, rfl, rfl, Nat.le_refl _, fun _ _ => rfl⟩
theorem eqBytes {w : World} {v v2 : Value} {b : List Nat} (h : CsAt w v b) (h2 : CsAt w v2 b) (hm : b.length ≤ 1099511627776) : Calls Tryd.prog 34 #[v, v2] w (Yes w) := by
 obtain ⟨a, cap, rfl, _, hc⟩ := h
 obtain ⟨a2, cap2, rfl, _, hc2⟩ := h2
 exact eqByteS_same w a a2 cap cap2 _ b rfl hm hc hc2
end Go.Proofs.YtbdbmmdnidonjaaDoor
set_option maxRecDepth 100000
namespace Go.Proofs.YtbdbmmdnidonjaaDoor
open Go.RowKit
end Go.Proofs.YtbdbmmdnidonjaaDoor
