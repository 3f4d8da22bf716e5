/- FnReadInts answers true for every two codes. Premises of the walk: the table of powers of ten reads as laid; the library's variable MaxLen holds a number. -/
import Derived.Test.YtkpkgengdcleiaaDoorRiDs
import Derived.Test.YtkpkgengdcleiaaDoorRiPl
import Derived.Test.YtkpkgengdcleiaaDoorRii
import Derived.Test.YtkpkgengdcleiaaDoorIti
import Derived.Test.YtkpkgengdcleiaaDoorLaid
set_option maxRecDepth 100000
namespace Go.Proofs.YtkpkgengdcleiaaDoor.RiLw
open Go.RowKit

theorem bytes_lift {w w' : World} {v : Value} {xs : List Int} (h : Bytes w w.heap.size v xs) (hb : Below w.heap.size w w') : Bytes w' w'.heap.size v xs := by
  obtain ⟨hx, h⟩ := h
  refine ⟨hx, ?_⟩
  rcases h with h | ⟨b, off, cap, hv, hc, hbr, hs, hcell⟩
  · exact .inl h
  · exact .inr ⟨b, off, cap, hv, hc, Nat.lt_of_lt_of_le hs hb.size, Nat.lt_of_lt_of_le hs hb.size, fun i hi => by rw [hb.cell (p := ⟨b, off + i, none⟩) hs]; exact hcell i hi⟩

theorem all_snoc (zs : List Int) (k : Nat) (h : k < zs.length) : (zs.take (k + 1)).all smallZ = ((zs.take k).all smallZ && smallZ (zs.getD k 0)) := by
  rw [take_snoc' zs k h, List.all_append]
  simp

/-- the last part: the numbers' loop and the answer -/
def FineOf (zs : List Int) : Bool := zs.all smallZ

set_option maxHeartbeats 4000000 in
theorem small (w : World) (a0 a1 : Option Addr) (n0 n1 c0 c1 : Nat) (xs0 xs1 : List Int) (m : Int) (h0 : n0 ≤ 1048576) (h1 : n1 ≤ 1048576) (hc0 : c0 ≤ 9223372036854775807) (hc1 : c1 ≤ 9223372036854775807)
    (hb0 : Bytes w w.heap.size (.slice a0 n0 c0) xs0) (hb1 : Bytes w w.heap.size (.slice a1 n1 c1) xs1) (ht : Tab w) (hml : w.cell? ⟨0, 0, none⟩ = some (.int .i64 m)) :
    Calls Tryd.prog 5 #[.slice a0 n0 c0, .slice a1 n1 c1] w (Yes w) := by
  have hlt := World.block_lt_of_cell? _ _ hml
  have HML := Lib.hid hml
  have HT := Lib.hid ht
  have HD0 := Lib.hid (drawIntsText_any w _ xs0 (fun a n cap h => by injection h with _ _ h; omega) hb0)
  have HD1 := Lib.hid (fun w' (h : Below w.heap.size w w') => drawReadInts_any w' _ xs1 (fun a n cap h => by injection h with _ _ h; omega) (bytes_lift hb1 h))
  clear hml ht hb0 hb1
  go_enter Tryd.func5, Tryd.ntmps5
  go_wp2_with (fail)
  refine HD0.out.mono ?_
  rintro e w1 ⟨v, zs, rfl, hown, hz5, hir, hne, hb⟩
  obtain ⟨g, cap, rfl⟩ := ownsRow_form hown hne
  have HB1 := Lib.hid hb
  have HI1 := Lib.hid (intsAt_of hown)
  have HIR := Lib.hid hir
  clear hown hir hne hb HD0
  obtain ⟨n, hn⟩ : ∃ n, n = zs.length := ⟨_, rfl⟩
  rw [← hn] at hz5 HI1 ⊢
  have HN := Lib.hid hn
  clear hn
  go_wp2_with (fail)
  refine (implIntsText_any _ _ zs HI1.out (by have := HN.out; omega) HIR.out (tab_below HT.out HB1.out)).mono ?_
  rintro e w2 ⟨rfl, hb⟩
  have HB2 := Lib.hid (HB1.out.trans (hb.mono HB1.out.size))
  have HI2 := Lib.hid (HI1.out.below hb)
  clear hb HI1 HB1
  have htx := txt_size n zs HN.out.symm HIR.out
  have hback := ri_back zs
  have h100 : decide (zs.length ≤ 100) = true := by have := HN.out; simp; omega
  rw [h100, Bool.and_true] at hback
  have HBK := Lib.hid hback
  clear hback h100
  obtain ⟨tx, htxe⟩ : ∃ tx, tx = txt zs := ⟨_, rfl⟩
  rw [← htxe] at htx HBK ⊢
  have HTX := Lib.hid htxe
  clear htxe
  go_wp2_with (fail)
  refine (HD1.out w2 HB2.out).mono ?_
  rintro e w3 ⟨t, rfl, ht200, hb⟩
  have HB3 := Lib.hid (HB2.out.trans (hb.mono HB2.out.size))
  have HI3 := Lib.hid (HI2.out.below hb)
  clear hb HI2 HB2 HD1
  have HRI := Lib.hid (fun w' hc => implReadInts_any w' t m (by omega) hc)
  have HRS := Lib.hid (fun w' => specReadInts_any w' t (by omega))
  have htext := ri_text t.data.toList
  unfold RiPost at HRI HRS
  have hrl : (riOf t.data.toList).2.length ≤ 1000 := by
    unfold riOf
    split
    · simp
    · split
      · simp
      · split
        · simp only [List.length_map]; omega
        · simp
  have hrr : InR (riOf t.data.toList).2 := by
    intro z hz
    unfold riOf at hz
    split at hz
    · simp at hz
    · split at hz
      · simp at hz
      · split at hz
        · obtain ⟨p, _, rfl⟩ := List.mem_map.1 hz
          have := numI_range p
          omega
        · simp at hz
  generalize riOf t.data.toList = R at *
  obtain ⟨ok, ys⟩ := R
  simp only at HRI HRS hrl hrr
  have HRR := Lib.hid hrr
  have HTE := Lib.hid htext
  clear htext hrr
  go_wp2_with (fail)
  refine (HRI.out w3 (by rw [HB3.out.cell hlt]; exact HML.out)).mono ?_
  rintro e w4 ⟨v4, rfl, hown, hb⟩
  have HB4 := Lib.hid (HB3.out.trans (hb.mono HB3.out.size))
  have HI4 := Lib.hid (HI3.out.below hb)
  have HG4 := Lib.hid (intsAt_of hown)
  clear hb hown HB3 HI3 HRI
  go_wp2_with (fail)
  refine (HRS.out w4).mono ?_
  rintro e w5 ⟨v5, rfl, hown, hb⟩
  have HB5 := Lib.hid (HB4.out.trans (hb.mono HB4.out.size))
  have HI5 := Lib.hid (HI4.out.below hb)
  have HG5 := Lib.hid (HG4.out.below hb)
  have HW5 := Lib.hid (intsAt_of hown)
  clear hb hown HB4 HI4 HG4 HRS
  go_wp2_with (fail)
  refine (specIntsText_any _ _ zs HI5.out (by have := HN.out; omega) HIR.out).mono ?_
  rintro e w6 ⟨rfl, hb⟩
  rw [← HTX.out]
  have HB6 := Lib.hid (HB5.out.trans (hb.mono HB5.out.size))
  have HI6 := Lib.hid (HI5.out.below hb)
  have HG6 := Lib.hid (HG5.out.below hb)
  have HW6 := Lib.hid (HW5.out.below hb)
  clear hb HB5 HI5 HG5 HW5
  go_wp2_with (fail)
  refine (wwSame HG6.out HW6.out (by omega)).mono ?_
  rintro e w7 ⟨rfl, hb⟩
  have HB7 := Lib.hid (HB6.out.trans (hb.mono HB6.out.size))
  have HI7 := Lib.hid (HI6.out.below hb)
  have HG7 := Lib.hid (HG6.out.below hb)
  clear hb HB6 HI6 HG6 HW6
  cases ok
  case' true =>
    have hty : txt ys = t := by
      have := HTE.out ys rfl
      exact (byteArray_ext this).trans (byteArray_ext rfl).symm
    have HTY := Lib.hid hty
    clear hty
    go_wp2_with (fail)
    refine (implIntsText_any _ _ ys HG7.out (by omega) HRR.out (tab_below HT.out HB7.out)).mono ?_
    rintro e w8 ⟨rfl, hb⟩
    rw [HTY.out]
    have HB8 := Lib.hid (HB7.out.trans (hb.mono HB7.out.size))
    have HI8 := Lib.hid (HI7.out.below hb)
    clear hb HTY HB7 HI7 HG7
  case' false =>
    obtain ⟨w8, rfl⟩ : ∃ w8, w8 = w7 := ⟨_, rfl⟩
    have HB8 := Lib.hid HB7.out
    have HI8 := Lib.hid HI7.out
    clear HB7 HI7 HG7
  all_goals
    go_wp2_with (fail)
    refine (implReadInts_any w8 tx m (by omega) (by rw [HB8.out.cell hlt]; exact HML.out)).mono ?_
    rintro e w9 ⟨v9, rfl, hown, hb⟩
    rw [HBK.out] at hown ⊢
    have HB9 := Lib.hid (HB8.out.trans (hb.mono HB8.out.size))
    have HI9 := Lib.hid (HI8.out.below hb)
    have HO9 := Lib.hid hown
    clear hb hown HB8 HI8
    obtain ⟨fine, hf⟩ : ∃ b, b = zs.all smallZ := ⟨_, rfl⟩
    rw [← hf] at HO9 ⊢
    have HF := Lib.hid hf
    clear hf
    have hcc : ∀ k, k < n → w9.cell? ⟨g, k, none⟩ = some (.int .i64 (zs.getD k 0)) := by
      intro k hk
      obtain ⟨a', cap', he, hc⟩ := HI9.out
      injection he with he _ _
      obtain ⟨b, off, ha, hcell⟩ := hc k (by rw [← HN.out]; exact hk)
      rw [ha] at he
      injection he with he
      injection he with h1 h2
      subst h1; subst h2
      rw [Nat.zero_add] at hcell
      exact hcell
    have HCC := Lib.hid hcc
    clear hcc
    cases fine
    all_goals
      simp only [Bool.false_eq_true, if_false, if_true] at HO9 ⊢
      go_wp2_with (fail)
      go_loop [14, 70] (fun s i => ∃ k : Nat, k ≤ n ∧ i = .int .i64 k ∧ ∃ b, s = .bool b ∧ Hid (b = (zs.take k).all smallZ)) (fun _ i => n - (intOf i).toNat)
      case atStart => exact ⟨0, Nat.zero_le _, rfl, true, rfl, by simp [Hid]⟩
      case round =>
        obtain ⟨k, hk, rfl, b, rfl, hb⟩ := hrel
        by_cases hlt2 : k < n
        · have hcell := HCC.out k hlt2
          have hsn := all_snoc zs k (by rw [← HN.out]; exact hlt2)
          generalize zs.getD k 0 = z at *
          have HSN := Lib.hid hsn
          clear hsn
          cases b
          · go_wp2_with (fail)
            go_round
            case rel => exact ⟨k + 1, by omega, by go_num, false, rfl, by show _ = _; rw [HSN.out, ← hb.out]; rfl⟩
            case measure => simp [intOf]; omega
          · by_cases hz0 : 0 ≤ z
            · by_cases hz9 : z ≤ 9999
              · have d1 : decide (0 ≤ z) = true := by simpa using hz0
                have d2 : decide (z ≤ 9999) = true := by simpa using hz9
                go_wp2_with (fail)
                go_round
                case rel => exact ⟨k + 1, by omega, by go_num, true, rfl, by show _ = _; rw [HSN.out, ← hb.out]; simp [smallZ, hz0, hz9]⟩
                case measure => simp [intOf]; omega
              · have d1 : decide (0 ≤ z) = true := by simpa using hz0
                have d2 : decide (z ≤ 9999) = false := by simpa using hz9
                go_wp2_with (fail)
                go_round
                case rel => exact ⟨k + 1, by omega, by go_num, false, rfl, by show _ = _; rw [HSN.out, ← hb.out]; simp [smallZ]; omega⟩
                case measure => simp [intOf]; omega
            · have d1 : decide (0 ≤ z) = false := by simpa using hz0
              go_wp2_with (fail)
              go_round
              case rel => exact ⟨k + 1, by omega, by go_num, false, rfl, by show _ = _; rw [HSN.out, ← hb.out]; simp [smallZ]; omega⟩
              case measure => simp [intOf]; omega
        · obtain rfl : k = n := by omega
          have hbe := hb.out
          rw [List.take_of_length_le (by rw [← HN.out]; exact Nat.le_refl _), ← HF.out] at hbe
          subst hbe
          have dk : decide ((k : Int) ≤ 100) = true := by simp; omega
          first
            | (go_wp2_with (fail)
               go_ret
               exact ⟨rfl, HB9.out⟩)
            | (go_wp2_with (fail)
               refine (wwSame (intsAt_of HO9.out) (show IntsAt w9 (.slice (some ⟨g, 0, none⟩) k cap) zs from HI9.out) (by rw [← HN.out]; omega)).mono ?_
               rintro e w10 ⟨rfl, hb10⟩
               have HB10 := Lib.hid (HB9.out.trans (hb10.mono HB9.out.size))
               clear hb10
               go_wp2_with (fail)
               go_ret
               exact ⟨rfl, HB10.out⟩)

set_option maxHeartbeats 400000 in
theorem big0 (a0 a1 : Option Addr) (n0 n1 c0 c1 : Nat) (w : World) (h0 : 1048576 < n0) :
    Calls Tryd.prog 5 #[.slice a0 n0 c0, .slice a1 n1 c1] w (Yes w) := by
  have d0 : decide (1048576 < (n0 : Int)) = true := by simp; omega
  go_enter Tryd.func5, Tryd.ntmps5
  go_wp2
  go_ret
  exact ⟨rfl, Below.refl _ _⟩
set_option maxHeartbeats 400000 in
theorem big1 (a0 a1 : Option Addr) (n0 n1 c0 c1 : Nat) (w : World) (h0 : n0 ≤ 1048576) (h1 : 1048576 < n1) :
    Calls Tryd.prog 5 #[.slice a0 n0 c0, .slice a1 n1 c1] w (Yes w) := by
  have d0 : decide (1048576 < (n0 : Int)) = false := by simp; omega
  have d1 : decide (1048576 < (n1 : Int)) = true := by simp; omega
  go_enter Tryd.func5, Tryd.ntmps5
  go_wp2
  go_ret
  exact ⟨rfl, Below.refl _ _⟩

end Go.Proofs.YtkpkgengdcleiaaDoor.RiLw
