/- Numbers in decimal, as the reference writes them. No conditions. -/
import Derived.Test.YtkpkgengdcleiaaDoorRd
import Derived.Lib.ItoaNum
import Derived.Lib.ItoaLen
import Derived.Lib.Join
set_option maxRecDepth 100000
namespace Go.Proofs.YtkpkgengdcleiaaDoor
open Go.RowKit

/-- string([]byte{x}) over the block that has just been laid -/
theorem conv_one (W : World) (x : Int) : (convert 31 9 (.slice (some ⟨W.heap.size, 0, none⟩) 1 1)).run Tryd.prog (W.alloc (.cells #[.int .u8 x] 5)) = .ok (.string (strOfNums [x])) (W.alloc (.cells #[.int .u8 x] 5)) := by
  refine run_convert_bytes_arg _ 31 5 Tryd.underlying31 Tryd.underlying5 _ 0 1 1 [x] rfl (fun i hi => ?_) 9 Tryd.underlying9
  obtain rfl : i = 0 := by omega
  rw [World.cell?_alloc_at _ _ _ _ rfl]; rfl

theorem num_one (x : Int) : (strOfNums [x]).size = 1 := by simp [strOfNums_size]
theorem num_data (y : Int) (x : Nat) (h : y = (x : Int)) : (strOfNums [y]).data.toList = [UInt8.ofNat x] := by
  rw [h, strOfNums_data]; simp only [List.map, Int.toNat_natCast]
theorem digits_le (u : Nat) (h : u ≤ 9223372036854775808) : (Lib.decDigits u).length ≤ 20 := by
  rw [Lib.decDigits_length]; exact Lib.nDigits_le20 u (by omega)
theorem dec_small (u : Nat) (h : ¬ 9 < u) : Lib.decDigits u = [UInt8.ofNat (48 + u)] := Lib.decDigits_one (by omega)
theorem dec_big (u : Nat) (h : 9 < u) : Lib.decDigits u = Lib.decDigits (u / 10) ++ [UInt8.ofNat (48 + u % 10)] := by
  rw [Lib.decDigits, dif_neg (by omega)]
theorem append_toArray (s t : ByteArray) : (s ++ t).data.toList = s.data.toList ++ t.data.toList := by simp [ByteArray.data_append]
theorem byteArray_ext {s : ByteArray} {l : List UInt8} (h : s.data.toList = l) : s = ⟨l.toArray⟩ := by
  obtain ⟨⟨d⟩⟩ := s
  simp at h
  rw [h]

def DecPost (n : Nat) (w : World) (e : Ending) (w' : World) : Prop :=
  e = .returned (.string ⟨(Lib.decDigits n).toArray⟩) ∧ Below w.heap.size w w'

set_option maxHeartbeats 1000000 in
theorem l30Dec_any (w : World) (n : Nat) (hn : n ≤ 9223372036854775807) :
    Calls Tryd.prog 29 #[.int .i64 n] w (DecPost n w) := by
  have h1 : ¬ ((n : Int) < -9223372036854775807) := by omega
  have h2 : ¬ ((n : Int) < 0) := by omega
  have kc := conv_one
  have ko := num_one
  go_enter Tryd.func29, Tryd.ntmps29
  go_wp2_with (fail)
  clear h1 h2
  go_loopw [0, 3] (fun i o wr => ∃ (u : Nat) (s : ByteArray), i = .int .i64 u ∧ u ≤ 9223372036854775807 ∧ o = .string s ∧ Hid (Lib.decDigits u ++ s.data.toList = Lib.decDigits n) ∧ Below w.heap.size w wr) (fun i _ _ => (intOf i).toNat)
  case atStart => exact ⟨n, _, rfl, hn, rfl, by simp [Hid], Below.refl _ _⟩
  case round =>
    obtain ⟨u, s, rfl, hu, rfl, hd, hB⟩ := hrel
    obtain ⟨wo, rfl⟩ : ∃ wo : World, wo = wr := ⟨_, rfl⟩
    have HB := Lib.hid hB
    have hss : s.size ≤ 20 := by
      have h1 := digits_le n (by omega)
      rw [← hd.out] at h1
      simp at h1
      have : s.size = s.data.toList.length := by simp
      simp at this
      omega
    clear hB
    by_cases h : 9 < u
    · go_wp2_with (fail)
      go_roundw
      case rel =>
        refine ⟨u / 10, _, by go_num, by omega, rfl, ?_, HB.out.alloc HB.out.size _⟩
        have hd := hd.out
        rw [dec_big u h] at hd
        show _ = _
        rw [← hd, append_toArray, num_data _ (48 + u % 10) (by omega), List.append_assoc]
      case measure => simp [intOf]; omega
    · go_wp2_with (fail)
      go_ret
      refine ⟨?_, HB.out.alloc HB.out.size _⟩
      have hd := hd.out
      rw [dec_small u h] at hd
      have : strOfNums [48 + (u : Int)] ++ s = ⟨(Lib.decDigits n).toArray⟩ := by
        apply byteArray_ext
        rw [← hd, append_toArray, num_data _ (48 + u) (by omega)]
      rw [← this]; rfl

def ItoaPost (n : Int) (w : World) (e : Ending) (w' : World) : Prop :=
  e = .returned (.string ⟨(Lib.itoa n).toArray⟩) ∧ Below w.heap.size w w'

theorem itoa_min : Lib.itoa (-9223372036854775808) = [45, 57, 50, 50, 51, 51, 55, 50, 48, 51, 54, 56, 53, 52, 55, 55, 53, 56, 48, 56] := by
  simp [Lib.itoa, Lib.decDigits]

set_option maxHeartbeats 1000000 in
theorem l29Int_any (w : World) (n : Int) (h0 : -9223372036854775808 ≤ n) (h1 : n ≤ 9223372036854775807) :
    Calls Tryd.prog 17 #[.int .i64 n] w (ItoaPost n w) := by
  by_cases hn : 0 ≤ n
  · obtain ⟨u, rfl⟩ := Int.eq_ofNat_of_zero_le hn
    have e : Lib.itoa (u : Int) = Lib.decDigits u := by simp [Lib.itoa]
    have H := Lib.hid (fun w => l30Dec_any w u (by omega))
    have E := Lib.hid e
    clear e
    go_enter Tryd.func17, Tryd.ntmps17
    go_wp2_with (go_at_call 29; refine (H.out _).mono ?_; rintro e w1 ⟨rfl, hb⟩; have HB := Lib.hid hb; clear hb)
    go_ret
    exact ⟨by rw [E.out]; rfl, HB.out⟩
  · by_cases hm : n < -9223372036854775807
    · obtain rfl : n = -9223372036854775808 := by omega
      have E := Lib.hid itoa_min
      go_enter Tryd.func17, Tryd.ntmps17
      go_wp2
      go_ret
      exact ⟨by rw [E.out]; rfl, Below.refl _ _⟩
    · have e : Lib.itoa n = 45 :: Lib.decDigits n.natAbs := by simp [Lib.itoa]; omega
      obtain ⟨u, hu⟩ : ∃ u : Nat, -n = u := ⟨(-n).toNat, by omega⟩
      have hub : u ≤ 9223372036854775807 := by omega
      have hab : n.natAbs = u := by omega
      rw [hab] at e
      have hne : IntKind.i64.wrap (-n) = u := by rw [hu]; exact IntWalk.i64_in _ (by omega)
      have H := Lib.hid (fun w => l30Dec_any w u (by omega))
      have E := Lib.hid e
      have hsz : (⟨(Lib.decDigits u).toArray⟩ : ByteArray).size ≤ 20 := by
        have := digits_le u (by omega)
        simpa [ByteArray.size] using this
      generalize hg : (⟨(Lib.decDigits u).toArray⟩ : ByteArray) = dd at *
      have HG := Lib.hid hg
      have Hu := Lib.hid hu
      clear e hg hu hab
      go_enter Tryd.func17, Tryd.ntmps17
      go_wp2_with (fail)
      try rw [Hu.out]
      refine (H.out _).mono ?_
      rintro e w1 ⟨rfl, hb⟩
      rw [HG.out]
      have HB := Lib.hid hb
      clear hb
      go_wp2_with (fail)
      go_ret
      refine ⟨?_, HB.out⟩
      rw [E.out]
      have : (⟨#[45]⟩ : ByteArray) ++ dd = ⟨(45 :: Lib.decDigits u).toArray⟩ := by
        apply byteArray_ext
        rw [append_toArray, ← HG.out]
        rfl
      rw [← this]; rfl

end Go.Proofs.YtkpkgengdcleiaaDoor
