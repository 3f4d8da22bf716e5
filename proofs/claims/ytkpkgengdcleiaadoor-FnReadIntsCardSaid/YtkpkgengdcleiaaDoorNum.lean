/- The number of a piece: the reference's l22Num. No conditions. -/
import Derived.Test.YtkpkgengdcleiaaDoorPc
import Derived.Lib.Hide
set_option maxRecDepth 100000
namespace Go.Proofs.YtkpkgengdcleiaaDoor
open Go.RowKit

/-- the number that a piece tells, or -1 -/
def numI (l : List UInt8) : Int :=
  if l.length = 0 ∨ 4 < l.length ∨ (l.head? = some 48 ∧ 1 < l.length) then -1 else match Lib.decFrom 0 l with | some n => (n : Int) | none => -1

theorem numI_none {l : List UInt8} (h : Lib.decFrom 0 l = none) : numI l = -1 := by unfold numI; split <;> simp [h]
theorem numI_bad {l : List UInt8} (h : l.length = 0 ∨ 4 < l.length ∨ (l.head? = some 48 ∧ 1 < l.length)) : numI l = -1 := by unfold numI; rw [if_pos h]
theorem numI_some {l : List UInt8} {n : Nat} (h : ¬ (l.length = 0 ∨ 4 < l.length ∨ (l.head? = some 48 ∧ 1 < l.length))) (h2 : Lib.decFrom 0 l = some n) : numI l = n := by unfold numI; rw [if_neg h, h2]
theorem numI_range (l : List UInt8) : numI l = -1 ∨ (0 ≤ numI l ∧ numI l ≤ 9999) := by
  unfold numI
  split
  · exact .inl rfl
  · rename_i h
    split
    · rename_i n hn
      right
      have := Lib.decFrom_lt l 0 n hn
      have h4 : l.length ≤ 4 := by omega
      have : (10 : Nat) ^ l.length ≤ 10 ^ 4 := Nat.pow_le_pow_right (by omega) h4
      omega
    · exact .inl rfl

theorem at_list (s : ByteArray) (k : Nat) (h : k < s.size) : s.data.toList[k]? = some s[k] := by
  have h' : k < s.data.toList.length := by simpa using h
  rw [List.getElem?_eq_getElem h']; rfl
theorem len_list (s : ByteArray) : s.data.toList.length = s.size := by simp

/-- one digit more -/
theorem dec_step (s : ByteArray) (k n : Nat) (h : k < s.size) (hd : Lib.decFrom 0 (s.data.toList.take k) = some n) (h1 : 48 ≤ s[k].toNat) (h2 : s[k].toNat ≤ 57) :
    Lib.decFrom 0 (s.data.toList.take (k + 1)) = some (n * 10 + (s[k].toNat - 48)) := by
  have hv : Lib.digitVal s[k] = some (s[k].toNat - 48) := by unfold Lib.digitVal; rw [if_pos ⟨h1, h2⟩]
  have := Lib.decFrom_take s.data.toList k 0 n s[k] (s[k].toNat - 48) hd (at_list s k h) hv
  rw [this]
/-- no digit: no number -/
theorem dec_no (s : ByteArray) (k : Nat) (h : k < s.size) (hb : s[k].toNat < 48 ∨ 57 < s[k].toNat) : Lib.decFrom 0 s.data.toList = none := by
  cases hd : Lib.decFrom 0 s.data.toList with
  | none => rfl
  | some n =>
    obtain ⟨d, hd⟩ := Lib.digit_of_decFrom s.data.toList 0 n hd k s[k] (at_list s k h)
    have := Lib.digitVal_eq hd
    omega

set_option maxHeartbeats 400000 in
theorem in_yes (w : World) (n lo hi : Int) (h1 : lo ≤ n) (h2 : n ≤ hi) : Calls Tryd.prog 34 #[.int .i64 n, .int .i64 lo, .int .i64 hi] w fun e w' => e = .returned (.bool true) ∧ w = w' := by
  have d1 : decide (lo ≤ n) = true := by simpa using h1
  have d2 : decide (n ≤ hi) = true := by simpa using h2
  go_enter Tryd.func34, Tryd.ntmps34
  go_wp2
  go_ret
  exact ⟨rfl, rfl⟩
set_option maxHeartbeats 400000 in
theorem in_low (w : World) (n lo hi : Int) (h1 : n < lo) : Calls Tryd.prog 34 #[.int .i64 n, .int .i64 lo, .int .i64 hi] w fun e w' => e = .returned (.bool false) ∧ w = w' := by
  have d1 : decide (lo ≤ n) = false := by simpa using h1
  go_enter Tryd.func34, Tryd.ntmps34
  go_wp2
  go_ret
  exact ⟨rfl, rfl⟩
set_option maxHeartbeats 400000 in
theorem in_high (w : World) (n lo hi : Int) (h1 : lo ≤ n) (h2 : hi < n) : Calls Tryd.prog 34 #[.int .i64 n, .int .i64 lo, .int .i64 hi] w fun e w' => e = .returned (.bool false) ∧ w = w' := by
  have d1 : decide (lo ≤ n) = true := by simpa using h1
  have d2 : decide (n ≤ hi) = false := by simpa using h2
  go_enter Tryd.func34, Tryd.ntmps34
  go_wp2
  go_ret
  exact ⟨rfl, rfl⟩

def NumPost (s : ByteArray) (w : World) (e : Ending) (w' : World) : Prop := e = .returned (.int .i64 (numI s.data.toList)) ∧ w = w'

set_option maxHeartbeats 1000000 in
theorem l22Num_any (w : World) (s : ByteArray) (hm : s.size ≤ 9223372036854775807) : Calls Tryd.prog 22 #[.string s] w (NumPost s w) := by
  obtain ⟨r, hr⟩ : ∃ r, r = numI s.data.toList := ⟨_, rfl⟩
  have hll := len_list s
  unfold NumPost
  rw [← hr]
  have HR := Lib.hid hr
  have HL := Lib.hid hll
  clear hr hll
  by_cases h0 : s.size < 1
  · have e : r = -1 := by rw [HR.out]; exact numI_bad (.inl (by rw [HL.out]; omega))
    subst e
    go_enter Tryd.func22, Tryd.ntmps22
    go_wp2_with (go_at_call 34; refine (in_low _ _ _ _ (by omega)).mono ?_; rintro e w' ⟨rfl, rfl⟩)
    go_ret
    exact ⟨rfl, rfl⟩
  by_cases h4 : 4 < s.size
  · have e : r = -1 := by rw [HR.out]; exact numI_bad (.inr (.inl (by rw [HL.out]; omega)))
    subst e
    go_enter Tryd.func22, Tryd.ntmps22
    go_wp2_with (go_at_call 34; refine (in_high _ _ _ _ (by omega) (by omega)).mono ?_; rintro e w' ⟨rfl, rfl⟩)
    go_ret
    exact ⟨rfl, rfl⟩
  have hs0 : 0 < s.size := by omega
  have hhead : s.data.toList.head? = some s[0] := by
    rw [← at_list s 0 hs0, List.head?_eq_getElem?]
  by_cases hz : s[0].toNat = 48 ∧ 1 < s.size
  · have e : r = -1 := by
      rw [HR.out]
      refine numI_bad (.inr (.inr ⟨?_, by rw [HL.out]; exact hz.2⟩))
      rw [hhead, ← UInt8.toNat_inj.1 (show s[0].toNat = (48 : UInt8).toNat from hz.1)]
    subst e
    have hb : ((s[0].toNat : Int) == 48) = true := by simp; omega
    have hlt := hz.2
    clear hz hhead
    go_enter Tryd.func22, Tryd.ntmps22
    go_wp2_with (go_at_call 34; refine (in_yes _ _ _ _ (by omega) (by omega)).mono ?_; rintro e w' ⟨rfl, rfl⟩)
    go_ret
    exact ⟨rfl, rfl⟩
  have hok : Hid (¬ (s.data.toList.length = 0 ∨ 4 < s.data.toList.length ∨ (s.data.toList.head? = some 48 ∧ 1 < s.data.toList.length))) := by
    show ¬ _
    rw [HL.out, hhead]
    rintro (h | h | ⟨h, h'⟩)
    · omega
    · omega
    · exact hz ⟨by injection h with h; rw [h]; rfl, h'⟩
  clear hhead
  have key : ((s[0].toNat : Int) == 48) = false ∨ (((s[0].toNat : Int) == 48) = true ∧ ¬ 1 < s.size) := by
    by_cases h : s[0].toNat = 48
    · right; exact ⟨by simp; omega, fun h' => hz ⟨h, h'⟩⟩
    · left; simp; omega
  clear hz
  rcases key with hb | ⟨hb, hsz⟩
  all_goals
    go_enter Tryd.func22, Tryd.ntmps22
    go_wp2_with (go_at_call 34; refine (in_yes _ _ _ _ (by omega) (by omega)).mono ?_; rintro e w' ⟨rfl, rfl⟩)
    go_loop [3, 4] (fun n i => ∃ k m : Nat, k ≤ s.size ∧ i = .int .i64 k ∧ n = .int .i64 m ∧ m < 10 ^ k ∧ Hid (Lib.decFrom 0 (s.data.toList.take k) = some m)) (fun _ i => s.size - (intOf i).toNat)
    case atStart => exact ⟨0, 0, Nat.zero_le _, rfl, rfl, by omega, rfl⟩
    case round =>
      obtain ⟨k, m, hk, rfl, rfl, hmb, hd⟩ := hrel
      by_cases hlt : k < s.size
      · have hp : (10 : Nat) ^ k ≤ 10 ^ 4 := Nat.pow_le_pow_right (by omega) (by omega)
        have hm5 : m < 10000 := by omega
        by_cases hlo : s[k].toNat < 48
        · have e : r = -1 := by rw [HR.out]; exact numI_none (dec_no s k hlt (.inl hlo))
          subst e
          have hd1 : decide ((s[k].toNat : Int) < 48) = true := by simp; omega
          go_wp2
          go_ret
          exact ⟨rfl, rfl⟩
        · by_cases hhi : 57 < s[k].toNat
          · have e : r = -1 := by rw [HR.out]; exact numI_none (dec_no s k hlt (.inr hhi))
            subst e
            have hd1 : decide ((s[k].toNat : Int) < 48) = false := by simp; omega
            have hd2 : decide (57 < (s[k].toNat : Int)) = true := by simp; omega
            go_wp2
            go_ret
            exact ⟨rfl, rfl⟩
          · have hd1 : decide ((s[k].toNat : Int) < 48) = false := by simp; omega
            have hd2 : decide (57 < (s[k].toNat : Int)) = false := by simp; omega
            have hst := dec_step s k m hlt hd.out (by omega) (by omega)
            have HST := Lib.hid hst
            clear hst
            go_wp2
            go_round
            case rel => exact ⟨k + 1, m * 10 + (s[k].toNat - 48), by omega, by go_num, by congr 1; omega, by rw [Nat.pow_succ]; omega, HST.out⟩
            case measure => simp [intOf]; omega
      · obtain rfl : k = s.size := by omega
        have hd' := hd.out
        rw [List.take_of_length_le (by rw [HL.out]; omega)] at hd'
        have e : r = m := by rw [HR.out]; exact numI_some hok.out hd'
        subst e
        clear hd'
        go_wp2
        go_ret
        exact ⟨rfl, rfl⟩

end Go.Proofs.YtkpkgengdcleiaaDoor
