/- The number of a piece: the program's decimal, asked at 9999. No conditions. -/
import Derived.Test.YtkpkgengdcleiaaDoorNum
import Derived.Test.YtkpkgengdcleiaaDoorShelf
set_option maxRecDepth 100000
namespace Go.Proofs.YtkpkgengdcleiaaDoor
open Go.RowKit

def NumPostB (s : ByteArray) (w : World) (e : Ending) (w' : World) : Prop := e = .returned (.int .i64 (numI s.data.toList)) ∧ Below w.heap.size w w'

set_option maxHeartbeats 400000 in
theorem isDigit_yes (w : World) (c : Int) (h1 : 48 ≤ c) (h2 : c ≤ 57) : Calls Tryd.prog 36 #[.int .u8 c] w fun e w' => e = .returned (.bool true) ∧ w = w' := by
  have d1 : decide (48 ≤ c) = true := by simpa using h1
  have d2 : decide (c ≤ 57) = true := by simpa using h2
  go_enter Tryd.func36, Tryd.ntmps36
  go_wp2
  go_ret
  exact ⟨rfl, rfl⟩
set_option maxHeartbeats 400000 in
theorem isDigit_low (w : World) (c : Int) (h1 : c < 48) : Calls Tryd.prog 36 #[.int .u8 c] w fun e w' => e = .returned (.bool false) ∧ w = w' := by
  have d1 : decide (48 ≤ c) = false := by simpa using h1
  go_enter Tryd.func36, Tryd.ntmps36
  go_wp2
  go_ret
  exact ⟨rfl, rfl⟩
set_option maxHeartbeats 400000 in
theorem isDigit_high (w : World) (c : Int) (h1 : 48 ≤ c) (h2 : 57 < c) : Calls Tryd.prog 36 #[.int .u8 c] w fun e w' => e = .returned (.bool false) ∧ w = w' := by
  have d1 : decide (48 ≤ c) = true := by simpa using h1
  have d2 : decide (c ≤ 57) = false := by simpa using h2
  go_enter Tryd.func36, Tryd.ntmps36
  go_wp2
  go_ret
  exact ⟨rfl, rfl⟩

theorem below_bytes (w : World) (t : TypeId) (s : ByteArray) : Below w.heap.size w (Lib.bytesWorld w t s) := by
  unfold Lib.bytesWorld World.freeze
  rw [if_neg (by decide)]
  have h := (Below.refl w.heap.size w).drew.alloc (Nat.le_refl _) (.cells (Lib.bytesCells w t s) t)
  refine h.trans ⟨rfl, rfl, rfl, by simp, fun k hk => ?_⟩
  simp only [Array.getElem?_modify]
  rw [if_neg (by omega)]

theorem atoi_of (l : List UInt8) (m : Nat) (h0 : l ≠ []) (h : Lib.decFrom 0 l = some m) : Lib.atoi l = some (m : Int) := by
  cases l with
  | nil => exact absurd rfl h0
  | cons b r =>
    obtain ⟨d, hd⟩ := Lib.digit_of_decFrom (b :: r) 0 m h 0 b rfl
    have hb := Lib.digitVal_eq hd
    have n1 : (b == 45) = false := by
      simp only [beq_eq_false_iff_ne]; intro e; subst e; simp at hb
    have n2 : (b == 43) = false := by
      simp only [beq_eq_false_iff_ne]; intro e; subst e; simp at hb
    simp [Lib.atoi, n1, n2, Lib.decNat, h]

theorem decFrom_ge : ∀ (l : List UInt8) (acc m : Nat), Lib.decFrom acc l = some m → acc * 10 ^ l.length ≤ m
  | [], acc, m, h => by
    have : acc = m := by simpa [Lib.decFrom] using h
    simp [this]
  | b :: l, acc, m, h => by
    unfold Lib.decFrom at h
    cases hd : Lib.digitVal b with
    | none => simp [hd] at h
    | some d =>
      simp only [hd] at h
      have := decFrom_ge l _ m h
      rw [List.length_cons, Nat.pow_succ, Nat.mul_comm (10 ^ l.length) 10, ← Nat.mul_assoc]
      exact Nat.le_trans (Nat.mul_le_mul_right _ (by omega)) this
theorem dec_low (s : ByteArray) (m : Nat) (h : 0 < s.size) (hd : Lib.decFrom 0 s.data.toList = some m) (hne : s[0].toNat ≠ 48) : 10 ^ (s.size - 1) ≤ m := by
  have hl := len_list s
  have ha := at_list s 0 h
  cases hs : s.data.toList with
  | nil => rw [hs] at hl; simp at hl; omega
  | cons b r =>
    rw [hs] at ha hd hl
    have hb : b = s[0] := by simpa using ha
    have hr : s.size - 1 = r.length := by simp at hl; omega
    unfold Lib.decFrom at hd
    cases hv : Lib.digitVal b with
    | none => simp [hv] at hd
    | some d =>
      simp only [hv] at hd
      have h1 := Lib.digitVal_eq hv
      rw [hb] at h1
      have h2 := decFrom_ge r _ m hd
      rw [hr]
      exact Nat.le_trans (Nat.le_mul_of_pos_left _ (by omega)) h2

set_option maxHeartbeats 1000000 in
theorem decimal_any (w : World) (s : ByteArray) (hm : s.size ≤ 9223372036854775807) : Calls Tryd.prog 24 #[.string s, .int .i64 9999] w (NumPostB s w) := by
  obtain ⟨r, hr⟩ : ∃ r, r = numI s.data.toList := ⟨_, rfl⟩
  have hll := len_list s
  unfold NumPostB
  rw [← hr]
  have HR := Lib.hid hr
  have HL := Lib.hid hll
  clear hr hll
  by_cases h0 : s.size < 1
  · have e : r = -1 := by rw [HR.out]; exact numI_bad (.inl (by rw [HL.out]; omega))
    subst e
    have he : s.toList = [] := by
      rw [Lib.toList_data]
      exact List.eq_nil_of_length_eq_zero (by rw [HL.out]; omega)
    have he2 : s.toList.isEmpty = true := by rw [he]; rfl
    go_enter Tryd.func24, Tryd.ntmps24
    go_wp2
    go_ret
    exact ⟨rfl, Below.refl _ _⟩
  have hne : s.toList.isEmpty = false := by
    rw [Lib.toList_data]
    cases hd : s.data.toList with
    | nil => have := HL.out; rw [hd] at this; simp at this; omega
    | cons b l => rfl
  have hne2 : (!s.toList.isEmpty) = true := by rw [hne]; rfl
  by_cases h4 : 5 < s.size
  · have e : r = -1 := by rw [HR.out]; exact numI_bad (.inr (.inl (by rw [HL.out]; omega)))
    subst e
    go_enter Tryd.func24, Tryd.ntmps24
    go_wp2
    go_ret
    exact ⟨rfl, Below.refl _ _⟩
  have hs0 : 0 < s.size := by omega
  have hhead : s.data.toList.head? = some s[0] := by
    rw [← at_list s 0 hs0, List.head?_eq_getElem?]
  by_cases hz : s[0].toNat = 48 ∧ 1 < s.size
  · have e : r = -1 := by
      rw [HR.out]
      refine numI_bad (.inr (.inr ⟨?_, by rw [HL.out]; exact hz.2⟩))
      rw [hhead, ← UInt8.toNat_inj.1 (show s[0].toNat = (48 : UInt8).toNat from hz.1)]
    subst e
    have hb : ((s[0].toNat : Int) == 48) = true := by simp; omega
    have hlt := hz.2
    clear hz hhead
    go_enter Tryd.func24, Tryd.ntmps24
    go_wp2
    go_ret
    exact ⟨rfl, Below.refl _ _⟩
  have key : (((s[0].toNat : Int) == 48) = false ∧ 1 < s.size) ∨ ¬ 1 < s.size := by
    by_cases h : 1 < s.size
    · left; exact ⟨by simp; omega, h⟩
    · right; exact h
  have HH := Lib.hid hhead
  have HZ := Lib.hid hz
  clear hz hhead
  rcases key with ⟨hb, hsz⟩ | hsz
  all_goals
    go_enter Tryd.func24, Tryd.ntmps24
    go_wp2
    go_loop [27] (fun i => ∃ k m : Nat, k ≤ s.size ∧ i = .int .i64 k ∧ Hid (Lib.decFrom 0 (s.data.toList.take k) = some m)) (fun i => s.size - (intOf i).toNat)
    case atStart => exact ⟨0, 0, Nat.zero_le _, rfl, rfl⟩
    case round =>
      obtain ⟨k, m, hk, rfl, hd⟩ := hrel
      by_cases hlt : k < s.size
      · by_cases hlo : s[k].toNat < 48
        · have e : r = -1 := by rw [HR.out]; exact numI_none (dec_no s k hlt (.inl hlo))
          subst e
          go_wp2_with (go_at_call 36; refine (isDigit_low _ _ (by omega)).mono ?_; rintro e w' ⟨rfl, rfl⟩)
          go_ret
          exact ⟨rfl, Below.refl _ _⟩
        · by_cases hhi : 57 < s[k].toNat
          · have e : r = -1 := by rw [HR.out]; exact numI_none (dec_no s k hlt (.inr hhi))
            subst e
            go_wp2_with (go_at_call 36; refine (isDigit_high _ _ (by omega) (by omega)).mono ?_; rintro e w' ⟨rfl, rfl⟩)
            go_ret
            exact ⟨rfl, Below.refl _ _⟩
          · have hst := dec_step s k m hlt hd.out (by omega) (by omega)
            have HST := Lib.hid hst
            clear hst
            go_wp2_with (go_at_call 36; refine (isDigit_yes _ _ (by omega) (by omega)).mono ?_; rintro e w' ⟨rfl, rfl⟩)
            go_round
            case rel => exact ⟨k + 1, m * 10 + (s[k].toNat - 48), by omega, by go_num, HST.out⟩
            case measure => simp [intOf]; omega
      · obtain rfl : k = s.size := by omega
        have hd' := hd.out
        rw [List.take_of_length_le (by rw [HL.out]; omega)] at hd'
        have ha : Lib.atoi s.data.toList = some (m : Int) := atoi_of _ _ (by intro e; have := HL.out; rw [e] at this; simp at this; omega) hd'
        have HA := Lib.hid ha
        have HD := Lib.hid hd'
        clear hd' ha
        have hmb : m < 100000 := by
          have h1 := Lib.decFrom_lt _ _ _ HD.out
          rw [HL.out] at h1
          have h2 : (10 : Nat) ^ s.size ≤ 10 ^ 5 := Nat.pow_le_pow_right (by omega) (by omega)
          omega
        go_wp2_with (fail)
        refine (Tryd.strconv_Atoi s m (by omega) HA.out _).mono ?_
        rintro e w1 ⟨rfl, t, rfl⟩
        have HB := Lib.hid (below_bytes w 5 t)
        generalize Lib.bytesWorld w 5 t = w1 at *
        by_cases hbig : 9999 < m
        · have e : r = -1 := by
            rw [HR.out]
            refine numI_bad (.inr (.inl ?_))
            rw [HL.out]
            rcases Nat.lt_or_ge 4 s.size with h | h
            · exact h
            · have h1 := Lib.decFrom_lt _ _ _ HD.out
              rw [HL.out] at h1
              have h2 : (10 : Nat) ^ s.size ≤ 10 ^ 4 := Nat.pow_le_pow_right (by omega) (by omega)
              omega
          subst e
          go_wp2
          go_ret
          exact ⟨rfl, HB.out⟩
        · have e : r = m := by
            rw [HR.out]
            refine numI_some ?_ HD.out
            rw [HL.out, HH.out]
            rintro (h | h | ⟨h, h'⟩)
            · omega
            · have h5 : s.size = 5 := by omega
              have hne : s[0].toNat ≠ 48 := fun e => HZ.out ⟨e, by omega⟩
              have hlow := dec_low s m hs0 HD.out hne
              rw [h5] at hlow
              omega
            · exact HZ.out ⟨by injection h with h; rw [h]; rfl, h'⟩
          subst e
          go_wp2
          go_ret
          exact ⟨rfl, HB.out⟩

end Go.Proofs.YtkpkgengdcleiaaDoor
