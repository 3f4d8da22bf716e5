/- FnExactOrderWord and FnOrderWord: walks of both OrderWord functions. No conditions. -/
import Derived.Test.YtgmeobjcbgcofaaRows
import Derived.WalkKit
import Derived.WalkSpells
import Derived.WalkLawsBesides
import Derived.Lib.Hide
import Derived.Lib.Bytealg
import Derived.Laws.StandIn
import Derived.Deep.QuietTactic
import Derived.BigQuiet
namespace Go.Proofs.Ytgmeobjcbgcofaa
open Go.RowKit

/-- how many bytes stand ahead of the first space -/
def owLen : List UInt8 → Nat
  | [] => 0
  | b :: l => if b == 32 then 0 else owLen l + 1

theorem owLen_le (l : List UInt8) : owLen l ≤ l.length := by
  induction l with
  | nil => simp [owLen]
  | cons b l ih => unfold owLen; split <;> simp <;> omega

theorem ow_miss (l : List UInt8) (h : Lib.indexByte l 32 = -1) : owLen l = l.length := by
  induction l with
  | nil => rfl
  | cons b l ih =>
    unfold Lib.indexByte at h
    unfold owLen
    by_cases hb : (b == 32) = true
    · simp [hb] at h
    · have hg := Lib.indexByte_ge l 32
      simp only [hb, Bool.false_eq_true, if_false] at h ⊢
      by_cases h2 : Lib.indexByte l 32 = -1
      · rw [ih h2]; simp
      · simp [h2] at h; omega

theorem ow_hit (l : List UInt8) (h : Lib.indexByte l 32 ≠ -1) : Lib.indexByte l 32 = owLen l ∧ owLen l < l.length := by
  induction l with
  | nil => simp [Lib.indexByte] at h
  | cons b l ih =>
    unfold Lib.indexByte at h ⊢
    unfold owLen
    by_cases hb : (b == 32) = true
    · simp [hb]
    · simp only [hb, Bool.false_eq_true, if_false] at h ⊢
      by_cases h2 : Lib.indexByte l 32 = -1
      · simp [h2] at h
      · have := ih h2
        have e : (Lib.indexByte l 32 == -1) = false := by simpa using h2
        simp only [e, Bool.false_eq_true, if_false]
        simp; omega

theorem ow_no (l : List UInt8) : ∀ k, k < owLen l → (l.getD k 0 == 32) = false := by
  induction l with
  | nil => simp [owLen]
  | cons b l ih =>
    intro k hk
    unfold owLen at hk
    by_cases hb : (b == 32) = true
    · simp [hb] at hk
    · simp only [hb, Bool.false_eq_true, if_false] at hk
      cases k with
      | zero => simpa using hb
      | succ k => simpa using ih k (by omega)

theorem ow_yes (l : List UInt8) (h : owLen l < l.length) : (l.getD (owLen l) 0 == 32) = true := by
  induction l with
  | nil => simp at h
  | cons b l ih =>
    unfold owLen at h ⊢
    by_cases hb : (b == 32) = true
    · simp [hb]
    · simp only [hb, Bool.false_eq_true, if_false] at h ⊢
      simp only [List.getD_cons_succ]; exact ih (by simp at h; omega)

theorem ow_no' (s : ByteArray) (k : Nat) (hk : k < owLen s.data.toList) (h : k < s.size) : ((s[k].toNat : Int) == 32) = false := by
  have := ow_no s.data.toList k hk
  have h' : k < s.data.toList.length := by simpa using h
  rw [List.getD_eq_getElem?_getD, List.getElem?_eq_getElem h'] at this
  have e : s.data.toList[k] = s[k] := rfl
  rw [e] at this
  simp only [Option.getD_some, beq_eq_false_iff_ne, ne_eq] at this ⊢
  intro h2
  exact this (UInt8.toNat_inj.1 (by simp; omega))

theorem ow_yes' (s : ByteArray) (h : owLen s.data.toList < s.size) : ((s[owLen s.data.toList].toNat : Int) == 32) = true := by
  have h' : owLen s.data.toList < s.data.toList.length := by simpa using h
  have := ow_yes s.data.toList h'
  rw [List.getD_eq_getElem?_getD, List.getElem?_eq_getElem h'] at this
  have e : s.data.toList[owLen s.data.toList] = s[owLen s.data.toList] := rfl
  rw [e] at this
  simp only [Option.getD_some, beq_iff_eq] at this ⊢
  rw [this]; rfl

theorem extract_all (s : ByteArray) : s.extract 0 s.size = s := by simp

set_option maxHeartbeats 400000 in
theorem ib (s : ByteArray) (c : Int) (w : World) :
    Calls Try.prog 22 #[.string s, .int .u8 c] w fun e w' => e = .returned (.int .i64 (Lib.indexByte s.data.toList c.toNat.toUInt8)) ∧ w' = w := by
  go_enter Try.func22, Try.ntmps22
  go_wp2
  rw [run_callFunc_extern Try.func26 (by kernel_rfl) (by kernel_rfl) (by kernel_rfl) (e := Extern.BytealgIndexByte.indexByte) (by kernel_rfl), Lib.run_indexByteString]
  simp only [Result.andThen]
  rw [Oper.upon_value]
  go_wp2
  go_ret
  exact ⟨rfl, rfl⟩

theorem eq_one (s : ByteArray) (h : ([32] == s.toList) = true) : Lib.indexByte s.data.toList 32 = 0 := by
  have h' : s.toList = [32] := by simpa using (beq_iff_eq.1 h).symm
  rw [Lib.toList_data] at h'
  rw [h']; rfl

set_option maxHeartbeats 400000 in
theorem ix (s : ByteArray) (w : World) :
    Calls Try.prog 17 #[.string s, .string ⟨#[32]⟩] w fun e w' => e = .returned (.int .i64 (Lib.indexByte s.data.toList 32)) ∧ w' = w := by
  by_cases hq : ([32] == s.toList) = true
  · have e := eq_one s hq
    generalize Lib.indexByte s.data.toList 32 = r at *
    subst e
    go_enter Try.func17, Try.ntmps17
    go_wp2
    go_ret
    exact ⟨rfl, rfl⟩
  · have hq' : ([32] == s.toList) = false := by simpa using hq
    clear hq
    go_enter Try.func17, Try.ntmps17
    go_wp2_with (go_at_call 22; refine (ib _ _ _).mono ?_; rintro e w' ⟨rfl, rfl⟩)
    go_ret
    exact ⟨rfl, rfl⟩

set_option maxHeartbeats 400000 in
theorem cut_miss (s : ByteArray) (w : World) (h : Lib.indexByte s.data.toList 32 = -1) :
    Calls Try.prog 12 #[.string s, .string ⟨#[32]⟩] w fun e w' => e = .returned (.tuple #[.string s, .string ⟨#[]⟩, .bool false]) ∧ ∃ n, w' = w.drewN n := by
  have H := Lib.hid h; clear h
  go_enter Try.func12, Try.ntmps12
  go_wp2_with (go_at_call 17; refine (ix _ _).mono ?_; rintro e w' ⟨rfl, rfl⟩; rw [H.out])
  go_ret3
  exact ⟨rfl, 0, rfl⟩

set_option maxHeartbeats 400000 in
theorem cut_hit (s : ByteArray) (w : World) (k : Nat) (h : Lib.indexByte s.data.toList 32 = k) (hk : k < s.size) (hs : s.size ≤ 1048576) :
    Calls Try.prog 12 #[.string s, .string ⟨#[32]⟩] w fun e w' => e = .returned (.tuple #[.string (s.extract 0 k), .string (s.extract (k + 1) s.size), .bool true]) ∧ ∃ n, w' = w.drewN n := by
  have H := Lib.hid h; clear h
  have c1 : (0 : Int) ≤ ↑k := by omega
  have c2 : (↑k : Int) ≤ ↑s.size := by omega
  have c3 : (0 : Int) ≤ ↑k + 1 := by omega
  have c4 : (↑k + 1 : Int) ≤ ↑s.size := by omega
  go_enter Try.func12, Try.ntmps12
  go_wp2_with (go_at_call 17; refine (ix _ _).mono ?_; rintro e w' ⟨rfl, rfl⟩; rw [H.out])
  go_region
  go_wp2
  go_ret3
  exact ⟨rfl, 1, rfl⟩

set_option maxHeartbeats 400000 in
theorem scut_miss (s : ByteArray) (w : World) (h : Lib.indexByte s.data.toList 32 = -1) :
    Calls Try.prog 9 #[.string s, .string ⟨#[32]⟩] w fun e w' => e = .returned (.tuple #[.string s, .string ⟨#[]⟩, .bool false]) ∧ ∃ n, w' = w.drewN n := by
  have H := Lib.hid h; clear h
  go_enter Try.func9, Try.ntmps9
  go_wp2_with (go_at_call 12; refine (cut_miss _ _ H.out).mono ?_; rintro e w' ⟨rfl, n, rfl⟩)
  go_ret3
  exact ⟨rfl, n, rfl⟩

set_option maxHeartbeats 400000 in
theorem scut_hit (s : ByteArray) (w : World) (k : Nat) (h : Lib.indexByte s.data.toList 32 = k) (hk : k < s.size) (hs : s.size ≤ 1048576) :
    Calls Try.prog 9 #[.string s, .string ⟨#[32]⟩] w fun e w' => e = .returned (.tuple #[.string (s.extract 0 k), .string (s.extract (k + 1) s.size), .bool true]) ∧ ∃ n, w' = w.drewN n := by
  have H := Lib.hid h; clear h
  go_enter Try.func9, Try.ntmps9
  go_wp2_with (go_at_call 12; refine (cut_hit _ _ _ H.out hk hs).mono ?_; rintro e w' ⟨rfl, n, rfl⟩)
  go_ret3
  exact ⟨rfl, n, rfl⟩

set_option maxHeartbeats 400000 in
theorem impl_ow (s : ByteArray) (w : World) (hs : s.size ≤ 1048576) :
    Calls Try.prog 6 #[.string s] w fun e w' => e = .returned (.string (s.extract 0 (owLen s.data.toList))) ∧ ∃ n, w' = w.drewN n := by
  by_cases h : Lib.indexByte s.data.toList 32 = -1
  · have hw := ow_miss _ h
    rw [show s.data.toList.length = s.size from by simp] at hw
    have E : s.extract 0 (owLen s.data.toList) = s := by rw [hw]; exact extract_all s
    have H := Lib.hid h; clear h hw
    rw [E]
    clear E
    go_enter Try.func6, Try.ntmps6
    go_wp2_with (go_at_call 9; refine (scut_miss _ _ H.out).mono ?_; rintro e w' ⟨rfl, n, rfl⟩)
    go_ret
    exact ⟨rfl, _, rfl⟩
  · obtain ⟨h1, h2⟩ := ow_hit _ h
    rw [show s.data.toList.length = s.size from by simp] at h2
    have H := Lib.hid h1; clear h h1
    go_enter Try.func6, Try.ntmps6
    go_wp2_with (go_at_call 9; refine (scut_hit _ _ _ H.out h2 hs).mono ?_; rintro e w' ⟨rfl, n, rfl⟩)
    go_ret
    exact ⟨rfl, _, rfl⟩

set_option maxHeartbeats 400000 in
theorem spec_ow (s : ByteArray) (w : World) (hs : s.size ≤ 1048576) :
    Calls Try.prog 5 #[.string s] w fun e w' => e = .returned (.string (s.extract 0 (owLen s.data.toList))) ∧ w' = w := by
  have hle := owLen_le s.data.toList
  rw [show s.data.toList.length = s.size from by simp] at hle
  have hno := ow_no' s
  have hyes := ow_yes' s
  have hfull : s.extract 0 s.size = s := extract_all s
  generalize owLen s.data.toList = m at *
  obtain ⟨r, hr⟩ : ∃ r, r = s.extract 0 m := ⟨_, rfl⟩
  rw [← hr]
  have Hno := Lib.hid hno; have Hyes := Lib.hid hyes; have Hr := Lib.hid hr; have Hfull := Lib.hid hfull
  clear hno hyes hr hfull
  go_enter Try.func5, Try.ntmps5
  go_wp2
  go_loop [3] (fun i => ∃ k : Nat, k ≤ m ∧ i = .int .i64 k) (fun i => s.size - (intOf i).toNat)
  case atStart => exact ⟨0, Nat.zero_le _, rfl⟩
  case round =>
    obtain ⟨k, hk, rfl⟩ := hrel
    by_cases hlt : k < m
    · have hb := Hno.out k hlt (by omega)
      go_wp2
      go_round
      case rel => exact ⟨k + 1, by omega, by go_num⟩
      case measure => simp [intOf]; omega
    · obtain rfl : k = m := by omega
      by_cases hend : k < s.size
      · have hb := Hyes.out hend
        go_wp2
        go_ret
        exact ⟨by rw [Hr.out]; rfl, rfl⟩
      · have e : k = s.size := by omega
        subst e
        go_wp2
        go_ret
        exact ⟨by rw [Hr.out, Hfull.out]; rfl, rfl⟩

set_option maxHeartbeats 400000 in
theorem exact_small (s : ByteArray) (w : World) (hs : s.size ≤ 1048576) :
    Calls Try.prog 3 #[.string s] w fun e w' => e = .returned (.bool true) ∧ ∃ n, w' = w.drewN n := by
  go_enter Try.func3, Try.ntmps3
  go_wp2_with (first | (go_at_call 5; refine (spec_ow _ _ hs).mono ?_; rintro e w' ⟨rfl, rfl⟩) | (go_at_call 6; refine (impl_ow _ _ hs).mono ?_; rintro e w' ⟨rfl, n, rfl⟩))
  go_ret
  exact ⟨rfl, _, rfl⟩

set_option maxHeartbeats 400000 in
theorem exact_big (s : ByteArray) (w : World) (hm : s.size ≤ 9223372036854775807) (hs : 1048576 < s.size) :
    Calls Try.prog 3 #[.string s] w fun e w' => e = .returned (.bool true) ∧ ∃ n, w' = w.drewN n := by
  go_enter Try.func3, Try.ntmps3
  go_wp2
  go_ret
  exact ⟨rfl, 0, rfl⟩

end Go.Proofs.Ytgmeobjcbgcofaa
