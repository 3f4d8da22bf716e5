/- FnOrderWord answers true for every code. No conditions. -/
import Derived.Test.YtgmeobjcbgcofaaLw
import Derived.Test.YtgmeobjcbgcofaaOw
import Derived.Test.YtgmeobjcbgcofaaDo
namespace Go.Proofs.Ytgmeobjcbgcofaa.OwLaw
open Go.ChangeShapes Go.WideShapes Go.ChangeAt Go.RowKit

set_option maxHeartbeats 400000 in
theorem count_none (t : ByteArray) (w : World) (hm : t.size ≤ 1048576) (h : ∀ k (hk : k < t.size), ((t[k].toNat : Int) == 32) = false) :
    Calls Try.prog 8 #[.string t, .int .u8 32] w fun e w' => e = .returned (.int .i64 0) ∧ w = w' := by
  have H := Lib.hid h
  clear h
  go_enter Try.func8, Try.ntmps8
  go_wp2
  go_loop [5, 9] (fun n i => n = .int .i64 0 ∧ ∃ k : Nat, k ≤ t.size ∧ i = .int .i64 k) (fun _ i => t.size - (intOf i).toNat)
  case atStart => exact ⟨rfl, 0, Nat.zero_le _, rfl⟩
  case round =>
    obtain ⟨rfl, k, hk, rfl⟩ := hrel
    by_cases hlt : k < t.size
    · have hb := H.out k hlt
      go_wp2
      go_round
      case rel => exact ⟨rfl, k + 1, by omega, by go_num⟩
      case measure => simp [intOf]; omega
    · go_wp2
      go_ret
      exact ⟨rfl, rfl⟩

/-- what is cut ahead of the first space -/
theorem cut_facts (s : ByteArray) : ∃ t : ByteArray, s.extract 0 (owLen s.data.toList) = t ∧ t.size ≤ s.size ∧ s.extract 0 t.size = t ∧ (∀ k (hk : k < t.size), ((t[k].toNat : Int) == 32) = false) ∧ (∀ h : t.size < s.size, ((s[t.size].toNat : Int) == 32) = true) := by
  have hle := owLen_le s.data.toList
  rw [show s.data.toList.length = s.size from by simp] at hle
  have hsz : (s.extract 0 (owLen s.data.toList)).size = owLen s.data.toList := by simp; omega
  refine ⟨_, rfl, by omega, by rw [hsz], ?_, ?_⟩
  · intro k hk
    have hk2 : k < owLen s.data.toList := by omega
    have := ow_no' s k hk2 (by omega)
    have e : (s.extract 0 (owLen s.data.toList))[k] = s[k] := by simp [ByteArray.getElem_extract]
    rw [e]; exact this
  · intro h
    have h2 : owLen s.data.toList < s.size := by omega
    have := ow_yes' s h2
    simp only [hsz]; exact this

set_option maxHeartbeats 1000000 in
theorem law_small (v : Value) (n : Nat) (w : World) (xs : List Int) (hv : (∃ a cap, v = .slice a n cap)) (hn : n ≤ 1048576) (hm : ∀ a n cap, v = .slice a n cap → cap ≤ 9223372036854775807) (hb : Bytes w w.heap.size v xs) :
    Calls Try.prog 4 #[v] w fun e w' => e = .returned (.bool true) ∧ Below w.heap.size w w' := by
  have HC := Lib.hid (drawOrderWord_any w v xs hm hb)
  clear hm hb
  obtain ⟨a, cap, rfl⟩ := hv
  go_enter Try.func4, Try.ntmps4
  go_wp2_with (fail)
  refine HC.out.mono ?_
  rintro e w1 ⟨s, rfl, hs, hB⟩
  have HB := Lib.hid hB
  clear hB HC
  obtain ⟨t, ht, h1, h2, h3, h4⟩ := cut_facts s
  have HI := Lib.hid (impl_ow s w1 (by omega))
  have HS := Lib.hid (fun w => spec_ow s w (by omega))
  rw [ht] at HI
  have HS' : Hid (∀ w, Calls Try.prog 5 #[.string s] w fun e w' => e = .returned (.string t) ∧ w' = w) := by
    show ∀ w, _; intro w; have := spec_ow s w (by omega); rw [ht] at this; exact this
  have H3 := Lib.hid h3
  clear ht HS h3
  by_cases hlt : t.size < s.size
  · have hc := h4 hlt
    clear h4
    go_wp2_with (fail)
    refine HI.out.mono ?_
    rintro e w2 ⟨rfl, m, rfl⟩
    go_wp2_with (first | (go_at_call 5; refine (HS'.out _).mono ?_; rintro e w' ⟨rfl, rfl⟩) | (go_at_call 8; refine (count_none _ _ (by omega) H3.out).mono ?_; rintro e w' ⟨rfl, rfl⟩))
    go_ret
    exact ⟨rfl, HB.out.os, HB.out.tape, HB.out.output, HB.out.size, HB.out.block⟩
  · have e : t.size = s.size := by omega
    clear h4
    have hb : ((t.size : Int) == (s.size : Int)) = true := by rw [e]; simp
    have hb' : (t.size == s.size) = true := by rw [e]; simp
    clear e
    go_wp2_with (fail)
    refine HI.out.mono ?_
    rintro e w2 ⟨rfl, m, rfl⟩
    go_wp2_with (first | (go_at_call 5; refine (HS'.out _).mono ?_; rintro e w' ⟨rfl, rfl⟩) | (go_at_call 8; refine (count_none _ _ (by omega) H3.out).mono ?_; rintro e w' ⟨rfl, rfl⟩))
    go_ret
    exact ⟨rfl, HB.out.os, HB.out.tape, HB.out.output, HB.out.size, HB.out.block⟩

set_option maxHeartbeats 400000 in
theorem law_big (a : Option Addr) (n cap : Nat) (w : World) (hn : 1048576 < n) (hm : n ≤ 9223372036854775807) :
    Calls Try.prog 4 #[.slice a n cap] w fun e w' => e = .returned (.bool true) ∧ Below w.heap.size w w' := by
  go_enter Try.func4, Try.ntmps4
  go_wp2
  go_ret
  exact ⟨rfl, Below.refl _ _⟩

end Go.Proofs.Ytgmeobjcbgcofaa.OwLaw
