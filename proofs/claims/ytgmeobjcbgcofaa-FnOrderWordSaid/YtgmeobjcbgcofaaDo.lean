/- The order that is drawn: some string, not long. No conditions. -/
import Derived.Test.YtgmeobjcbgcofaaDl
namespace Go.Proofs.Ytgmeobjcbgcofaa
open Go.RowKit

theorem strs_a : ∀ x ∈ (#[Value.string ⟨#[114, 117, 110]⟩, .string ⟨#[102, 117, 101, 108]⟩, .string ⟨#[103, 111]⟩, .string ⟨#[115, 116, 101, 112]⟩, .string ⟨#[97, 103, 114, 101, 101]⟩, .string ⟨#[114, 117, 110]⟩] : Array Value).toList, StrLe 16 x := by
  simp only [List.mem_cons, List.not_mem_nil, or_false, forall_eq_or_imp, forall_eq]
  refine ⟨⟨_, rfl, by decide⟩, ⟨_, rfl, by decide⟩, ⟨_, rfl, by decide⟩, ⟨_, rfl, by decide⟩, ⟨_, rfl, by decide⟩, ⟨_, rfl, by decide⟩⟩
theorem strs_b : ∀ x ∈ (#[Value.string ⟨#[32, 49]⟩, .string ⟨#[32, 50, 32, 51]⟩, .string ⟨#[]⟩, .string ⟨#[32, 48]⟩, .string ⟨#[32, 53, 32, 49, 32, 50]⟩, .string ⟨#[32, 48, 49]⟩, .string ⟨#[32, 49, 32, 32, 50]⟩] : Array Value).toList, StrLe 16 x := by
  simp only [List.mem_cons, List.not_mem_nil, or_false, forall_eq_or_imp, forall_eq]
  refine ⟨⟨_, rfl, by decide⟩, ⟨_, rfl, by decide⟩, ⟨_, rfl, by decide⟩, ⟨_, rfl, by decide⟩, ⟨_, rfl, by decide⟩, ⟨_, rfl, by decide⟩, ⟨_, rfl, by decide⟩⟩
theorem strs_c : ∀ x ∈ (#[Value.string ⟨#[54]⟩, .string ⟨#[50]⟩, .string ⟨#[48]⟩, .string ⟨#[49, 55]⟩, .string ⟨#[]⟩, .string ⟨#[51, 32, 52]⟩] : Array Value).toList, StrLe 16 x := by
  simp only [List.mem_cons, List.not_mem_nil, or_false, forall_eq_or_imp, forall_eq]
  refine ⟨⟨_, rfl, by decide⟩, ⟨_, rfl, by decide⟩, ⟨_, rfl, by decide⟩, ⟨_, rfl, by decide⟩, ⟨_, rfl, by decide⟩, ⟨_, rfl, by decide⟩⟩
theorem strs_d : ∀ x ∈ (#[Value.string ⟨#[]⟩, .string ⟨#[119, 104, 97, 116]⟩, .string ⟨#[99, 104, 101, 99, 107, 32, 49]⟩, .string ⟨#[116, 101, 120, 116, 32]⟩, .string ⟨#[114, 101, 97, 100, 115]⟩, .string ⟨#[100, 111]⟩, .string ⟨#[103, 111]⟩] : Array Value).toList, StrLe 16 x := by
  simp only [List.mem_cons, List.not_mem_nil, or_false, forall_eq_or_imp, forall_eq]
  refine ⟨⟨_, rfl, by decide⟩, ⟨_, rfl, by decide⟩, ⟨_, rfl, by decide⟩, ⟨_, rfl, by decide⟩, ⟨_, rfl, by decide⟩, ⟨_, rfl, by decide⟩, ⟨_, rfl, by decide⟩⟩
theorem strs_e : ∀ x ∈ (#[Value.string ⟨#[99, 104, 101, 99, 107]⟩, .string ⟨#[116, 101, 120, 116]⟩, .string ⟨#[115, 105, 109, 112, 108, 101]⟩, .string ⟨#[108, 111, 119, 101, 114]⟩, .string ⟨#[98, 101, 115, 116]⟩, .string ⟨#[117, 110, 105, 116]⟩, .string ⟨#[109, 97, 99, 104]⟩, .string ⟨#[98, 121, 116, 101, 115]⟩, .string ⟨#[100, 117, 109, 112]⟩, .string ⟨#[115, 97, 118, 101, 100]⟩, .string ⟨#[108, 111, 119, 101, 114]⟩, .string ⟨#[98, 101, 115, 116]⟩] : Array Value).toList, StrLe 16 x := by
  simp only [List.mem_cons, List.not_mem_nil, or_false, forall_eq_or_imp, forall_eq]
  refine ⟨⟨_, rfl, by decide⟩, ⟨_, rfl, by decide⟩, ⟨_, rfl, by decide⟩, ⟨_, rfl, by decide⟩, ⟨_, rfl, by decide⟩, ⟨_, rfl, by decide⟩, ⟨_, rfl, by decide⟩, ⟨_, rfl, by decide⟩, ⟨_, rfl, by decide⟩, ⟨_, rfl, by decide⟩, ⟨_, rfl, by decide⟩, ⟨_, rfl, by decide⟩⟩

def OrderPost (r N : Nat) (w : World) (e : Ending) (w' : World) : Prop :=
  ∃ s : ByteArray, e = .returned (.string s) ∧ s.size ≤ 2100 ∧ Rd w' r (N + 70) ∧ Only [r] w w'

/-- 'of' over a list that has just been laid -/
theorem of_new (w : World) (r N : Nat) (cs : Array Value) (n : Nat) (hcs : cs.size = n) (hR : Rd w r N) (hN : N < 1099511627776) (hn : 0 < n) (hn2 : n ≤ 100) (hq : ∀ x ∈ cs.toList, StrLe 16 x) :
    Calls Try.prog 14 #[.pointer (some ⟨r, 0, none⟩), .slice (some ⟨w.heap.size, 0, none⟩) n n] (w.alloc (.cells cs 9)) fun e w' => ∃ s : ByteArray, e = .returned (.string s) ∧ s.size ≤ 16 ∧ Rd w' r (N + 1) ∧ Only [r] w w' := by
  subst hcs
  exact (of_any (StrLe 16) StrLe.str _ r N w.heap.size 0 _ _ (hR.alloc _) hN hn (by omega) (rowQ_new w cs _ _ hR.lt hq)).mono fun e w' ⟨_, he, ⟨s, hx, hs⟩, hR, hO⟩ =>
    ⟨s, by rw [he, hx], hs, hR, ((Only.refl _ _).alloc _).trans hO⟩

set_option maxHeartbeats 1000000 in
theorem l29Order_any (w : World) (r N : Nat) (hR : Rd w r N) (hN : N + 70 < 1099511627776) :
    Calls Try.prog 10 #[.pointer (some ⟨r, 0, none⟩)] w (OrderPost r N w) := by
  go_enter Try.func10, Try.ntmps10
  go_wp2_with (fail)
  refine (pick w r N _ hR (by omega) (by omega)).mono ?_
  rintro e w1 ⟨k, rfl, hk, _, hR1, hO1⟩
  have hk12 : k < 12 := by have := hk (by omega); omega
  have HO1 := Lib.hid hO1
  have HR1 := Lib.hid hR1
  clear hR1 hO1 hk hR
  by_cases hk01 : k = 0 ∨ k = 1
  · rcases hk01 with rfl | rfl
    all_goals
      go_wp2_with (fail)
      refine (of_new w1 r (N + 1) _ 6 rfl HR1.out (by omega) (by decide) (by decide) strs_a).mono ?_
      rintro e w2 ⟨s2, rfl, hs2, hR2, hO2⟩
      have HO2 := Lib.hid (HO1.out.trans hO2)
      have HR2 := Lib.hid hR2
      clear HO1 HR1 hR2 hO2
      go_wp2_with (fail)
      refine (of_new w2 r (N + 2) _ 7 rfl HR2.out (by omega) (by decide) (by decide) strs_b).mono ?_
      rintro e w3 ⟨s3, rfl, hs3, hR3, hO3⟩
      have HO3 := Lib.hid (HO2.out.trans hO3)
      have HR3 := Lib.hid hR3
      clear HO2 HR2 hR3 hO3
      go_wp2_with (fail)
      go_ret
      exact ⟨_, rfl, by rw [ByteArray.size_append]; omega, HR3.out.mono (by omega), HO3.out⟩
  · have n0 : ((k : Int) == 0) = false := by simp; omega
    have n1 : ((k : Int) == 1) = false := by simp; omega
    clear hk01
    by_cases h2 : k = 2
    · subst h2
      go_wp2_with (fail)
      refine (of_new w1 r (N + 1) _ 6 rfl HR1.out (by omega) (by decide) (by decide) strs_c).mono ?_
      rintro e w2 ⟨s2, rfl, hs2, hR2, hO2⟩
      have HO2 := Lib.hid (HO1.out.trans hO2)
      have HR2 := Lib.hid hR2
      clear HO1 HR1 hR2 hO2
      go_wp2_with (fail)
      go_ret
      exact ⟨_, rfl, by rw [ByteArray.size_append]; simp only [show (⟨#[104, 111, 109, 101, 115, 32]⟩ : ByteArray).size = 6 from rfl]; omega, HR2.out.mono (by omega), HO2.out⟩
    · have n2 : ((k : Int) == 2) = false := by simp; omega
      by_cases h3 : k = 3
      · subst h3
        go_wp2_with (fail)
        refine (l20Names_any w1 r (N + 1) HR1.out (by omega)).mono ?_
        rintro e w2 ⟨v, m, rfl, hm, hD⟩
        obtain ⟨g, cap, rfl, hg, hgl, hc⟩ := hD.form
        have HD := Lib.hid hD
        have Hc := Lib.hid hc
        clear hD hc
        go_wp2_with (fail)
        refine (passesText_any w2 g 0 m cap hm hgl Hc.out).mono ?_
        rintro e w3 ⟨s, ok, rfl, hs, hb⟩
        have HR3 := Lib.hid (HD.out.rd.below hb)
        have HO3 := Lib.hid (HO1.out.trans (HD.out.only.trans (Only.of_below hb [r])))
        clear HD Hc hb HO1 HR1
        go_wp2_with (fail)
        go_ret
        exact ⟨_, rfl, by rw [ByteArray.size_append]; simp only [show (⟨#[100, 111, 32]⟩ : ByteArray).size = 3 from rfl]; omega, HR3.out.mono (by omega), HO3.out⟩
      · have n3 : ((k : Int) == 3) = false := by simp; omega
        by_cases h4 : k = 4
        · subst h4
          go_wp2_with (fail)
          refine (of_new w1 r (N + 1) _ 7 rfl HR1.out (by omega) (by decide) (by decide) strs_d).mono ?_
          rintro e w2 ⟨s2, rfl, hs2, hR2, hO2⟩
          have HO2 := Lib.hid (HO1.out.trans hO2)
          have HR2 := Lib.hid hR2
          clear HO1 HR1 hR2 hO2
          go_wp2_with (fail)
          go_ret
          exact ⟨_, rfl, by omega, HR2.out.mono (by omega), HO2.out⟩
        · have n4 : ((k : Int) == 4) = false := by simp; omega
          go_wp2_with (fail)
          refine (of_new w1 r (N + 1) _ 12 rfl HR1.out (by omega) (by decide) (by decide) strs_e).mono ?_
          rintro e w2 ⟨s2, rfl, hs2, hR2, hO2⟩
          have HO2 := Lib.hid (HO1.out.trans hO2)
          have HR2 := Lib.hid hR2
          clear HO1 HR1 hR2 hO2
          go_wp2_with (fail)
          go_ret
          exact ⟨_, rfl, by omega, HR2.out.mono (by omega), HO2.out⟩

def DrawOrderPost (w : World) (e : Ending) (w' : World) : Prop :=
  ∃ s : ByteArray, e = .returned (.string s) ∧ s.size ≤ 2100 ∧ Below w.heap.size w w'

set_option maxHeartbeats 400000 in
theorem drawOrderWord_any (w : World) (v : Value) (xs : List Int) (hm : ∀ a n cap, v = .slice a n cap → cap ≤ 9223372036854775807) (hb : Bytes w w.heap.size v xs) :
    Calls Try.prog 7 #[v] w (DrawOrderPost w) := by
  have HB := Lib.hid hb
  have HM := Lib.hid hm
  clear hb hm
  go_enter Try.func7, Try.ntmps7
  go_wp2_with (fail)
  refine (openRd w v xs HM.out HB.out).mono ?_
  rintro e w1 ⟨r, rfl, hR, hB1, hr⟩
  have HB1 := Lib.hid hB1
  have HR := Lib.hid hR
  clear hB1 hR
  go_wp2_with (fail)
  refine (l29Order_any w1 r 0 HR.out (by omega)).mono ?_
  rintro e w2 ⟨s, rfl, hs, _, hO⟩
  have HO := Lib.hid hO
  clear hO
  go_wp2_with (fail)
  go_ret
  exact ⟨_, rfl, hs, HO.out.below HB1.out HB1.out.size (by simpa using hr)⟩

end Go.Proofs.Ytgmeobjcbgcofaa
