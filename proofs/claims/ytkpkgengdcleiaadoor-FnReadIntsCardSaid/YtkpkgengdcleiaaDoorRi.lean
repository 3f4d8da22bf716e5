/- ReadInts of the reference and of the program: both give the numbers of the text. Condition: the text's size. -/
import Derived.Test.YtkpkgengdcleiaaDoorCut
import Derived.Test.YtkpkgengdcleiaaDoorDcm
set_option maxRecDepth 100000
namespace Go.Proofs.YtkpkgengdcleiaaDoor
open Go.RowKit

/-- the numbers of a text -/
def riOf (l : List UInt8) : Bool × List Int :=
  if l = [] then (true, []) else if 100 < (pcs l).length then (false, []) else if (pcs l).all (fun p => decide (0 ≤ numI p)) then (true, (pcs l).map numI) else (false, [])

theorem ri_many {l : List UInt8} (h0 : l ≠ []) (h : 100 < (pcs l).length) : riOf l = (false, []) := by unfold riOf; rw [if_neg h0, if_pos h]
theorem ri_bad {l : List UInt8} (h0 : l ≠ []) (p : List UInt8) (hp : p ∈ pcs l) (h : numI p < 0) : riOf l = (false, []) := by
  unfold riOf
  rw [if_neg h0]
  split
  · rfl
  · rw [if_neg]
    intro h2
    have := List.all_eq_true.1 h2 p hp
    simp at this; omega
theorem ri_good {l : List UInt8} (h0 : l ≠ []) (h : ¬ 100 < (pcs l).length) (h2 : ∀ p ∈ pcs l, 0 ≤ numI p) : riOf l = (true, (pcs l).map numI) := by
  unfold riOf
  rw [if_neg h0, if_neg h, if_pos]
  exact List.all_eq_true.2 fun p hp => by simpa using h2 p hp

/-- the numbers in a slice of the call's own, and whether the text has them -/
def RiPost (s : ByteArray) (w : World) (e : Ending) (w' : World) : Prop :=
  ∃ v, e = .returned (.tuple #[v, .bool (riOf s.data.toList).1]) ∧ w'.ownsRow w.heap.size 3 1 v (riOf s.data.toList).2.length (ints (riOf s.data.toList).2) ∧ Below w.heap.size w w'

theorem piece_cell {w : World} {B g cap : Nat} {P : List ByteArray} (h : w.ownsRow B 9 1 (.slice (some ⟨g, 0, none⟩) P.length cap) P.length (P.map Value.string)) (k : Nat) (hk : k < P.length) : w.cell? ⟨g, k, none⟩ = some (.string P[k]) := by
  rw [h.cellAt k (by omega)]
  simp [hk]
theorem ne_of_size (s : ByteArray) (h : 0 < s.size) : s.data.toList ≠ [] := by
  intro e
  have := len_list s
  rw [e] at this
  simp at this
  omega
theorem sum_ints (xs : List Int) (z : Int) : ints (xs ++ [z]) = ints xs ++ [.int .i64 z] := by simp [ints]
theorem datas_take (P : List ByteArray) (k : Nat) (h : k < P.length) : (datas P).take (k + 1) = (datas P).take k ++ [P[k].data.toList] := by
  unfold datas
  rw [List.take_succ_eq_append_getElem (by simpa using h)]
  simp

set_option maxHeartbeats 1600000 in
theorem specReadInts_any (w : World) (s : ByteArray) (hm : s.size ≤ 1048576) : Calls Tryd.prog 10 #[.string s] w (RiPost s w) := by
  obtain ⟨i0, hi, hz0, hz1, hz2⟩ := info_parts info_int
  have HS := Lib.hid (ownsRow_empty w 3 1)
  have HB0 := Lib.hid ((Below.refl w.heap.size w).alloc (Nat.le_refl _) (.cells #[] 3))
  by_cases h0 : s.size = 0
  · have he : s.toList = [] := by
      rw [Lib.toList_data]
      exact List.eq_nil_of_length_eq_zero (by rw [len_list]; exact h0)
    have he2 : s.toList.isEmpty = true := by rw [he]; rfl
    have hr : riOf s.data.toList = (true, []) := by
      rw [Lib.toList_data] at he
      rw [he]; rfl
    unfold RiPost
    rw [hr]
    have HE := Lib.hid he
    clear he hr
    go_enter Tryd.func10, Tryd.ntmps10
    go_wp2
    go_ret2
    exact ⟨_, rfl, HS.out, HB0.out⟩
  have hne : s.toList.isEmpty = false := by
    rw [Lib.toList_data]
    cases hd : s.data.toList with
    | nil => exact absurd hd (ne_of_size s (by omega))
    | cons b l => rfl
  have hl0 := ne_of_size s (by omega)
  unfold RiPost
  obtain ⟨R, hR⟩ : ∃ R, R = riOf s.data.toList := ⟨_, rfl⟩
  rw [← hR]
  have HR := Lib.hid hR
  have HL0 := Lib.hid hl0
  clear hR hl0
  go_enter Tryd.func10, Tryd.ntmps10
  go_wp2_with (fail)
  refine (l22Cut_any _ s hm).mono ?_
  rintro e w1 ⟨v, P, rfl, hP, hown, hvn, hb⟩
  obtain ⟨g, cap, rfl⟩ := ownsRow_form hown hvn
  have HO := Lib.hid hown
  have HP := Lib.hid hP
  have HB1 := Lib.hid (HB0.out.trans (hb.mono (by simp)))
  have HS1 := Lib.hid (ownsRow_below HS.out hb)
  have hgl := ownsRow_lt hown
  obtain ⟨n, hn⟩ : ∃ n, n = P.length := ⟨_, rfl⟩
  rw [← hn] at hgl ⊢
  have HN := Lib.hid hn
  clear hown hP hb hvn hn
  have hgl1 := hgl.1
  have hgl2 := hgl.2.1
  have hpl : Hid (n = (pcs s.data.toList).length) := by
    show n = _
    rw [← HP.out, HN.out]; simp [datas]
  have hnb : n ≤ 1048578 := by
    have h1 := hpl.out
    rw [pcs_length] at h1
    have h2 := List.count_le_length (a := (32 : UInt8)) (l := s.data.toList)
    rw [len_list] at h2
    omega
  clear hgl HS HB0
  go_wp2_with (fail)
  go_loopw [4, 6] (fun o i wr => ∃ k og oc : Nat, k ≤ n ∧ k ≤ 100 ∧ i = .int .i64 k ∧ o = .slice (some ⟨og, 0, none⟩) k oc ∧ og ≠ g ∧ wr.ownsRow w.heap.size 3 1 (.slice (some ⟨og, 0, none⟩) k oc) k (ints (((datas P).take k).map numI)) ∧ Hid (∀ p ∈ (datas P).take k, 0 ≤ numI p) ∧ Below w.heap.size w wr ∧ wr.ownsRow (w.heap.size + 1) 9 1 (.slice (some ⟨g, 0, none⟩) P.length cap) P.length (P.map Value.string)) (fun _ i _ => n - (intOf i).toNat)
  case atStart => exact ⟨0, w.heap.size, 0, Nat.zero_le _, by omega, rfl, rfl, by simp at hgl2; omega, by simpa [ints] using HS1.out, by simp [Hid], HB1.out, by simpa using HO.out⟩
  case round =>
    obtain ⟨k, og, oc, hk, hk100, rfl, rfl, hog, hown, hgood, hB, hpo⟩ := hrel
    obtain ⟨wo, rfl⟩ : ∃ wo : World, wo = wr := ⟨_, rfl⟩
    have HB := Lib.hid hB
    have HOW := Lib.hid hown
    have HPO := Lib.hid hpo
    have hsz := hB.size
    by_cases hlt : k < n
    · have hkl : k < P.length := by rw [← HN.out]; exact hlt
      have hcell := piece_cell hpo k hkl
      have hgw := (ownsRow_lt hpo).1
      have hmem : P[k].data.toList ∈ pcs s.data.toList := by
        rw [← HP.out]; exact List.mem_map_of_mem (List.getElem_mem hkl)
      have hrange := numI_range P[k].data.toList
      have htk := datas_take P k hkl
      have hpm : P[k].size ≤ 9223372036854775807 := by
        have h1 := pcs_small _ _ hmem
        rw [len_list, len_list] at h1
        omega
      obtain ⟨p, hp⟩ : ∃ p, p = P[k] := ⟨_, rfl⟩
      rw [← hp] at hcell hmem hrange htk hpm
      have HM := Lib.hid hmem
      have HT := Lib.hid htk
      clear hp hB hown hpo hmem htk
      have HNum := Lib.hid (fun w => l22Num_any w p hpm)
      unfold NumPost at HNum
      obtain ⟨z, hz⟩ : ∃ z, z = numI p.data.toList := ⟨_, rfl⟩
      rw [← hz] at hrange HNum
      have HZ := Lib.hid hz
      clear hz
      by_cases hneg : z < 0
      · have e : R = (false, []) := by rw [HR.out]; exact ri_bad HL0.out _ HM.out (by rw [← HZ.out]; exact hneg)
        subst e
        have hz1' : z = -1 := by omega
        subst hz1'
        go_wp2_with (go_at_call 22; refine (HNum.out _).mono ?_; rintro e w' ⟨rfl, rfl⟩)
        go_ret2
        exact ⟨_, rfl, ownsRow_mono (ownsRow_empty wo 3 1) hsz, HB.out.alloc hsz _⟩
      · by_cases h100 : 100 ≤ k
        · have e : R = (false, []) := by rw [HR.out]; exact ri_many HL0.out (by rw [← hpl.out]; omega)
          subst e
          go_wp2_with (go_at_call 22; refine (HNum.out _).mono ?_; rintro e w' ⟨rfl, rfl⟩)
          go_ret2
          exact ⟨_, rfl, ownsRow_mono (ownsRow_empty wo 3 1) hsz, HB.out.alloc hsz _⟩
        · go_wp2_with (first | (go_at_call 22; refine (HNum.out _).mono ?_; rintro e w' ⟨rfl, rfl⟩) | (at_builtin; refine wpList_append_lies _ rfl _ _ 22 (by rfl) w.heap.size 3 i0 (.int .i64 0) 1 8 Tryd.underlying22 hi hz0 hz1 hz2 rfl (by decide) _ k _ (by rfl) (HOW.out.alloc _) ⟨wo.heap.size, 0, none⟩ 1 1 [.int .i64 z] (by rfl) rfl (World.news_of_block (cs := #[.int .i64 z]) (t := 3) (fr := (0, 0)) (heap_alloc_new wo _)) (by simp [Value.oneCell']) (by omega) (by unfold maxLen; omega) (by omega) (by simp; omega) (wo.heap.size + 1) (by simp) ?_; intro gg gc w2 hown2 hg2 hat hlt2; have HO2 := Lib.hid hown2; have HG2 := Lib.hid hg2; have HAT := Lib.hid hat; clear hown2 hg2 hat))
          have hgg : gg ≠ g := by
            rcases HAT.out with h | h
            · simp [Value.ownBlock] at h; omega
            · omega
          go_roundw
          case rel =>
            refine ⟨k + 1, gg, gc, by omega, by omega, by go_num, rfl, hgg, ?_, ?_, (HB.out.alloc hsz _).grown HG2.out (by simp; omega) (fun q hq => ownBlock_of HOW.out q hq), ownsRow_other (HPO.out.alloc _) HG2.out (by simp [Value.ownBlock]; exact hog)⟩
            · rw [HT.out, List.map_append, List.map_singleton, sum_ints, ← HZ.out]
              exact HO2.out
            · show ∀ p ∈ _, _
              rw [HT.out]
              intro q hq
              rcases List.mem_append.1 hq with h | h
              · exact hgood.out q h
              · obtain rfl : q = p.data.toList := by simpa using h
                rw [← HZ.out]; omega
          case measure => simp [intOf]; omega
    · obtain rfl : k = n := by omega
      have e : R = (true, (pcs s.data.toList).map numI) := by
        rw [HR.out]
        refine ri_good HL0.out (by rw [← hpl.out]; omega) ?_
        have := hgood.out
        rw [List.take_of_length_le (by simp [datas]; rw [HN.out]; exact Nat.le_refl _), HP.out] at this
        exact this
      subst e
      have hown' := HOW.out
      rw [List.take_of_length_le (by simp [datas]; rw [HN.out]; exact Nat.le_refl _), HP.out] at hown'
      have HOW' := Lib.hid hown'
      clear hown' hB hown hpo
      go_wp2
      go_ret2
      refine ⟨_, rfl, ?_, HB.out⟩
      rw [← hpl.out]
      exact HOW'.out

end Go.Proofs.YtkpkgengdcleiaaDoor
