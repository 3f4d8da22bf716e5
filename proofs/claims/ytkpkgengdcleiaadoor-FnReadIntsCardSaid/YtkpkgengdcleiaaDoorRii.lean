/- ReadInts of the program. Conditions: the text's size; the variable MaxLen of the library holds a number. -/
import Derived.Test.YtkpkgengdcleiaaDoorRi
set_option maxRecDepth 100000
namespace Go.Proofs.YtkpkgengdcleiaaDoor
open Go.RowKit

theorem split_cell (w : World) (P : List ByteArray) (k : Nat) (hk : k < P.length) : (w.alloc (.cells (P.map Value.string).toArray 9)).cell? ⟨w.heap.size, k, none⟩ = some (.string P[k]) := by
  rw [World.cell?_alloc_at _ _ _ _ rfl]
  simp [hk]

set_option maxHeartbeats 1600000 in
theorem implReadInts_any (w : World) (s : ByteArray) (m : Int) (hm : s.size ≤ 1048576) (hml : w.cell? ⟨0, 0, none⟩ = some (.int .i64 m)) : Calls Tryd.prog 11 #[.string s] w (RiPost s w) := by
  obtain ⟨i0, hi, hz0, hz1, hz2⟩ := info_parts info_int
  by_cases h0 : s.size = 0
  · have he : s.toList = [] := by
      rw [Lib.toList_data]
      exact List.eq_nil_of_length_eq_zero (by rw [len_list]; exact h0)
    have he2 : s.toList.isEmpty = true := by rw [he]; rfl
    have hr : riOf s.data.toList = (true, []) := by
      rw [Lib.toList_data] at he
      rw [he]; rfl
    unfold RiPost
    rw [hr]
    have HE := Lib.hid he
    clear he hr
    go_enter Tryd.func11, Tryd.ntmps11
    go_wp2
    go_ret2
    exact ⟨_, rfl, ⟨rfl, .inl ⟨rfl, rfl⟩⟩, Below.refl _ _⟩
  have hne : s.toList.isEmpty = false := by
    rw [Lib.toList_data]
    cases hd : s.data.toList with
    | nil => exact absurd hd (ne_of_size s (by omega))
    | cons b l => rfl
  have hl0 := ne_of_size s (by omega)
  unfold RiPost
  obtain ⟨R, hR⟩ : ∃ R, R = riOf s.data.toList := ⟨_, rfl⟩
  rw [← hR]
  have HR := Lib.hid hR
  have HL0 := Lib.hid hl0
  have HSp := Lib.hid (Tryd.strings_Split s ⟨#[32]⟩ m w (by omega) hml (by decide))
  obtain ⟨P, hP⟩ : ∃ P, P = Lib.splitB ⟨#[32]⟩ 0 (Lib.countB s ⟨#[32]⟩) s := ⟨_, rfl⟩
  have hPd : datas P = pcs s.data.toList := by
    rw [hP]
    exact splitB_pcs _ s (count32 s).symm
  have hPl : Lib.countB s ⟨#[32]⟩ + 1 = P.length := by
    have h1 : P.length = (pcs s.data.toList).length := by rw [← hPd]; simp [datas]
    rw [h1, pcs_length, ← count32]
  rw [← hP, hPl] at HSp
  have HP := Lib.hid hPd
  obtain ⟨n, hn⟩ : ∃ n, n = P.length := ⟨_, rfl⟩
  rw [← hn] at HSp
  have HN := Lib.hid hn
  have hpl : Hid (n = (pcs s.data.toList).length) := by
    show n = _
    rw [← HP.out, HN.out]; simp [datas]
  have hnb : n ≤ 1048578 := by
    have h1 := hpl.out
    rw [pcs_length] at h1
    have h2 := List.count_le_length (a := (32 : UInt8)) (l := s.data.toList)
    rw [len_list] at h2
    omega
  have HB1 := Lib.hid ((Below.refl w.heap.size w).alloc (Nat.le_refl _) (.cells (P.map Value.string).toArray 9))
  have HC := Lib.hid (split_cell w P)
  have hgl : w.heap.size < (w.alloc (.cells (P.map Value.string).toArray 9)).heap.size := by simp
  clear hR hl0 hP hPd hPl hn hml
  by_cases hmany : 100 < n
  · have e : R = (false, []) := by rw [HR.out]; exact ri_many HL0.out (by rw [← hpl.out]; exact hmany)
    subst e
    go_enter Tryd.func11, Tryd.ntmps11
    go_wp2_with (fail)
    refine HSp.out.mono ?_
    rintro e w1 ⟨rfl, rfl⟩
    go_wp2_with (fail)
    go_ret2
    exact ⟨_, rfl, ⟨rfl, .inl ⟨rfl, rfl⟩⟩, HB1.out⟩
  go_enter Tryd.func11, Tryd.ntmps11
  go_wp2_with (fail)
  refine HSp.out.mono ?_
  rintro e w1 ⟨rfl, hw1⟩
  rw [← hw1] at HB1 HC hgl
  clear hw1
  go_wp2_with (fail)
  go_loopw [5, 18] (fun o i wr => ∃ k : Nat, k ≤ n ∧ i = .int .i64 k ∧ wr.ownsRow w1.heap.size 3 1 o k (ints (((datas P).take k).map numI)) ∧ Hid (∀ p ∈ (datas P).take k, 0 ≤ numI p) ∧ Below w1.heap.size w1 wr) (fun _ i _ => n - (intOf i).toNat)
  case atStart => exact ⟨0, Nat.zero_le _, rfl, ⟨rfl, .inl ⟨rfl, rfl⟩⟩, by simp [Hid], Below.refl _ _⟩
  case round =>
    obtain ⟨k, hk, rfl, hown, hgood, hB⟩ := hrel
    obtain ⟨wo, rfl⟩ : ∃ wo : World, wo = wr := ⟨_, rfl⟩
    have HB := Lib.hid hB
    have HOW := Lib.hid hown
    have hsz := hB.size
    have hsz0 := HB1.out.size
    by_cases hlt : k < n
    · have hkl : k < P.length := by rw [← HN.out]; exact hlt
      have hcell := HC.out k hkl
      rw [← hB.cell (p := ⟨w.heap.size, k, none⟩) hgl] at hcell
      have hmem : P[k].data.toList ∈ pcs s.data.toList := by
        rw [← HP.out]; exact List.mem_map_of_mem (List.getElem_mem hkl)
      have hrange := numI_range P[k].data.toList
      have htk := datas_take P k hkl
      have hpm : P[k].size ≤ 9223372036854775807 := by
        have h1 := pcs_small _ _ hmem
        rw [len_list, len_list] at h1
        omega
      obtain ⟨p, hp⟩ : ∃ p, p = P[k] := ⟨_, rfl⟩
      rw [← hp] at hcell hmem hrange htk hpm
      have HM := Lib.hid hmem
      have HT := Lib.hid htk
      clear hp hB hown hmem htk
      have HNum := Lib.hid (decimal_any wo p hpm)
      unfold NumPostB at HNum
      obtain ⟨z, hz⟩ : ∃ z, z = numI p.data.toList := ⟨_, rfl⟩
      rw [← hz] at hrange HNum
      have HZ := Lib.hid hz
      clear hz
      by_cases hneg : z < 0
      · have e : R = (false, []) := by rw [HR.out]; exact ri_bad HL0.out _ HM.out (by rw [← HZ.out]; exact hneg)
        subst e
        have hz1' : z = -1 := by omega
        subst hz1'
        go_wp2_with (fail)
        refine HNum.out.mono ?_
        rintro e w2 ⟨rfl, hb2⟩
        have HB2 := Lib.hid (HB1.out.trans ((HB.out.trans (hb2.mono hsz)).mono hsz0))
        clear hb2
        go_wp2_with (fail)
        go_ret2
        exact ⟨_, rfl, ⟨rfl, .inl ⟨rfl, rfl⟩⟩, HB2.out⟩
      · go_wp2_with (fail)
        refine HNum.out.mono ?_
        rintro e w2 ⟨rfl, hb2⟩
        have HB2 := Lib.hid (HB.out.trans (hb2.mono hsz))
        have HO2 := Lib.hid (ownsRow_below HOW.out hb2)
        have hsz2 := HB2.out.size
        clear hb2
        go_wp2_with (first | (at_builtin; refine wpList_append_own _ rfl _ _ 22 (by rfl) w1.heap.size 3 i0 (.int .i64 0) 1 8 Tryd.underlying22 hi hz0 hz1 hz2 rfl (by decide) _ k _ (by rfl) (HO2.out.alloc _) ⟨w2.heap.size, 0, none⟩ 1 1 [.int .i64 z] (by rfl) rfl (World.news_of_block (cs := #[.int .i64 z]) (t := 3) (fr := (0, 0)) (heap_alloc_new w2 _)) (by simp [Value.oneCell']) (by unfold maxLen; omega) (by omega) (by simp; omega) ?_; intro v3 w3 hown3 hg3 _; have HO3 := Lib.hid hown3; have HG3 := Lib.hid hg3; clear hown3 hg3))
        go_roundw
        case rel =>
          refine ⟨k + 1, by omega, by go_num, ?_, ?_, (HB2.out.alloc hsz2 _).grown HG3.out (by simp; omega) (fun q hq => ownBlock_of HO2.out q hq)⟩
          · rw [HT.out, List.map_append, List.map_singleton, sum_ints, ← HZ.out]
            exact HO3.out
          · show ∀ p ∈ _, _
            rw [HT.out]
            intro q hq
            rcases List.mem_append.1 hq with h | h
            · exact hgood.out q h
            · obtain rfl : q = p.data.toList := by simpa using h
              rw [← HZ.out]; omega
        case measure => simp [intOf]; omega
    · obtain rfl : k = n := by omega
      have e : R = (true, (pcs s.data.toList).map numI) := by
        rw [HR.out]
        refine ri_good HL0.out (by rw [← hpl.out]; omega) ?_
        have := hgood.out
        rw [List.take_of_length_le (by simp [datas]; rw [HN.out]; exact Nat.le_refl _), HP.out] at this
        exact this
      subst e
      have hown' := HOW.out
      rw [List.take_of_length_le (by simp [datas]; rw [HN.out]; exact Nat.le_refl _), HP.out] at hown'
      have HOW' := Lib.hid hown'
      clear hown' hB hown
      go_wp2_with (fail)
      go_ret2
      refine ⟨_, rfl, ?_, HB1.out.trans (HB.out.mono hsz0)⟩
      rw [← hpl.out]
      exact ownsRow_mono HOW'.out hsz0

end Go.Proofs.YtkpkgengdcleiaaDoor
