/- The text that is drawn for ReadInts. No conditions. -/
import Derived.Test.YtkpkgengdcleiaaDoorRiDr
set_option maxRecDepth 100000
namespace Go.Proofs.YtkpkgengdcleiaaDoor
open Go.RowKit

/-- num over a list that has just been laid -/
theorem num_new (w : World) (r N b : Nat) (lo hi : Int) (cs : Array Value) (n : Nat) (hb : b = w.heap.size) (hcs : cs.size = n) (hR : Rd w r N) (hN : N < 1099511627776) (hn : 0 < n) (hn2 : n ≤ 100) (hq : ∀ x ∈ cs.toList, IntIn lo hi x) :
    Calls Tryd.prog 27 #[.pointer (some ⟨r, 0, none⟩), .slice (some ⟨b, 0, none⟩) n n] (w.alloc (.cells cs 3)) fun e w' => ∃ z : Int, e = .returned (.int .i64 z) ∧ lo ≤ z ∧ z ≤ hi ∧ Rd w' r (N + 1) ∧ Only [r] w w' := by
  subst hb
  exact (num_any (IntIn lo hi) IntIn.int _ r N w.heap.size 0 _ _ (hR.alloc _) hN hn (by omega) (rowQ_new w cs _ _ hR.lt n (by omega) hq)).mono fun e w' ⟨_, he, ⟨z, hx, h1, h2⟩, hR, hO⟩ =>
    ⟨z, by rw [he, hx], h1, h2, hR, ((Only.refl _ _).alloc _).trans hO⟩

theorem strsA : ∀ x ∈ (#[Value.string ⟨#[49]⟩, .string ⟨#[48]⟩, .string ⟨#[50, 53]⟩, .string ⟨#[57, 57, 57, 57]⟩, .string ⟨#[49, 48, 48, 48, 48]⟩, .string ⟨#[48, 49]⟩, .string ⟨#[45, 49]⟩, .string ⟨#[120]⟩] : Array Value).toList, StrLe 16 x := by
  simp only [List.mem_cons, List.not_mem_nil, or_false, forall_eq_or_imp, forall_eq]
  refine ⟨⟨_, rfl, by decide⟩, ⟨_, rfl, by decide⟩, ⟨_, rfl, by decide⟩, ⟨_, rfl, by decide⟩, ⟨_, rfl, by decide⟩, ⟨_, rfl, by decide⟩, ⟨_, rfl, by decide⟩, ⟨_, rfl, by decide⟩⟩
theorem strsB : ∀ x ∈ (#[Value.string ⟨#[32]⟩, .string ⟨#[32]⟩, .string ⟨#[]⟩, .string ⟨#[32, 32]⟩] : Array Value).toList, StrLe 16 x := by
  simp only [List.mem_cons, List.not_mem_nil, or_false, forall_eq_or_imp, forall_eq]
  refine ⟨⟨_, rfl, by decide⟩, ⟨_, rfl, by decide⟩, ⟨_, rfl, by decide⟩, ⟨_, rfl, by decide⟩⟩
theorem nums448 : ∀ x ∈ (#[Value.int .i64 4, .int .i64 4, .int .i64 8] : Array Value).toList, IntIn 1 8 x := by
  simp only [List.mem_cons, List.not_mem_nil, or_false, forall_eq_or_imp, forall_eq]
  refine ⟨⟨_, rfl, ?_⟩, ⟨_, rfl, ?_⟩, ⟨_, rfl, ?_⟩⟩ <;> omega
theorem nums124 : ∀ x ∈ (#[Value.int .i64 1, .int .i64 2, .int .i64 4] : Array Value).toList, IntIn 1 4 x := by
  simp only [List.mem_cons, List.not_mem_nil, or_false, forall_eq_or_imp, forall_eq]
  refine ⟨⟨_, rfl, ?_⟩, ⟨_, rfl, ?_⟩, ⟨_, rfl, ?_⟩⟩ <;> omega

def DrawTextPost (w : World) (e : Ending) (w' : World) : Prop :=
  ∃ s : ByteArray, e = .returned (.string s) ∧ s.size ≤ 200 ∧ Below w.heap.size w w'

set_option maxHeartbeats 2000000 in
theorem drawReadInts_any (w : World) (v : Value) (xs : List Int) (hm : ∀ a n cap, v = .slice a n cap → cap ≤ 9223372036854775807) (hb : Bytes w w.heap.size v xs) :
    Calls Tryd.prog 15 #[v] w (DrawTextPost w) := by
  have HB := Lib.hid hb
  have HM := Lib.hid hm
  clear hb hm
  go_enter Tryd.func15, Tryd.ntmps15
  go_wp2_with (fail)
  refine (openRd w v xs HM.out HB.out).mono ?_
  rintro e w1 ⟨r, rfl, hR, hB1, hr⟩
  have HB1 := Lib.hid hB1
  have hrl := hR.lt
  have HR := Lib.hid hR
  clear hB1 hR
  go_wp2_with (fail)
  refine (pick _ r 0 _ HR.out (by omega) (by omega)).mono ?_
  rintro e w2 ⟨k, rfl, hk, _, hR2, hO2⟩
  have hk6 : k < 6 := by have := hk (by omega); omega
  have HR2 := Lib.hid hR2
  have HO2 := Lib.hid hO2
  clear hk hR2 hO2 HR
  go_wp2_with (fail)
  go_loopw [4, 5] (fun o i wr => ∃ (s : ByteArray) (j : Nat), i = .int .i64 j ∧ o = .string s ∧ j ≤ 5 ∧ s.size + 32 * j ≤ 160 ∧ Rd wr r (1 + 4 * (5 - j)) ∧ Only [r] w1 wr) (fun _ i _ => (intOf i).toNat)
  case atStart => exact ⟨_, k, rfl, rfl, by omega, by rw [show (⟨#[]⟩ : ByteArray).size = 0 from rfl]; omega, HR2.out.mono (by omega), HO2.out⟩
  case round =>
    obtain ⟨s, j, rfl, rfl, hj5, hs, hR, hO⟩ := hrel
    obtain ⟨wo, rfl⟩ : ∃ wo : World, wo = wr := ⟨_, rfl⟩
    have HR := Lib.hid hR
    have HO := Lib.hid hO
    have hro := hR.lt
    clear hR hO
    by_cases hj0 : 0 < j
    · have HQ := Lib.hid (rowQ_new (Q := StrLe 16) wo _ 9 (0, 0) hro 8 (by simp) strsA)
      go_wp2_with (fail)
      refine (num_new (wo.alloc _) r _ _ 1 8 _ 3 (by simp) rfl (HR.out.alloc _) (by omega) (by omega) (by omega) nums448).mono ?_
      rintro e w3 ⟨z, rfl, hz1, hz2, hR3, hO3⟩
      obtain ⟨m, rfl⟩ := Int.eq_ofNat_of_zero_le (show 0 ≤ z by omega)
      have HQ3 := Lib.hid ((HQ.out.only hO3).take (show m ≤ 8 by omega))
      have HR3 := Lib.hid hR3
      have HO3 := Lib.hid (HO.out.trans (((Only.refl _ _).alloc _).trans hO3))
      clear hR3 hO3 HQ HR HO
      go_wp2_with (fail)
      refine (of_any (StrLe 16) StrLe.str _ r _ wo.heap.size 0 m 8 HR3.out (by omega) (by omega) (by omega) HQ3.out).mono ?_
      rintro e w4 ⟨x, rfl, ⟨t, rfl, ht⟩, hR4, hO4⟩
      have HR4 := Lib.hid hR4
      have HO4 := Lib.hid (HO3.out.trans hO4)
      clear hR4 hO4 HR3 HO3 HQ3
      have hr4 := HR4.out.lt
      have HQ4 := Lib.hid (rowQ_new (Q := StrLe 16) w4 _ 9 (0, 0) hr4 4 (by simp) strsB)
      go_wp2_with (fail)
      refine (num_new (w4.alloc _) r _ _ 1 4 _ 3 (by simp) rfl (HR4.out.alloc _) (by omega) (by omega) (by omega) nums124).mono ?_
      rintro e w5 ⟨z, rfl, hz1, hz2, hR5, hO5⟩
      obtain ⟨m2, rfl⟩ := Int.eq_ofNat_of_zero_le (show 0 ≤ z by omega)
      have HQ5 := Lib.hid ((HQ4.out.only hO5).take (show m2 ≤ 4 by omega))
      have HR5 := Lib.hid hR5
      have HO5 := Lib.hid (HO4.out.trans (((Only.refl _ _).alloc _).trans hO5))
      clear hR5 hO5 HQ4 HR4 HO4
      go_wp2_with (fail)
      refine (of_any (StrLe 16) StrLe.str _ r _ w4.heap.size 0 m2 4 HR5.out (by omega) (by omega) (by omega) HQ5.out).mono ?_
      rintro e w6 ⟨x, rfl, ⟨t2, rfl, ht2⟩, hR6, hO6⟩
      have HR6 := Lib.hid hR6
      have HO6 := Lib.hid (HO5.out.trans hO6)
      clear hR6 hO6 HR5 HO5 HQ5
      go_wp2_with (fail)
      go_roundw
      case rel => exact ⟨_, j - 1, by go_num, rfl, by omega, by rw [ByteArray.size_append, ByteArray.size_append]; omega, HR6.out.mono (by omega), HO6.out⟩
      case measure => simp [intOf]; omega
    · obtain rfl : j = 0 := by omega
      have hfin : ∀ w', Only [r] w1 w' → Below w.heap.size w w' := fun w' h => h.below HB1.out HB1.out.size (by simpa using hr)
      have HF := Lib.hid hfin
      clear hfin
      by_cases h0 : s.size = 0
      · go_wp2_with (fail)
        go_ret
        exact ⟨s, rfl, by omega, HF.out _ HO.out⟩
      · obtain ⟨m, hm⟩ : ∃ m, s.size = m + 1 := ⟨s.size - 1, by omega⟩
        have hlt : m < s.size := by omega
        by_cases h32 : s[m].toNat = 32
        · have hb32 : ((s[m].toNat : Int) == 32) = true := by simp; omega
          go_wp2_with (fail)
          refine (pick wo r _ _ HR.out (by omega) (by omega)).mono ?_
          rintro e w3 ⟨q, rfl, _, _, hR3, hO3⟩
          have HO3 := Lib.hid (HO.out.trans hO3)
          clear hR3 hO3
          by_cases hq : 0 < q
          · go_wp2_with (fail)
            go_ret
            refine ⟨s.extract 0 m, rfl, by simp; omega, HF.out _ HO3.out⟩
          · go_wp2_with (fail)
            go_ret
            exact ⟨s, rfl, by omega, HF.out _ HO3.out⟩
        · have hb32 : ((s[m].toNat : Int) == 32) = false := by simp; omega
          go_wp2_with (fail)
          go_ret
          exact ⟨s, rfl, by omega, HF.out _ HO.out⟩

set_option maxHeartbeats 1000000 in
theorem wwInts_same (w : World) (a a2 : Option Addr) (cap cap2 n : Nat) (zs : List Int) (hl : zs.length = n) (hm : n ≤ 1099511627776)
    (hc : ∀ i, i < zs.length → ∃ b off, a = some ⟨b, off, none⟩ ∧ w.cell? ⟨b, off + i, none⟩ = some (.int .i64 (zs.getD i 0)))
    (hc2 : ∀ i, i < zs.length → ∃ b off, a2 = some ⟨b, off, none⟩ ∧ w.cell? ⟨b, off + i, none⟩ = some (.int .i64 (zs.getD i 0))) :
    Calls Tryd.prog 16 #[.slice a n cap, .slice a2 n cap2] w (Yes w) := by
  have Hc := Lib.hid hc
  have Hc2 := Lib.hid hc2
  have Hl := Lib.hid hl
  clear hc hl hc2
  go_enter Tryd.func16, Tryd.ntmps16
  go_wp2
  go_loopw [11] (fun i wr => ∃ k : Nat, k ≤ n ∧ i = .int .i64 k ∧ ∃ m, wr = w.drewN m) (fun i _ => n - (intOf i).toNat)
  case atStart => exact ⟨0, Nat.zero_le _, rfl, 0, rfl⟩
  case round =>
    obtain ⟨k, hk, rfl, m, rfl⟩ := hrel
    by_cases hlt : k < n
    · obtain ⟨b, off, rfl, hcell⟩ := Hc.out k (by rw [Hl.out]; exact hlt)
      obtain ⟨b2, off2, rfl, hcell2⟩ := Hc2.out k (by rw [Hl.out]; exact hlt)
      generalize zs.getD k 0 = z at *
      have hd : ∀ m', (w.drewN m').cell? ⟨b, off + k, none⟩ = some (.int .i64 z) := fun _ => hcell
      have hd2 : ∀ m', (w.drewN m').cell? ⟨b2, off2 + k, none⟩ = some (.int .i64 z) := fun _ => hcell2
      have k0 : (0 : Int) ≤ k := by omega
      have k1 : (k : Int) < n := by omega
      go_wp2
      go_quiet (fail)
      go_wp2
      go_roundw
      case rel => exact ⟨k + 1, by omega, by go_num, _, rfl⟩
      case measure => simp [intOf]; omega
    · obtain rfl : k = n := by omega
      go_wp2
      go_ret
      exact ⟨rfl, rfl, rfl, rfl, Nat.le_refl _, fun _ _ => rfl⟩

theorem wwSame {w : World} {v v2 : Value} {zs : List Int} (h : IntsAt w v zs) (h2 : IntsAt w v2 zs) (hm : zs.length ≤ 1099511627776) : Calls Tryd.prog 16 #[v, v2] w (Yes w) := by
  obtain ⟨a, cap, rfl, hc⟩ := h
  obtain ⟨a2, cap2, rfl, hc2⟩ := h2
  exact wwInts_same w a a2 cap cap2 _ zs rfl hm hc hc2

end Go.Proofs.YtkpkgengdcleiaaDoor
