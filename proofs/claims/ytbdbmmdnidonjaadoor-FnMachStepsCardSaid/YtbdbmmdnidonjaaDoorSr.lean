/- Which fields are not named: l22Rest. -/
import Derived.Test.YtbdbmmdnidonjaaDoorSw
set_option maxRecDepth 100000
namespace Go.Proofs.YtbdbmmdnidonjaaDoor
open Go.RowKit

theorem listLen (s : ByteArray) : s.data.toList.length = s.size := by show s.data.toList.length = s.data.size; exact Array.length_toList
theorem inS_step (s : ByteArray) (c : UInt8) (j : Nat) (h : j < s.size) : (s.data.toList.take (j + 1)).any (· == c) = ((s.data.toList.take j).any (· == c) || s[j] == c) := by
  have hl : j < s.data.toList.length := by rw [listLen]; exact h
  rw [List.take_succ_eq_append_getElem hl, List.any_append]
  simp
  rfl
theorem inS_all (s : ByteArray) (c : UInt8) : (s.data.toList.take s.size).any (· == c) = inS s c := by
  unfold inS; rw [← listLen, List.take_length]
def restS (x : Mi) (s : ByteArray) : Bool := (inS s 65 || x.a == 0) && (inS s 66 || x.b == 0) && (inS s 67 || x.c == 0) && (inS s 78 || x.n == 0)

set_option maxHeartbeats 4000000 in
theorem l22Rest_any (w : World) (op a b c n : Int) (s : ByteArray) (hs : s.size ≤ 3) :
    Calls Tryd.prog 131 #[.agg #[.int .i64 op, .int .i64 a, .int .i64 b, .int .i64 c, .int .i64 n], .string s] w (BoolPost (restS ⟨op, a, b, c, n⟩ s) w) := by
  obtain ⟨ok, hok⟩ : ∃ ok, ok = restS ⟨op, a, b, c, n⟩ s := ⟨_, rfl⟩
  rw [← hok]
  unfold restS at hok
  simp only [] at hok
  obtain ⟨g0, hg0⟩ : ∃ g, g = inS s 65 := ⟨_, rfl⟩
  rw [← hg0] at hok
  have G0 := Lib.hid hg0
  clear hg0
  obtain ⟨g1, hg1⟩ : ∃ g, g = inS s 66 := ⟨_, rfl⟩
  rw [← hg1] at hok
  have G1 := Lib.hid hg1
  clear hg1
  obtain ⟨g2, hg2⟩ : ∃ g, g = inS s 67 := ⟨_, rfl⟩
  rw [← hg2] at hok
  have G2 := Lib.hid hg2
  clear hg2
  obtain ⟨g3, hg3⟩ : ∃ g, g = inS s 78 := ⟨_, rfl⟩
  rw [← hg3] at hok
  have G3 := Lib.hid hg3
  clear hg3
  have HOK := Lib.hid hok
  clear hok
  have HFA : Hid (∀ w' (q : UInt8), Calls Tryd.prog 132 #[.agg #[.int .i64 op, .int .i64 a, .int .i64 b, .int .i64 c, .int .i64 n], .int .u8 q.toNat] w' fun e w'' => e = .returned (.int .i64 (fieldAt ⟨op, a, b, c, n⟩ q)) ∧ Below w'.heap.size w' w'') := Lib.hid (fun w' q => l22Field_any w' op a b c n q)
  obtain ⟨w0, hw0⟩ : ∃ w0, w0 = w.alloc (.cells #[.int .i64 op, .int .i64 a, .int .i64 b, .int .i64 c, .int .i64 n] 124) := ⟨_, rfl⟩
  have z0 : w0.cell? ⟨w.heap.size, 0, none⟩ = some (.int .i64 op) := by rw [hw0]; simp [go_sem]
  have z1 : w0.cell? ⟨w.heap.size, 1, none⟩ = some (.int .i64 a) := by rw [hw0]; simp [go_sem]
  have z2 : w0.cell? ⟨w.heap.size, 2, none⟩ = some (.int .i64 b) := by rw [hw0]; simp [go_sem]
  have z3 : w0.cell? ⟨w.heap.size, 3, none⟩ = some (.int .i64 c) := by rw [hw0]; simp [go_sem]
  have z4 : w0.cell? ⟨w.heap.size, 4, none⟩ = some (.int .i64 n) := by rw [hw0]; simp [go_sem]
  have hBW : Below w.heap.size w w0 := by rw [hw0]; exact below1 _ _
  have hlt0 : w.heap.size < w0.heap.size := by rw [hw0]; simp
  have HBW := Lib.hid hBW
  have HW0 := Lib.hid hw0
  have Z0 := Lib.hid z0; have Z1 := Lib.hid z1; have Z2 := Lib.hid z2; have Z3 := Lib.hid z3; have Z4 := Lib.hid z4
  clear hBW hw0 z0 z1 z2 z3 z4
  unfold BoolPost
  go_enter Tryd.func131, Tryd.ntmps131
  go_wp2_with (fail)
  rw [← HW0.out]
  go_loopw [5] (fun i wr => ∃ k : Nat, k ≤ 4 ∧ i = .int .i64 k ∧ Hid (k ≤ 0 ∨ (g0 || a == 0) = true) ∧ Hid (k ≤ 1 ∨ (g1 || b == 0) = true) ∧ Hid (k ≤ 2 ∨ (g2 || c == 0) = true) ∧ Hid (k ≤ 3 ∨ (g3 || n == 0) = true) ∧ Below w0.heap.size w0 wr) (fun i _ => 4 - (intOf i).toNat)
  case atStart => exact ⟨0, by omega, rfl, by simp [Hid], by simp [Hid], by simp [Hid], by simp [Hid], Below.refl _ _⟩
  case round =>
    obtain ⟨k, hk, rfl, hr0, hr1, hr2, hr3, hB⟩ := hrel
    obtain ⟨wo, rfl⟩ : ∃ wo : World, wo = wr := ⟨_, rfl⟩
    have HB := Lib.hid hB
    rcases (show k = 0 ∨ k = 1 ∨ k = 2 ∨ k = 3 ∨ k = 4 by omega) with rfl | rfl | rfl | rfl | rfl
    · go_wp2_with (fail)
      go_loop [7, 8] (fun m i => ∃ j : Nat, j ≤ s.size ∧ i = .int .i64 j ∧ ∃ q : Bool, m = .bool q ∧ Hid (q = (s.data.toList.take j).any (· == 65))) (fun _ i => s.size - (intOf i).toNat)
      case atStart => exact ⟨0, Nat.zero_le _, rfl, false, rfl, by simp [Hid]⟩
      case round =>
        obtain ⟨j, hj, rfl, q, rfl, hq⟩ := hrel
        by_cases hlt : j < s.size
        · have hst := inS_step s 65 j hlt
          rw [← hq.out] at hst
          have hch : ((s[j].toNat : Int) == 65) = (s[j] == 65) := by
            by_cases h : s[j] = 65
            · rw [h]; rfl
            · have h2 : ¬ ((s[j].toNat : Int) = 65) := fun h' => h (by apply UInt8.toNat_inj.mp; show s[j].toNat = 65; omega)
              have e1 : ((s[j].toNat : Int) == 65) = false := by simpa using h2
              have e2 : (s[j] == 65) = false := by simpa using h
              rw [e1, e2]
          obtain ⟨t, ht⟩ : ∃ t, t = (s[j] == 65) := ⟨_, rfl⟩
          rw [← ht] at hst hch
          have HST := Lib.hid hst
          clear hst ht hq
          cases q
          · cases t
            · go_wp2_with (fail)
              go_round
              case rel => exact ⟨j + 1, by omega, by go_num, false, congrArg Value.bool hch, HST.out.symm⟩
              case measure => simp [intOf]; omega
            · go_wp2_with (fail)
              go_round
              case rel => exact ⟨j + 1, by omega, by go_num, true, congrArg Value.bool hch, HST.out.symm⟩
              case measure => simp [intOf]; omega
          · go_wp2_with (fail)
            go_round
            case rel => exact ⟨j + 1, by omega, by go_num, true, rfl, by rw [HST.out]; simp [Hid]⟩
            case measure => simp [intOf]; omega
        · obtain rfl : j = s.size := by omega
          have hqg : q = g0 := by rw [hq.out, inS_all, G0.out]
          have HQG := Lib.hid hqg
          clear hqg hq
          have y0 : wo.cell? ⟨w.heap.size, 0, none⟩ = some (.int .i64 op) := by rw [HB.out.cell (p := ⟨w.heap.size, 0, none⟩) hlt0]; exact Z0.out
          have y1 : wo.cell? ⟨w.heap.size, 1, none⟩ = some (.int .i64 a) := by rw [HB.out.cell (p := ⟨w.heap.size, 1, none⟩) hlt0]; exact Z1.out
          have y2 : wo.cell? ⟨w.heap.size, 2, none⟩ = some (.int .i64 b) := by rw [HB.out.cell (p := ⟨w.heap.size, 2, none⟩) hlt0]; exact Z2.out
          have y3 : wo.cell? ⟨w.heap.size, 3, none⟩ = some (.int .i64 c) := by rw [HB.out.cell (p := ⟨w.heap.size, 3, none⟩) hlt0]; exact Z3.out
          have y4 : wo.cell? ⟨w.heap.size, 4, none⟩ = some (.int .i64 n) := by rw [HB.out.cell (p := ⟨w.heap.size, 4, none⟩) hlt0]; exact Z4.out
          cases q
          · go_wp2_with (fail)
            go_at_call 132
            refine (HFA.out _ 65).mono ?_
            rintro e w2 ⟨rfl, hb⟩
            have hf : fieldAt ⟨op, a, b, c, n⟩ 65 = a := by rfl
            rw [hf]
            have hB2 := HB.out.trans (hb.mono HB.out.size)
            have HB2 := Lib.hid hB2
            clear hb hB2 hf y0 y1 y2 y3 y4
            by_cases hz : a = 0
            · have hz2 : (a == 0) = true := by simpa using hz
              subst hz
              go_wp2_with (fail)
              go_roundw
              case rel =>
                have BB := HB2.out
                exact ⟨1, by omega, by rfl, hidR (by simp), by simp [Hid], by simp [Hid], by simp [Hid], BB⟩
              case measure => simp [intOf]
            · have d1 : decide (a = 0) = false := by simpa using hz
              have d2 : (a == 0) = false := by simpa using hz
              have d3 : (a != 0) = true := by simpa using hz
              have hf : ok = false := by
                have := HOK.out
                rw [this, d2, ← HQG.out]; simp
              subst hf
              go_wp2_with (fail)
              go_ret
              exact ⟨rfl, HBW.out.trans (HB2.out.mono (Nat.le_of_lt hlt0))⟩
          · go_wp2_with (fail)
            go_roundw
            case rel =>
              have BB := HB.out
              exact ⟨1, by omega, by rfl, hidR (by rw [← HQG.out]; rfl), by simp [Hid], by simp [Hid], by simp [Hid], BB⟩
            case measure => simp [intOf]
    · go_wp2_with (fail)
      go_loop [7, 8] (fun m i => ∃ j : Nat, j ≤ s.size ∧ i = .int .i64 j ∧ ∃ q : Bool, m = .bool q ∧ Hid (q = (s.data.toList.take j).any (· == 66))) (fun _ i => s.size - (intOf i).toNat)
      case atStart => exact ⟨0, Nat.zero_le _, rfl, false, rfl, by simp [Hid]⟩
      case round =>
        obtain ⟨j, hj, rfl, q, rfl, hq⟩ := hrel
        by_cases hlt : j < s.size
        · have hst := inS_step s 66 j hlt
          rw [← hq.out] at hst
          have hch : ((s[j].toNat : Int) == 66) = (s[j] == 66) := by
            by_cases h : s[j] = 66
            · rw [h]; rfl
            · have h2 : ¬ ((s[j].toNat : Int) = 66) := fun h' => h (by apply UInt8.toNat_inj.mp; show s[j].toNat = 66; omega)
              have e1 : ((s[j].toNat : Int) == 66) = false := by simpa using h2
              have e2 : (s[j] == 66) = false := by simpa using h
              rw [e1, e2]
          obtain ⟨t, ht⟩ : ∃ t, t = (s[j] == 66) := ⟨_, rfl⟩
          rw [← ht] at hst hch
          have HST := Lib.hid hst
          clear hst ht hq
          cases q
          · cases t
            · go_wp2_with (fail)
              go_round
              case rel => exact ⟨j + 1, by omega, by go_num, false, congrArg Value.bool hch, HST.out.symm⟩
              case measure => simp [intOf]; omega
            · go_wp2_with (fail)
              go_round
              case rel => exact ⟨j + 1, by omega, by go_num, true, congrArg Value.bool hch, HST.out.symm⟩
              case measure => simp [intOf]; omega
          · go_wp2_with (fail)
            go_round
            case rel => exact ⟨j + 1, by omega, by go_num, true, rfl, by rw [HST.out]; simp [Hid]⟩
            case measure => simp [intOf]; omega
        · obtain rfl : j = s.size := by omega
          have hqg : q = g1 := by rw [hq.out, inS_all, G1.out]
          have HQG := Lib.hid hqg
          clear hqg hq
          have y0 : wo.cell? ⟨w.heap.size, 0, none⟩ = some (.int .i64 op) := by rw [HB.out.cell (p := ⟨w.heap.size, 0, none⟩) hlt0]; exact Z0.out
          have y1 : wo.cell? ⟨w.heap.size, 1, none⟩ = some (.int .i64 a) := by rw [HB.out.cell (p := ⟨w.heap.size, 1, none⟩) hlt0]; exact Z1.out
          have y2 : wo.cell? ⟨w.heap.size, 2, none⟩ = some (.int .i64 b) := by rw [HB.out.cell (p := ⟨w.heap.size, 2, none⟩) hlt0]; exact Z2.out
          have y3 : wo.cell? ⟨w.heap.size, 3, none⟩ = some (.int .i64 c) := by rw [HB.out.cell (p := ⟨w.heap.size, 3, none⟩) hlt0]; exact Z3.out
          have y4 : wo.cell? ⟨w.heap.size, 4, none⟩ = some (.int .i64 n) := by rw [HB.out.cell (p := ⟨w.heap.size, 4, none⟩) hlt0]; exact Z4.out
          cases q
          · go_wp2_with (fail)
            go_at_call 132
            refine (HFA.out _ 66).mono ?_
            rintro e w2 ⟨rfl, hb⟩
            have hf : fieldAt ⟨op, a, b, c, n⟩ 66 = b := by rfl
            rw [hf]
            have hB2 := HB.out.trans (hb.mono HB.out.size)
            have HB2 := Lib.hid hB2
            clear hb hB2 hf y0 y1 y2 y3 y4
            by_cases hz : b = 0
            · have hz2 : (b == 0) = true := by simpa using hz
              subst hz
              go_wp2_with (fail)
              go_roundw
              case rel =>
                have BB := HB2.out
                exact ⟨2, by omega, by rfl, hidR (hr0.out.resolve_left (by omega)), hidR (by simp), by simp [Hid], by simp [Hid], BB⟩
              case measure => simp [intOf]
            · have d1 : decide (b = 0) = false := by simpa using hz
              have d2 : (b == 0) = false := by simpa using hz
              have d3 : (b != 0) = true := by simpa using hz
              have hf : ok = false := by
                have := HOK.out
                rw [this, d2, ← HQG.out]; simp
              subst hf
              go_wp2_with (fail)
              go_ret
              exact ⟨rfl, HBW.out.trans (HB2.out.mono (Nat.le_of_lt hlt0))⟩
          · go_wp2_with (fail)
            go_roundw
            case rel =>
              have BB := HB.out
              exact ⟨2, by omega, by rfl, hidR (hr0.out.resolve_left (by omega)), hidR (by rw [← HQG.out]; rfl), by simp [Hid], by simp [Hid], BB⟩
            case measure => simp [intOf]
    · go_wp2_with (fail)
      go_loop [7, 8] (fun m i => ∃ j : Nat, j ≤ s.size ∧ i = .int .i64 j ∧ ∃ q : Bool, m = .bool q ∧ Hid (q = (s.data.toList.take j).any (· == 67))) (fun _ i => s.size - (intOf i).toNat)
      case atStart => exact ⟨0, Nat.zero_le _, rfl, false, rfl, by simp [Hid]⟩
      case round =>
        obtain ⟨j, hj, rfl, q, rfl, hq⟩ := hrel
        by_cases hlt : j < s.size
        · have hst := inS_step s 67 j hlt
          rw [← hq.out] at hst
          have hch : ((s[j].toNat : Int) == 67) = (s[j] == 67) := by
            by_cases h : s[j] = 67
            · rw [h]; rfl
            · have h2 : ¬ ((s[j].toNat : Int) = 67) := fun h' => h (by apply UInt8.toNat_inj.mp; show s[j].toNat = 67; omega)
              have e1 : ((s[j].toNat : Int) == 67) = false := by simpa using h2
              have e2 : (s[j] == 67) = false := by simpa using h
              rw [e1, e2]
          obtain ⟨t, ht⟩ : ∃ t, t = (s[j] == 67) := ⟨_, rfl⟩
          rw [← ht] at hst hch
          have HST := Lib.hid hst
          clear hst ht hq
          cases q
          · cases t
            · go_wp2_with (fail)
              go_round
              case rel => exact ⟨j + 1, by omega, by go_num, false, congrArg Value.bool hch, HST.out.symm⟩
              case measure => simp [intOf]; omega
            · go_wp2_with (fail)
              go_round
              case rel => exact ⟨j + 1, by omega, by go_num, true, congrArg Value.bool hch, HST.out.symm⟩
              case measure => simp [intOf]; omega
          · go_wp2_with (fail)
            go_round
            case rel => exact ⟨j + 1, by omega, by go_num, true, rfl, by rw [HST.out]; simp [Hid]⟩
            case measure => simp [intOf]; omega
        · obtain rfl : j = s.size := by omega
          have hqg : q = g2 := by rw [hq.out, inS_all, G2.out]
          have HQG := Lib.hid hqg
          clear hqg hq
          have y0 : wo.cell? ⟨w.heap.size, 0, none⟩ = some (.int .i64 op) := by rw [HB.out.cell (p := ⟨w.heap.size, 0, none⟩) hlt0]; exact Z0.out
          have y1 : wo.cell? ⟨w.heap.size, 1, none⟩ = some (.int .i64 a) := by rw [HB.out.cell (p := ⟨w.heap.size, 1, none⟩) hlt0]; exact Z1.out
          have y2 : wo.cell? ⟨w.heap.size, 2, none⟩ = some (.int .i64 b) := by rw [HB.out.cell (p := ⟨w.heap.size, 2, none⟩) hlt0]; exact Z2.out
          have y3 : wo.cell? ⟨w.heap.size, 3, none⟩ = some (.int .i64 c) := by rw [HB.out.cell (p := ⟨w.heap.size, 3, none⟩) hlt0]; exact Z3.out
          have y4 : wo.cell? ⟨w.heap.size, 4, none⟩ = some (.int .i64 n) := by rw [HB.out.cell (p := ⟨w.heap.size, 4, none⟩) hlt0]; exact Z4.out
          cases q
          · go_wp2_with (fail)
            go_at_call 132
            refine (HFA.out _ 67).mono ?_
            rintro e w2 ⟨rfl, hb⟩
            have hf : fieldAt ⟨op, a, b, c, n⟩ 67 = c := by rfl
            rw [hf]
            have hB2 := HB.out.trans (hb.mono HB.out.size)
            have HB2 := Lib.hid hB2
            clear hb hB2 hf y0 y1 y2 y3 y4
            by_cases hz : c = 0
            · have hz2 : (c == 0) = true := by simpa using hz
              subst hz
              go_wp2_with (fail)
              go_roundw
              case rel =>
                have BB := HB2.out
                exact ⟨3, by omega, by rfl, hidR (hr0.out.resolve_left (by omega)), hidR (hr1.out.resolve_left (by omega)), hidR (by simp), by simp [Hid], BB⟩
              case measure => simp [intOf]
            · have d1 : decide (c = 0) = false := by simpa using hz
              have d2 : (c == 0) = false := by simpa using hz
              have d3 : (c != 0) = true := by simpa using hz
              have hf : ok = false := by
                have := HOK.out
                rw [this, d2, ← HQG.out]; simp
              subst hf
              go_wp2_with (fail)
              go_ret
              exact ⟨rfl, HBW.out.trans (HB2.out.mono (Nat.le_of_lt hlt0))⟩
          · go_wp2_with (fail)
            go_roundw
            case rel =>
              have BB := HB.out
              exact ⟨3, by omega, by rfl, hidR (hr0.out.resolve_left (by omega)), hidR (hr1.out.resolve_left (by omega)), hidR (by rw [← HQG.out]; rfl), by simp [Hid], BB⟩
            case measure => simp [intOf]
    · go_wp2_with (fail)
      go_loop [7, 8] (fun m i => ∃ j : Nat, j ≤ s.size ∧ i = .int .i64 j ∧ ∃ q : Bool, m = .bool q ∧ Hid (q = (s.data.toList.take j).any (· == 78))) (fun _ i => s.size - (intOf i).toNat)
      case atStart => exact ⟨0, Nat.zero_le _, rfl, false, rfl, by simp [Hid]⟩
      case round =>
        obtain ⟨j, hj, rfl, q, rfl, hq⟩ := hrel
        by_cases hlt : j < s.size
        · have hst := inS_step s 78 j hlt
          rw [← hq.out] at hst
          have hch : ((s[j].toNat : Int) == 78) = (s[j] == 78) := by
            by_cases h : s[j] = 78
            · rw [h]; rfl
            · have h2 : ¬ ((s[j].toNat : Int) = 78) := fun h' => h (by apply UInt8.toNat_inj.mp; show s[j].toNat = 78; omega)
              have e1 : ((s[j].toNat : Int) == 78) = false := by simpa using h2
              have e2 : (s[j] == 78) = false := by simpa using h
              rw [e1, e2]
          obtain ⟨t, ht⟩ : ∃ t, t = (s[j] == 78) := ⟨_, rfl⟩
          rw [← ht] at hst hch
          have HST := Lib.hid hst
          clear hst ht hq
          cases q
          · cases t
            · go_wp2_with (fail)
              go_round
              case rel => exact ⟨j + 1, by omega, by go_num, false, congrArg Value.bool hch, HST.out.symm⟩
              case measure => simp [intOf]; omega
            · go_wp2_with (fail)
              go_round
              case rel => exact ⟨j + 1, by omega, by go_num, true, congrArg Value.bool hch, HST.out.symm⟩
              case measure => simp [intOf]; omega
          · go_wp2_with (fail)
            go_round
            case rel => exact ⟨j + 1, by omega, by go_num, true, rfl, by rw [HST.out]; simp [Hid]⟩
            case measure => simp [intOf]; omega
        · obtain rfl : j = s.size := by omega
          have hqg : q = g3 := by rw [hq.out, inS_all, G3.out]
          have HQG := Lib.hid hqg
          clear hqg hq
          have y0 : wo.cell? ⟨w.heap.size, 0, none⟩ = some (.int .i64 op) := by rw [HB.out.cell (p := ⟨w.heap.size, 0, none⟩) hlt0]; exact Z0.out
          have y1 : wo.cell? ⟨w.heap.size, 1, none⟩ = some (.int .i64 a) := by rw [HB.out.cell (p := ⟨w.heap.size, 1, none⟩) hlt0]; exact Z1.out
          have y2 : wo.cell? ⟨w.heap.size, 2, none⟩ = some (.int .i64 b) := by rw [HB.out.cell (p := ⟨w.heap.size, 2, none⟩) hlt0]; exact Z2.out
          have y3 : wo.cell? ⟨w.heap.size, 3, none⟩ = some (.int .i64 c) := by rw [HB.out.cell (p := ⟨w.heap.size, 3, none⟩) hlt0]; exact Z3.out
          have y4 : wo.cell? ⟨w.heap.size, 4, none⟩ = some (.int .i64 n) := by rw [HB.out.cell (p := ⟨w.heap.size, 4, none⟩) hlt0]; exact Z4.out
          cases q
          · go_wp2_with (fail)
            go_at_call 132
            refine (HFA.out _ 78).mono ?_
            rintro e w2 ⟨rfl, hb⟩
            have hf : fieldAt ⟨op, a, b, c, n⟩ 78 = n := by rfl
            rw [hf]
            have hB2 := HB.out.trans (hb.mono HB.out.size)
            have HB2 := Lib.hid hB2
            clear hb hB2 hf y0 y1 y2 y3 y4
            by_cases hz : n = 0
            · have hz2 : (n == 0) = true := by simpa using hz
              subst hz
              go_wp2_with (fail)
              go_roundw
              case rel =>
                have BB := HB2.out
                exact ⟨4, by omega, by rfl, hidR (hr0.out.resolve_left (by omega)), hidR (hr1.out.resolve_left (by omega)), hidR (hr2.out.resolve_left (by omega)), hidR (by simp), BB⟩
              case measure => simp [intOf]
            · have d1 : decide (n = 0) = false := by simpa using hz
              have d2 : (n == 0) = false := by simpa using hz
              have d3 : (n != 0) = true := by simpa using hz
              have hf : ok = false := by
                have := HOK.out
                rw [this, d2, ← HQG.out]; simp
              subst hf
              go_wp2_with (fail)
              go_ret
              exact ⟨rfl, HBW.out.trans (HB2.out.mono (Nat.le_of_lt hlt0))⟩
          · go_wp2_with (fail)
            go_roundw
            case rel =>
              have BB := HB.out
              exact ⟨4, by omega, by rfl, hidR (hr0.out.resolve_left (by omega)), hidR (hr1.out.resolve_left (by omega)), hidR (hr2.out.resolve_left (by omega)), hidR (by rw [← HQG.out]; rfl), BB⟩
            case measure => simp [intOf]
    · have ht : ok = true := by
        rw [HOK.out, hr0.out.resolve_left (by omega), hr1.out.resolve_left (by omega), hr2.out.resolve_left (by omega), hr3.out.resolve_left (by omega)]; rfl
      subst ht
      go_wp2_with (fail)
      go_ret
      exact ⟨rfl, HBW.out.trans (HB.out.mono (Nat.le_of_lt hlt0))⟩

end Go.Proofs.YtbdbmmdnidonjaaDoor
