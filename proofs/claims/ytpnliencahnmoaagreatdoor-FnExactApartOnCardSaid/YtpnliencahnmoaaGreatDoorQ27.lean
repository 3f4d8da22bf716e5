/- Marks in statements, functions, programs of the call's own. The size of a program of trees, as the laws reckon it. Marks: markIntS writes them, heldIntS finds them. -/
import Derived.Test.YtpnliencahnmoaaGreatDoorQ26
import Derived.Test.YtpnliencahnmoaaGreatDoorQ2
import Derived.Test.YtpnliencahnmoaaGreatDoorQ1
set_option linter.unusedVariables false
set_option linter.unusedSimpArgs false
set_option linter.unusedVariables false
set_option linter.unusedSimpArgs false
set_option maxRecDepth 100000
namespace Go.Proofs.YtpnliencahnmoaaGreatDoor
open Go.RowKit
/-- marking is under way: the rows to come still stand -/
structure MkS (t K : Nat) (w0 w wr : World) (lo hi g n j : Nat) (ys : List Value) (cs : List (Nat × (Nat → Value))) (ls hs : Nat → Nat) : Prop where
  row : wr.ownsRow lo t K (.slice (some ⟨g, 0, none⟩) n n) n ys
  mid : MidB lo hi w wr
  kid : ∀ i, j ≤ i → i < n → ∀ c ∈ cs, ys[i * K + c.1]? = some (c.2 i)
  old : ∀ i, j ≤ i → i < n → ∀ q, ls i ≤ q → q < hs i → wr.heap[q]? = w0.heap[q]?
theorem MkS.below {t K : Nat} {w0 w wr w2 : World} {lo hi g n j : Nat} {ys : List Value} {cs : List (Nat × (Nat → Value))} {ls hs : Nat → Nat} (h : MkS t K w0 w wr lo hi g n j ys cs ls hs) (hb : Below wr.heap.size wr w2) (hh : ∀ i, i < n → hs i ≤ wr.heap.size) : MkS t K w0 w w2 lo hi g n j ys cs ls hs :=
  ⟨ownsRow_below h.row hb, h.mid.trans (MidB.of_below hb), h.kid, fun i h1 h2 q q1 q2 => by rw [hb.block q (by have := hh i h2; omega)]; exact h.old i h1 h2 q q1 q2⟩
theorem MkS.set {t K : Nat} {w0 w wr : World} {lo hi g n j : Nat} {ys : List Value} {cs : List (Nat × (Nat → Value))} {ls hs : Nat → Nat} (h : MkS t K w0 w wr lo hi g n j ys cs ls hs) (hg1 : lo ≤ g) (hg2 : g < hi) (hl : ∀ i, i < n → g < ls i) (p : Nat) (hp : ∀ i, ∀ c ∈ cs, p ≠ i * K + c.1) (u : Value) : MkS t K w0 w (wr.setCell ⟨g, p, none⟩ u) lo hi g n j (ys.set p u) cs ls hs :=
  ⟨(h.row.stored p u).1, h.mid.setCell (p := ⟨g, p, none⟩) hg1 hg2 u, fun i h1 h2 c hc => by rw [List.getElem?_set_ne (hp i c hc)]; exact h.kid i h1 h2 c hc, fun i h1 h2 q q1 q2 => by rw [Below.heap_setCell _ _ _ _ (by have := hl i h2; simp only []; omega)]; exact h.old i h1 h2 q q1 q2⟩
/-- what hangs below an element is marked -/
theorem MkS.next {t K : Nat} {w0 w wr w2 : World} {lo hi g n j : Nat} {ys : List Value} {cs : List (Nat × (Nat → Value))} {ls hs : Nat → Nat} (h : MkS t K w0 w wr lo hi g n j ys cs ls hs) (hm : MidB (ls j) (hs j) wr w2) (hlt : j < n) (hl : g < ls j) (hlo : lo ≤ g) (hhi : hs j ≤ hi) (hg : g < wr.heap.size) (hsz : ∀ i, i < n → hs i ≤ wr.heap.size) (hd : ∀ i, j < i → i < n → hs j ≤ ls i) : MkS t K w0 w w2 lo hi g n (j + 1) ys cs ls hs := by
  refine ⟨ownsRow_same h.row (fun z hz => ?_), h.mid.trans (hm.wide (by omega) hhi), fun i h1 h2 => h.kid i (by omega) h2, fun i i1 i2 z z1 z2 => ?_⟩
  · have hz : g = z := by simpa [Value.ownBlock] using hz
    subst hz
    exact hm.block g hg (by omega)
  · have := hd i (by omega) i2
    rw [hm.block z (by have := hsz i i2; omega) (by omega)]
    exact h.old i (by omega) i2 z z1 z2
set_option maxHeartbeats 8000000 in
theorem markSts_any {w0 : World} {lo hi : Nat} {v : Value} {ss : List St} (h : OSts w0 lo hi v ss) : ∀ (w : World) (k : Nat), (∀ q, lo ≤ q → q < hi → w.heap[q]? = w0.heap[q]?) → hi ≤ w.heap.size → k + 3 * stsW ss ≤ 1000000000 →
    Calls Tryz.prog 54 #[v, .int .i64 (k : Int)] w (MkP lo hi k (3 * stsW ss) w) := by
  induction h with
  | mk lo hi g n ss ys av bv ev ls m1 m2 hs hn hm hsz hg hgh hlo hhi hmid hd hrow hc ha hb he ihb ihe =>
    intro w k hh hhs hkk
    have hE : MkS 70 5 w0 w w lo hi g n 0 ys [(2, av), (3, bv), (4, ev)] ls hs := by
      refine ⟨ownsRow_same hrow (fun q hq => ?_), MidB.refl _ _ _, fun i _ hi c hcc => ?_, fun i _ hi q q1 q2 => ?_⟩
      · have hq : g = q := by simpa [Value.ownBlock] using hq
        subst hq
        exact hh g hg hgh
      · obtain ⟨_, _, z2, z3, z4⟩ := hc i _ (List.getElem?_eq_getElem (by omega))
        simp only [List.mem_cons, List.not_mem_nil, or_false] at hcc
        rcases hcc with rfl | rfl | rfl
        · exact z2
        · exact z3
        · exact z4
      · have := hlo i hi; have := hhi i hi; exact hh q (by omega) (by omega)
    have hW : stsW ss = n + (ss.map stW).sum := by rw [hn]; exact stsW_sum ss
    have HE0 := Lib.hid hE; have HN := Lib.hid hn; have IHA := Lib.hid (fun i e hi => ha i e hi); have IHB := Lib.hid (fun i e hi => ihb i e hi); have IHE := Lib.hid (fun i e hi => ihe i e hi); have HLO := Lib.hid hlo; have HHI := Lib.hid hhi; have HD := Lib.hid hd; have HW := Lib.hid hW; have HGG : Hid (lo ≤ g ∧ g < hi) := Lib.hid ⟨hg, hgh⟩; have HMM := Lib.hid hmid
    clear hE hn hm hsz hlo hhi hd hrow hc ha hb he ihb ihe hh hW hmid
    obtain ⟨T, hT⟩ : ∃ T, T = 3 * stsW ss := ⟨_, rfl⟩
    rw [← hT] at hkk ⊢
    have HT := Lib.hid hT
    have hn9 : n ≤ 1000000000 := by have := HW.out; omega
    clear hT
    go_enter Tryz.func54, Tryz.ntmps54
    go_wp2_with (fail)
    go_loopw [1, 5] (fun qv i wr => ∃ (j q : Nat) (ys : List Value), j ≤ n ∧ i = .int .i64 (j : Int) ∧ qv = .int .i64 (q : Int) ∧ k ≤ q ∧ Hid (q ≤ k + 3 * (j + ((ss.take j).map stW).sum)) ∧ Hid (MkS 70 5 w0 w wr lo hi g n j ys [(2, av), (3, bv), (4, ev)] ls hs)) (fun _ i _ => n - (intOf i).toNat)
    case atStart => exact ⟨0, k, _, Nat.zero_le _, rfl, rfl, Nat.le_refl _, Lib.hid (by omega), HE0⟩
    case round =>
      obtain ⟨j, q, zs, hj, rfl, rfl, hkq, HQ, HE⟩ := hrel
      by_cases hlt : j < n
      · obtain ⟨x, hx⟩ : ∃ x, ss[j]? = some x := ⟨_, List.getElem?_eq_getElem (by rw [← HN.out]; exact hlt)⟩
        have hst := sum_take_succ stW ss j x hx
        have hsl := sum_take_le stW ss (j + 1)
        have hxe := stW_eq x
        have hqq : q + 2 + 3 * exsW x.args + 3 * stsW x.body + 3 * stsW x.els ≤ k + 3 * (j + 1 + ((ss.take (j + 1)).map stW).sum) := by have := HQ.out; omega
        have hqT : q + 2 + 3 * exsW x.args + 3 * stsW x.body + 3 * stsW x.els ≤ k + T := by have := HT.out; have := HW.out; have := hqq; omega
        have hq9 : (q : Int) + 2 ≤ 1000000000 := by omega
        have HQQ := Lib.hid hqq; have HQT := Lib.hid hqT
        have HXK := Lib.hid hx
        have k0 : (0 : Int) ≤ j := by omega
        have k1 : (j : Int) < n := by omega
        have q0 : (0 : Int) ≤ q := by omega
        have HMT := Lib.hid (fun w' => markText_any w' (q + 1) (by omega))
        rw [show ((q + 1 : Nat) : Int) = (q : Int) + 1 by omega] at HMT
        obtain ⟨⟨y0, d0⟩, ⟨y1, d1⟩, ⟨y2, d2⟩, ⟨y3, d3⟩, ⟨y4, d4⟩, f0, f1, f2, f3, f4⟩ := own5 HE.out.row j hlt
        have hg0 := (ownsRow_lt HE.out.row).1
        have hgg := HGG.out
        have hne : ∀ p, p < 2 → ∀ i, ∀ c ∈ [(2, av), (3, bv), (4, ev)], j * 5 + p ≠ i * 5 + c.1 := fun p hp i c hc => by
          simp only [List.mem_cons, List.not_mem_nil, or_false] at hc
          rcases hc with rfl | rfl | rfl <;> simp only [] <;> omega
        have HA := Lib.hid (HE.out.set hgg.1 hgg.2 HLO.out (j * 5) (hne 0 (by omega)) (.int .i64 (q : Int)))
        clear hst hsl hxe hqq hqT hx
        go_wp2_with (fail)
        go_at_call 52
        refine (HMT.out _).mono ?_
        rintro e w2 ⟨s, rfl, hb⟩
        have hwz : ∀ i, i < n → hs i ≤ wr.heap.size := fun i hi => by have := HHI.out i hi; have := HE.out.mid.size; omega
        have hA2 := HA.out.below hb (fun i hi => by have := hwz i hi; simpa using this)
        have hC := hA2.set hgg.1 hgg.2 HLO.out (j * 5 + 1) (hne 1 (by omega)) (.string s)
        have hsz2 : wr.heap.size ≤ w2.heap.size := by have := hb.size; simpa using this
        obtain ⟨⟨x0, e0⟩, ⟨x1, e1⟩, ⟨x2, e2⟩, ⟨x3, e3⟩, ⟨x4, e4⟩, g0, g1, g2, g3, g4⟩ := own5 hA2.row j hlt
        have hg2 : g < w2.heap.size := by omega
        obtain ⟨w3, hw3⟩ : ∃ w3, w3 = w2.setCell ⟨g, j * 5 + 1, none⟩ (.string s) := ⟨_, rfl⟩
        rw [← hw3] at hC
        have hsz3 : w3.heap.size = w2.heap.size := by rw [hw3]; simp
        have HC := Lib.hid hC
        have HSZ : Hid (∀ i, i < n → hs i ≤ w3.heap.size) := Lib.hid (fun i hi => by have := hwz i hi; omega)
        have hgl : g < w3.heap.size := by omega
        clear hb hA2 hC d0 d1 d2 d3 d4 f0 f1 f2 f3 f4 HA HMT hwz hsz3 hsz2 hne hgg
        have HMJ := Lib.hid (HMM.out j hlt); have HLJ := Lib.hid (HLO.out j hlt)
        have HIA := Lib.hid (markExs_any (IHA.out j x HXK.out) w3 (q + 2) (fun z z1 z2 => HC.out.old j (Nat.le_refl _) hlt z z1 (by have := HMJ.out; omega)) (by have := HSZ.out j hlt; have := HMJ.out; omega) (by have := HQT.out; omega))
        rw [show ((q + 2 : Nat) : Int) = (q : Int) + 1 + 1 by omega] at HIA
        have hrow3 := HC.out.row
        have c2 : w3.cell? ⟨g, j * 5 + 2, none⟩ = some (av j) := by rw [hrow3.cellAt _ (by omega)]; exact HC.out.kid j (Nat.le_refl _) hlt (2, av) (by simp)
        have HC3 : Hid (w3.cell? ⟨g, j * 5 + 3, none⟩ = some (bv j)) := Lib.hid (by rw [hrow3.cellAt _ (by omega)]; exact HC.out.kid j (Nat.le_refl _) hlt (3, bv) (by simp))
        have HC4 : Hid (w3.cell? ⟨g, j * 5 + 4, none⟩ = some (ev j)) := Lib.hid (by rw [hrow3.cellAt _ (by omega)]; exact HC.out.kid j (Nat.le_refl _) hlt (4, ev) (by simp))
        clear hrow3
        obtain ⟨va, hva⟩ : ∃ va, va = av j := ⟨_, rfl⟩
        obtain ⟨vb, hvb⟩ : ∃ vb, vb = bv j := ⟨_, rfl⟩
        obtain ⟨ve, hve⟩ : ∃ ve, ve = ev j := ⟨_, rfl⟩
        rw [← hva] at c2 HIA
        rw [← hvb] at HC3
        rw [← hve] at HC4
        have HVB := Lib.hid hvb; have HVE := Lib.hid hve
        clear hva hvb hve
        go_upto_region 7 with (fail)
        rw [← hw3]
        clear hw3 e0 e1 e2 e3 e4 g0 g1 g2 g3 g4 hg2
        go_wp2_with (fail)
        go_at_call 87
        refine HIA.out.mono ?_
        rintro e w4 ⟨ka, rfl, ha1, ha2, hma⟩
        have hgb : w4.heap[g]? = w3.heap[g]? := hma.block g hgl (by have := HLJ.out; omega)
        have c3 : w4.cell? ⟨g, j * 5 + 3, none⟩ = some vb := by rw [World.cell?_of_block (a := ⟨g, j * 5 + 3, none⟩) hgb]; exact HC3.out
        have HC4' : Hid (w4.cell? ⟨g, j * 5 + 4, none⟩ = some ve) := Lib.hid (by rw [World.cell?_of_block (a := ⟨g, j * 5 + 4, none⟩) hgb]; exact HC4.out)
        have hgl4 : g < w4.heap.size := by have := hma.size; omega
        have HIB := Lib.hid (IHB.out j x HXK.out w4 ka (fun z z1 z2 => by
          have := HSZ.out j hlt; have := HMJ.out
          rw [hma.block z (by omega) (by omega)]
          exact HC.out.old j (Nat.le_refl _) hlt z (by omega) (by omega)) (by have := HSZ.out j hlt; have := HMJ.out; have := hma.size; omega) (by have := HQT.out; omega))
        rw [← HVB.out] at HIB
        have HKA : Hid (q + 2 ≤ ka ∧ ka ≤ q + 2 + 3 * exsW x.args) := Lib.hid ⟨ha1, ha2⟩
        have HMA := Lib.hid hma
        have hka9 : (ka : Int) ≤ 1000000000 := by have := HQT.out; omega
        clear hgb hma ha1 ha2 c2
        go_wp2_with (fail)
        go_at_call 54
        refine HIB.out.mono ?_
        rintro e w5 ⟨kb, rfl, hb1, hb2, hmb⟩
        have hgb : w5.heap[g]? = w4.heap[g]? := hmb.block g hgl4 (by have := HLJ.out; have := HMJ.out; omega)
        have c4 : w5.cell? ⟨g, j * 5 + 4, none⟩ = some ve := by rw [World.cell?_of_block (a := ⟨g, j * 5 + 4, none⟩) hgb]; exact HC4'.out
        have hgl5 : g < w5.heap.size := by have := hmb.size; omega
        have HIE := Lib.hid (IHE.out j x HXK.out w5 kb (fun z z1 z2 => by
          have := HSZ.out j hlt; have := HMJ.out; have := HMA.out.size
          rw [hmb.block z (by omega) (by omega), HMA.out.block z (by omega) (by omega)]
          exact HC.out.old j (Nat.le_refl _) hlt z (by omega) (by omega)) (by have := HSZ.out j hlt; have := HMA.out.size; have := hmb.size; omega) (by have := HQT.out; have := HKA.out; omega))
        rw [← HVE.out] at HIE
        have HKB : Hid (ka ≤ kb ∧ kb ≤ ka + 3 * stsW x.body) := Lib.hid ⟨hb1, hb2⟩
        have HMB := Lib.hid hmb
        have hkb9 : (kb : Int) ≤ 1000000000 := by have := HQT.out; have := HKA.out; omega
        clear hgb hmb hb1 hb2 c3
        go_wp2_with (fail)
        go_at_call 54
        refine HIE.out.mono ?_
        rintro e w6 ⟨kc, rfl, hc1, hc2, hmc⟩
        have HN6 : Hid (MkS 70 5 w0 w w6 lo hi g n (j + 1) ((zs.set (j * 5) (.int .i64 (q : Int))).set (j * 5 + 1) (.string s)) [(2, av), (3, bv), (4, ev)] ls hs) := Lib.hid (by
          have hmj := HMJ.out; have hlj := HLJ.out
          exact HC.out.next (((HMA.out.wide (Nat.le_refl _) (by omega)).trans (HMB.out.wide (by omega) (by omega))).trans (hmc.wide (by omega) (Nat.le_refl _))) hlt hlj HGG.out.1 (HHI.out j hlt) hgl HSZ.out (fun i h1 h2 => HD.out j i h1 h2))
        have HQ6 : Hid (kc ≤ k + 3 * (j + 1 + ((ss.take (j + 1)).map stW).sum)) := Lib.hid (by have := HQQ.out; have := HKA.out; have := HKB.out; omega)
        have hk6 : k ≤ kc := by have := HKA.out; have := HKB.out; omega
        clear hmc hc1 hc2 c4
        go_wp2_with (fail)
        go_roundw
        case rel => exact ⟨j + 1, kc, _, by omega, by go_num, rfl, hk6, HQ6, HN6⟩
        case measure => simp [intOf]; omega
      · obtain rfl : j = n := by omega
        go_wp2_with (fail)
        go_ret
        refine ⟨_, rfl, hkq, ?_, HE.out.mid⟩
        have h1 := HQ.out
        rw [List.take_of_length_le (by rw [← HN.out]; exact Nat.le_refl _)] at h1
        have := HT.out; have := HW.out
        omega
set_option maxHeartbeats 8000000 in
theorem markFxs_any {w0 : World} {lo hi : Nat} {v : Value} {fs : List Fx} (h : OFs w0 lo hi v fs) (w : World) (k : Nat) (hh : ∀ q, lo ≤ q → q < hi → w.heap[q]? = w0.heap[q]?) (hhs : hi ≤ w.heap.size) (hkk : k + 3 * fxsW fs ≤ 1000000000) :
    Calls Tryz.prog 26 #[v, .int .i64 (k : Int)] w (MkP lo hi k (3 * fxsW fs) w) := by
  obtain ⟨g, n, ys, pv, bv, ls, m1, hs, hvf, hof⟩ := h
  subst hvf
  obtain ⟨hn, hm, hsz, hg, hgh, hlo, hhi, hmid, hd, hrow, hc, hp, hb⟩ := hof
  have hE : MkS 64 3 w0 w w lo hi g n 0 ys [(1, pv), (2, bv)] ls hs := by
    refine ⟨ownsRow_same hrow (fun q hq => ?_), MidB.refl _ _ _, fun i _ hi c hcc => ?_, fun i _ hi q q1 q2 => ?_⟩
    · have hq : g = q := by simpa [Value.ownBlock] using hq
      subst hq
      exact hh g hg hgh
    · obtain ⟨_, z1, z2⟩ := hc i _ (List.getElem?_eq_getElem (by omega))
      simp only [List.mem_cons, List.not_mem_nil, or_false] at hcc
      rcases hcc with rfl | rfl
      · exact z1
      · exact z2
    · have := hlo i hi; have := hhi i hi; exact hh q (by omega) (by omega)
  have hW : fxsW fs = n + (fs.map fxW).sum := by rw [hn]; rfl
  have HE0 := Lib.hid hE; have HN := Lib.hid hn; have IHP := Lib.hid (fun i e hi => hp i e hi); have IHB := Lib.hid (fun i e hi => hb i e hi); have HLO := Lib.hid hlo; have HHI := Lib.hid hhi; have HD := Lib.hid hd; have HW := Lib.hid hW; have HGG : Hid (lo ≤ g ∧ g < hi) := Lib.hid ⟨hg, hgh⟩; have HMM := Lib.hid hmid
  clear hE hn hm hsz hlo hhi hd hrow hc hp hb hh hW hmid
  obtain ⟨T, hT⟩ : ∃ T, T = 3 * fxsW fs := ⟨_, rfl⟩
  rw [← hT] at hkk ⊢
  have HT := Lib.hid hT
  have hn9 : n ≤ 1000000000 := by have := HW.out; omega
  clear hT
  go_enter Tryz.func26, Tryz.ntmps26
  go_wp2_with (fail)
  go_loopw [1, 5] (fun qv i wr => ∃ (j q : Nat) (ys : List Value), j ≤ n ∧ i = .int .i64 (j : Int) ∧ qv = .int .i64 (q : Int) ∧ k ≤ q ∧ Hid (q ≤ k + 3 * (j + ((fs.take j).map fxW).sum)) ∧ Hid (MkS 64 3 w0 w wr lo hi g n j ys [(1, pv), (2, bv)] ls hs)) (fun _ i _ => n - (intOf i).toNat)
  case atStart => exact ⟨0, k, _, Nat.zero_le _, rfl, rfl, Nat.le_refl _, Lib.hid (by omega), HE0⟩
  case round =>
    obtain ⟨j, q, zs, hj, rfl, rfl, hkq, HQ, HE⟩ := hrel
    by_cases hlt : j < n
    · obtain ⟨x, hx⟩ : ∃ x, fs[j]? = some x := ⟨_, List.getElem?_eq_getElem (by rw [← HN.out]; exact hlt)⟩
      have hst := sum_take_succ fxW fs j x hx
      have hsl := sum_take_le fxW fs (j + 1)
      have hpl := strsW_len x.params
      have hqq : q + 1 + x.params.length + 3 * stsW x.body ≤ k + 3 * (j + 1 + ((fs.take (j + 1)).map fxW).sum) := by
        have := HQ.out
        have hxe : fxW x = x.name.size + strsW x.params + stsW x.body := rfl
        omega
      have hqT : q + 1 + x.params.length + 3 * stsW x.body ≤ k + T := by have := HT.out; have := HW.out; have := hqq; omega
      have hq9 : (q : Int) + 1 ≤ 1000000000 := by omega
      have HQQ := Lib.hid hqq; have HQT := Lib.hid hqT
      have HXK := Lib.hid hx
      have k0 : (0 : Int) ≤ j := by omega
      have k1 : (j : Int) < n := by omega
      have q0 : (0 : Int) ≤ q := by omega
      have HMT := Lib.hid (fun w' => markText_any w' q (by omega))
      obtain ⟨⟨y0, d0⟩, ⟨y1, d1⟩, ⟨y2, d2⟩, f0, f1, f2⟩ := own3 HE.out.row j hlt
      have hg0 := (ownsRow_lt HE.out.row).1
      clear hst hsl hpl hqq hqT hx
      go_wp2_with (fail)
      go_at_call 52
      refine (HMT.out _).mono ?_
      rintro e w2 ⟨s, rfl, hb⟩
      have hgg := HGG.out
      have hne : ∀ i, ∀ c ∈ [(1, pv), (2, bv)], j * 3 ≠ i * 3 + c.1 := fun i c hc => by
        simp only [List.mem_cons, List.not_mem_nil, or_false] at hc
        rcases hc with rfl | rfl <;> simp only [] <;> omega
      have hwz : ∀ i, i < n → hs i ≤ wr.heap.size := fun i hi => by have := HHI.out i hi; have := HE.out.mid.size; omega
      have hA2 := HE.out.below hb hwz
      have hC := hA2.set hgg.1 hgg.2 HLO.out (j * 3) hne (.string s)
      have hsz2 : wr.heap.size ≤ w2.heap.size := hb.size
      obtain ⟨⟨x0, e0⟩, ⟨x1, e1⟩, ⟨x2, e2⟩, g0, g1, g2⟩ := own3 hA2.row j hlt
      have hg2 : g < w2.heap.size := by omega
      obtain ⟨w3, hw3⟩ : ∃ w3, w3 = w2.setCell ⟨g, j * 3, none⟩ (.string s) := ⟨_, rfl⟩
      rw [← hw3] at hC
      have hsz3 : w3.heap.size = w2.heap.size := by rw [hw3]; simp
      have HC := Lib.hid hC
      have HSZ : Hid (∀ i, i < n → hs i ≤ w3.heap.size) := Lib.hid (fun i hi => by have := hwz i hi; omega)
      have hgl : g < w3.heap.size := by omega
      clear hb hA2 hC d0 d1 d2 f0 f1 f2 HMT hwz hsz3 hsz2 hne hgg
      have HMJ := Lib.hid (HMM.out j hlt); have HLJ := Lib.hid (HLO.out j hlt)
      have HIA := Lib.hid (markStrs_any (IHP.out j x HXK.out) w3 (q + 1) (fun z z1 z2 => HC.out.old j (Nat.le_refl _) hlt z z1 (by have := HMJ.out; omega)) (by have := HSZ.out j hlt; have := HMJ.out; omega) (by have := HQT.out; omega))
      rw [show ((q + 1 : Nat) : Int) = (q : Int) + 1 by omega] at HIA
      have hrow3 := HC.out.row
      have c2 : w3.cell? ⟨g, j * 3 + 1, none⟩ = some (pv j) := by rw [hrow3.cellAt _ (by omega)]; exact HC.out.kid j (Nat.le_refl _) hlt (1, pv) (by simp)
      have HC3 : Hid (w3.cell? ⟨g, j * 3 + 2, none⟩ = some (bv j)) := Lib.hid (by rw [hrow3.cellAt _ (by omega)]; exact HC.out.kid j (Nat.le_refl _) hlt (2, bv) (by simp))
      clear hrow3
      obtain ⟨va, hva⟩ : ∃ va, va = pv j := ⟨_, rfl⟩
      obtain ⟨vb, hvb⟩ : ∃ vb, vb = bv j := ⟨_, rfl⟩
      rw [← hva] at c2 HIA
      rw [← hvb] at HC3
      have HVB := Lib.hid hvb
      clear hva hvb
      go_upto_region 5 with (fail)
      rw [← hw3]
      clear hw3 e0 e1 e2 g0 g1 g2 hg2
      go_wp2_with (fail)
      go_at_call 53
      refine HIA.out.mono ?_
      rintro e w4 ⟨ka, rfl, ha1, ha2, hma⟩
      have hgb : w4.heap[g]? = w3.heap[g]? := hma.block g hgl (by have := HLJ.out; omega)
      have c3 : w4.cell? ⟨g, j * 3 + 2, none⟩ = some vb := by rw [World.cell?_of_block (a := ⟨g, j * 3 + 2, none⟩) hgb]; exact HC3.out
      have hgl4 : g < w4.heap.size := by have := hma.size; omega
      have HIB := Lib.hid (markSts_any (IHB.out j x HXK.out) w4 ka (fun z z1 z2 => by
        have := HSZ.out j hlt; have := HMJ.out
        rw [hma.block z (by omega) (by omega)]
        exact HC.out.old j (Nat.le_refl _) hlt z (by omega) (by omega)) (by have := HSZ.out j hlt; have := HMJ.out; have := hma.size; omega) (by have := HQT.out; omega))
      rw [← HVB.out] at HIB
      have HKA : Hid (q + 1 ≤ ka ∧ ka ≤ q + 1 + x.params.length) := Lib.hid ⟨ha1, ha2⟩
      have HMA := Lib.hid hma
      have hka9 : (ka : Int) ≤ 1000000000 := by have := HQT.out; omega
      clear hgb hma ha1 ha2 c2
      go_wp2_with (fail)
      go_at_call 54
      refine HIB.out.mono ?_
      rintro e w6 ⟨kc, rfl, hc1, hc2, hmc⟩
      have HN6 : Hid (MkS 64 3 w0 w w6 lo hi g n (j + 1) (zs.set (j * 3) (.string s)) [(1, pv), (2, bv)] ls hs) := Lib.hid (by
        have hmj := HMJ.out; have hlj := HLJ.out
        exact HC.out.next ((HMA.out.wide (Nat.le_refl _) (by omega)).trans (hmc.wide (by omega) (Nat.le_refl _))) hlt hlj HGG.out.1 (HHI.out j hlt) hgl HSZ.out (fun i h1 h2 => HD.out j i h1 h2))
      have HQ6 : Hid (kc ≤ k + 3 * (j + 1 + ((fs.take (j + 1)).map fxW).sum)) := Lib.hid (by have := HQQ.out; have := HKA.out; omega)
      have hk6 : k ≤ kc := by have := HKA.out; omega
      clear hmc hc1 hc2 c3
      go_wp2_with (fail)
      go_roundw
      case rel => exact ⟨j + 1, kc, _, by omega, by go_num, rfl, hk6, HQ6, HN6⟩
      case measure => simp [intOf]; omega
    · obtain rfl : j = n := by omega
      go_wp2_with (fail)
      go_ret
      refine ⟨_, rfl, hkq, ?_, HE.out.mid⟩
      have h1 := HQ.out
      rw [List.take_of_length_le (by rw [← HN.out]; exact Nat.le_refl _)] at h1
      have := HT.out; have := HW.out
      omega
set_option maxHeartbeats 1000000 in
theorem markProg_any {w0 : World} {lo hi : Nat} {v : Value} {fs : List Fx} (h : OFs w0 lo hi v fs) (w : World) (k : Nat) (hh : ∀ q, lo ≤ q → q < hi → w.heap[q]? = w0.heap[q]?) (hhs : hi ≤ w.heap.size) (hkk : k + 3 * fxsW fs ≤ 1000000000) :
    Calls Tryz.prog 11 #[.agg #[v], .int .i64 (k : Int)] w (MkP lo hi k (3 * fxsW fs) w) := by
  have HK := Lib.hid (fun w' (hb : Below w.heap.size w w') => markFxs_any h w' k (fun q h1 h2 => by rw [hb.block q (by omega)]; exact hh q h1 h2) (by have := hb.size; omega) hkk)
  obtain ⟨g, hvf, _, _⟩ := h.form
  generalize fs.length = n at hvf
  subst hvf
  have HB1 := Lib.hid (below1 w (.cells #[.slice (some ⟨g, 0, none⟩) n n] 31))
  clear h hh hhs
  generalize 3 * fxsW fs = T at *
  go_enter Tryz.func11, Tryz.ntmps11
  go_wp2_with (fail)
  go_at_call 26
  refine (HK.out _ HB1.out).mono ?_
  rintro e w1 ⟨k', rfl, h1, h2, hm⟩
  have HM := Lib.hid ((MidB.of_below HB1.out).trans hm)
  clear hm
  go_wp2_with (fail)
  go_ret
  exact ⟨k', rfl, h1, h2, HM.out⟩
end Go.Proofs.YtpnliencahnmoaaGreatDoor

set_option linter.unusedVariables false
set_option linter.unusedSimpArgs false
set_option maxRecDepth 100000
namespace Go.Proofs.YtpnliencahnmoaaGreatDoor
open Go.RowKit
def SzP (r : Int) (w : World) (e : Ending) (w' : World) : Prop := e = .returned (.int .i64 r) ∧ Below w.heap.size w w'
theorem szR_neg {left : Int} {n : Nat} (h : left < (n : Int)) : szR left n = -1 := if_pos h
theorem szR_pos {left : Int} {n : Nat} (h : ¬ left < (n : Int)) : szR left n = left - n := if_neg h
set_option maxHeartbeats 1000000 in
theorem szStrs_any (w : World) (v : Value) (ss : List ByteArray) (left : Int) (h : StrsAt w v ss) (h0 : 0 ≤ left) (h1 : left ≤ 1048576) :
    Calls Tryz.prog 78 #[v, .int .i64 left] w (SzP (szR left (strsW ss)) w) := by
  obtain ⟨a, cap, rfl, hm, hc⟩ := h
  obtain ⟨n, hl⟩ : ∃ n, n = ss.length := ⟨_, rfl⟩
  obtain ⟨R, hR⟩ : ∃ R, R = szR left (strsW ss) := ⟨_, rfl⟩
  rw [← hl] at hm ⊢
  rw [← hR]
  unfold big at hm
  have Hc := Lib.hid hc; have Hl := Lib.hid hl; have HR := Lib.hid hR
  have HW : Hid (strsW ss = n + (ss.map ByteArray.size).sum) := Lib.hid (by rw [hl]; rfl)
  clear hc hl hR
  by_cases hbig : left < n
  · have hre : R = -1 := by rw [HR.out, szR_neg]; rw [HW.out]; omega
    subst hre
    go_enter Tryz.func78, Tryz.ntmps78
    go_wp2
    go_ret
    exact ⟨rfl, Below.refl _ _⟩
  go_enter Tryz.func78, Tryz.ntmps78
  go_wp2
  go_loopw [1, 5] (fun l i wr => ∃ (k : Nat) (q : Int), k ≤ n ∧ i = .int .i64 k ∧ l = .int .i64 q ∧ 0 ≤ q ∧ q ≤ 1048576 ∧ Hid ((n : Int) + ((ss.take k).map ByteArray.size).sum + q = left) ∧ Below w.heap.size w wr) (fun _ i _ => n - (intOf i).toNat)
  case atStart => exact ⟨0, left - n, Nat.zero_le _, rfl, rfl, by omega, by omega, Lib.hid (by simp; omega), Below.refl _ _⟩
  case round =>
    obtain ⟨k, q, hk, rfl, rfl, hq0, hq1, hs, hB⟩ := hrel
    obtain ⟨wo, rfl⟩ : ∃ wo : World, wo = wr := ⟨_, rfl⟩
    have HB := Lib.hid hB
    by_cases hlt : k < n
    · have hkl : k < ss.length := by rw [← Hl.out]; exact hlt
      obtain ⟨x, hx⟩ : ∃ x, x = ss[k] := ⟨_, rfl⟩
      have hxk : ss[k]? = some x := by rw [hx]; exact List.getElem?_eq_getElem hkl
      obtain ⟨hz, b, off, rfl, c0⟩ := Hc.out k x hxk
      have hbl : b < w.heap.size := World.block_lt_of_cell? w ⟨b, off + k, none⟩ c0
      rw [← hB.cell (p := ⟨b, off + k, none⟩) hbl] at c0
      have HT := Lib.hid (sum_take_succ ByteArray.size ss k x hxk)
      have HL := Lib.hid (sum_take_le ByteArray.size ss (k + 1))
      unfold big at hz
      have k0 : (0 : Int) ≤ k := by omega
      have k1 : (k : Int) < n := by omega
      clear hB hx hxk
      by_cases hlq : q < (x.size : Int)
      · have hre : R = -1 := by
          rw [HR.out, szR_neg]
          rw [HW.out]; have := hs.out; have := HT.out; have := HL.out; omega
        subst hre
        go_wp2_with (fail)
        go_ret
        exact ⟨rfl, HB.out⟩
      · go_wp2_with (fail)
        go_roundw
        case rel => exact ⟨k + 1, q - x.size, by omega, by go_num, rfl, by omega, by omega, Lib.hid (by have := hs.out; have := HT.out; omega), HB.out⟩
        case measure => simp [intOf]; omega
    · obtain rfl : k = n := by omega
      have hre : R = q := by
        have h2 := hs.out
        rw [List.take_of_length_le (by rw [← Hl.out]; exact Nat.le_refl _)] at h2
        rw [HR.out, szR_pos]
        · rw [HW.out]; omega
        · rw [HW.out]; omega
      subst hre
      clear hB
      go_wp2_with (fail)
      go_ret
      exact ⟨rfl, HB.out⟩
/-- szExpr, its kids' row being reckoned -/
theorem szEx_of (w : World) (e : Ex) (kv : Value) (left : Int) (h0 : 0 ≤ left) (h1 : left ≤ 1048576) (hz : e.name.size ≤ big)
    (hk : ∀ w' l, Below w.heap.size w w' → 0 ≤ l → l ≤ 1048576 → Calls Tryz.prog 148 #[kv, .int .i64 l] w' (SzP (szR l (exsW e.kids)) w')) :
    Calls Tryz.prog 186 #[.agg #[.int .i64 e.op, .int .i64 e.n, .string e.name, kv], .int .i64 left] w (SzP (szR left (exW e)) w) := by
  have HK := Lib.hid hk
  obtain ⟨R, hR⟩ : ∃ R, R = szR left (exW e) := ⟨_, rfl⟩
  rw [← hR]
  have HR := Lib.hid hR
  have HW := Lib.hid (exW_eq e)
  generalize e.op = op at *
  generalize e.n = en at *
  obtain ⟨nm, hnm⟩ : ∃ nm, nm = e.name := ⟨_, rfl⟩
  rw [← hnm] at HW hz ⊢
  unfold big at hz
  clear hk hR hnm
  by_cases hlq : left < (nm.size : Int)
  · have hre : R = -1 := by rw [HR.out, szR_neg]; rw [HW.out]; omega
    subst hre
    go_enter Tryz.func186, Tryz.ntmps186
    go_wp2_with (fail)
    go_ret
    exact ⟨rfl, below1 _ _⟩
  · have HS := Lib.hid (fun w' hb => HK.out w' (left - nm.size) hb (by omega) (by omega))
    have hre : R = szR (left - nm.size) (exsW e.kids) := by rw [HR.out, HW.out, szR_add hlq]
    rw [← hre] at HS
    have hr : R = -1 ∨ 0 ≤ R := by rw [hre]; unfold szR; split <;> omega
    clear hre HK HR HW
    go_enter Tryz.func186, Tryz.ntmps186
    go_wp2_with (fail)
    go_at_call 148
    refine (HS.out _ (below1 _ _)).mono ?_
    rintro e w2 ⟨rfl, hb⟩
    have HB := Lib.hid ((below1 w _).trans (hb.mono (by simp)))
    clear hb HS
    rcases hr with rfl | hr
    · go_wp2_with (fail)
      go_ret
      exact ⟨rfl, HB.out⟩
    · go_wp2_with (fail)
      go_ret
      exact ⟨rfl, HB.out⟩
set_option maxHeartbeats 2000000 in
theorem szExs_any {w0 : World} {v : Value} {es : List Ex} (h : ExsAt w0 v es) : ∀ (w : World) (left : Int), Below w0.heap.size w0 w → 0 ≤ left → left ≤ 1048576 → Calls Tryz.prog 148 #[v, .int .i64 left] w (SzP (szR left (exsW es)) w) := by
  induction h with
  | mk a n cap es vals hn hm hs hc hk ih =>
    intro w left hb0 h0 h1
    obtain ⟨R, hR⟩ : ∃ R, R = szR left (exsW es) := ⟨_, rfl⟩
    rw [← hR]
    rw [← hn] at hm
    unfold big at hm
    have Hc := Lib.hid hc; have Hl := Lib.hid hn; have HR := Lib.hid hR; have IH := Lib.hid (fun i e hi => ih i e hi); have HS0 := Lib.hid hs; have HB0 := Lib.hid hb0
    have HW : Hid (exsW es = n + (es.map exW).sum) := Lib.hid (by rw [hn]; exact exsW_sum es)
    clear hc hn hR hk ih hs hb0
    by_cases hbig : left < n
    · have hre : R = -1 := by rw [HR.out, szR_neg]; rw [HW.out]; omega
      subst hre
      go_enter Tryz.func148, Tryz.ntmps148
      go_wp2
      go_ret
      exact ⟨rfl, Below.refl _ _⟩
    go_enter Tryz.func148, Tryz.ntmps148
    go_wp2
    go_loopw [1, 5] (fun l i wr => ∃ (k : Nat) (q : Int), k ≤ n ∧ i = .int .i64 k ∧ l = .int .i64 q ∧ 0 ≤ q ∧ q ≤ 1048576 ∧ Hid ((n : Int) + ((es.take k).map exW).sum + q = left) ∧ Below w.heap.size w wr) (fun _ i _ => n - (intOf i).toNat)
    case atStart => exact ⟨0, left - n, Nat.zero_le _, rfl, rfl, by omega, by omega, Lib.hid (by simp; omega), Below.refl _ _⟩
    case round =>
      obtain ⟨k, q, hk, rfl, rfl, hq0, hq1, hs, hB⟩ := hrel
      obtain ⟨wo, rfl⟩ : ∃ wo : World, wo = wr := ⟨_, rfl⟩
      have HB := Lib.hid hB
      by_cases hlt : k < n
      · have hkl : k < es.length := by rw [← Hl.out]; exact hlt
        obtain ⟨x, hx⟩ : ∃ x, x = es[k] := ⟨_, rfl⟩
        have hxk : es[k]? = some x := by rw [hx]; exact List.getElem?_eq_getElem hkl
        obtain ⟨b, off, rfl, c0, c1, c2, c3⟩ := Hc.out k x hxk
        have hb1 := HB0.out.trans (hB.mono HB0.out.size)
        have c0 := cellB hb1 c0
        have c1 := cellB hb1 c1
        have c2 := cellB hb1 c2
        have c3 := cellB hb1 c3
        have HT := Lib.hid (sum_take_succ exW es k x hxk)
        have HL := Lib.hid (sum_take_le exW es (k + 1))
        have HE := Lib.hid (szEx_of wo x (vals k) q hq0 hq1 (HS0.out k x hxk) (fun w2 l hb h0 h1 => IH.out k x hxk w2 l (hb1.trans (hb.mono hb1.size)) h0 h1))
        obtain ⟨r, hr⟩ : ∃ r, r = szR q (exW x) := ⟨_, rfl⟩
        rw [← hr] at HE
        have HRr := Lib.hid hr
        generalize hvk : vals k = vk at *
        clear hvk
        have k0 : (0 : Int) ≤ k := by omega
        have k1 : (k : Int) < n := by omega
        clear hB hx hxk hr hb1
        by_cases hlq : q < (exW x : Int)
        · have hre : R = -1 := by
            rw [HR.out, szR_neg]
            rw [HW.out]; have := hs.out; have := HT.out; have := HL.out; omega
          have hre2 : r = -1 := by rw [HRr.out, szR_neg hlq]
          subst hre hre2
          go_wp2_with (fail)
          go_at_call 186
          refine HE.out.mono ?_
          rintro e w2 ⟨rfl, hb⟩
          have HB2 := Lib.hid (HB.out.trans (hb.mono HB.out.size))
          clear hb HE
          go_wp2_with (fail)
          go_ret
          exact ⟨rfl, HB2.out⟩
        · have hre2 : r = q - exW x := by rw [HRr.out, szR_pos hlq]
          have hr0 : 0 ≤ r := by omega
          have HR2 := Lib.hid hre2
          clear hre2
          go_wp2_with (fail)
          go_at_call 186
          refine HE.out.mono ?_
          rintro e w2 ⟨rfl, hb⟩
          have HB2 := Lib.hid (HB.out.trans (hb.mono HB.out.size))
          clear hb HE
          go_wp2_with (fail)
          go_roundw
          case rel => exact ⟨k + 1, r, by omega, by go_num, rfl, hr0, by have := HR2.out; omega, Lib.hid (by have := hs.out; have := HT.out; have := HR2.out; omega), HB2.out⟩
          case measure => simp [intOf]; omega
      · obtain rfl : k = n := by omega
        have hre : R = q := by
          have h2 := hs.out
          rw [List.take_of_length_le (by rw [← Hl.out]; exact Nat.le_refl _)] at h2
          rw [HR.out, szR_pos]
          · rw [HW.out]; omega
          · rw [HW.out]; omega
        subst hre
        clear hB
        go_wp2_with (fail)
        go_ret
        exact ⟨rfl, HB.out⟩
/-- szStmt, its rows being reckoned -/
theorem szSt_of (w : World) (x : St) (av bv ev : Value) (left : Int) (h0 : 0 ≤ left) (h1 : left ≤ 1048576) (hz : x.name.size ≤ big)
    (ha : ∀ w' l, Below w.heap.size w w' → 0 ≤ l → l ≤ 1048576 → Calls Tryz.prog 148 #[av, .int .i64 l] w' (SzP (szR l (exsW x.args)) w'))
    (hb : ∀ w' l, Below w.heap.size w w' → 0 ≤ l → l ≤ 1048576 → Calls Tryz.prog 79 #[bv, .int .i64 l] w' (SzP (szR l (stsW x.body)) w'))
    (he : ∀ w' l, Below w.heap.size w w' → 0 ≤ l → l ≤ 1048576 → Calls Tryz.prog 79 #[ev, .int .i64 l] w' (SzP (szR l (stsW x.els)) w')) :
    Calls Tryz.prog 118 #[.agg #[.int .i64 x.op, .string x.name, av, bv, ev], .int .i64 left] w (SzP (szR left (stW x)) w) := by
  obtain ⟨R, hR⟩ : ∃ R, R = szR left (stW x) := ⟨_, rfl⟩
  rw [← hR]
  have HR := Lib.hid hR
  have HW := Lib.hid (stW_eq x)
  have HA := Lib.hid ha; have HBB := Lib.hid hb; have HEE := Lib.hid he
  generalize x.op = op at *
  obtain ⟨nm, hnm⟩ : ∃ nm, nm = x.name := ⟨_, rfl⟩
  rw [← hnm] at HW hz ⊢
  unfold big at hz
  generalize exsW x.args = wa at *
  generalize stsW x.body = wb at *
  generalize stsW x.els = we at *
  clear hR hnm ha hb he
  by_cases hlq : left < (nm.size : Int)
  · have hre : R = -1 := by rw [HR.out, szR_neg]; rw [HW.out]; omega
    subst hre
    go_enter Tryz.func118, Tryz.ntmps118
    go_wp2_with (fail)
    go_ret
    exact ⟨rfl, below1 _ _⟩
  obtain ⟨l1, hl1⟩ : ∃ l1, l1 = left - (nm.size : Int) := ⟨_, rfl⟩
  obtain ⟨r1, hr1⟩ : ∃ r1, r1 = szR l1 wa := ⟨_, rfl⟩
  have HS := Lib.hid (fun w' hb => HA.out w' l1 hb (by omega) (by omega))
  rw [← hr1] at HS
  by_cases hq1 : l1 < (wa : Int)
  · have hre1 : r1 = -1 := by rw [hr1, szR_neg hq1]
    have hre : R = -1 := by rw [HR.out, szR_neg]; rw [HW.out]; omega
    subst hre hre1 hl1
    clear hr1
    go_enter Tryz.func118, Tryz.ntmps118
    go_wp2_with (fail)
    go_at_call 148
    refine (HS.out _ (below1 _ _)).mono ?_
    rintro e w2 ⟨rfl, hb⟩
    have HB := Lib.hid ((below1 w _).trans (hb.mono (by simp)))
    clear hb HS
    go_wp2_with (fail)
    go_ret
    exact ⟨rfl, HB.out⟩
  have hre1 : r1 = l1 - wa := by rw [hr1, szR_pos hq1]
  have hr10 : 0 ≤ r1 := by omega
  have hr11 : r1 ≤ 1048576 := by omega
  obtain ⟨r2, hr2⟩ : ∃ r2, r2 = szR r1 wb := ⟨_, rfl⟩
  have HS2 := Lib.hid (fun w' hb => HBB.out w' r1 hb hr10 hr11)
  rw [← hr2] at HS2
  by_cases hq2 : r1 < (wb : Int)
  · have hre2 : r2 = -1 := by rw [hr2, szR_neg hq2]
    have hre : R = -1 := by rw [HR.out, szR_neg]; rw [HW.out]; omega
    subst hre hre2 hl1
    clear hr1 hr2 hre1
    go_enter Tryz.func118, Tryz.ntmps118
    go_wp2_with (fail)
    go_at_call 148
    refine (HS.out _ (below1 _ _)).mono ?_
    rintro e w2 ⟨rfl, hb⟩
    have hbx := below1 w (.cells #[.int .i64 op, .string nm, av, bv, ev] 160)
    have c3 : w2.cell? ⟨w.heap.size, 3, none⟩ = some bv := by rw [hb.cell (p := ⟨w.heap.size, 3, none⟩) (by simp)]; simp [go_sem]
    have HB := Lib.hid (hbx.trans (hb.mono (by simp)))
    clear hb HS hbx
    go_wp2_with (fail)
    go_at_call 79
    refine (HS2.out _ HB.out).mono ?_
    rintro e w3 ⟨rfl, hb⟩
    have HB3 := Lib.hid (HB.out.trans (hb.mono HB.out.size))
    clear hb HS2 c3
    go_wp2_with (fail)
    go_ret
    exact ⟨rfl, HB3.out⟩
  have hre2 : r2 = r1 - wb := by rw [hr2, szR_pos hq2]
  have hr20 : 0 ≤ r2 := by omega
  have hr21 : r2 ≤ 1048576 := by omega
  have HS3 := Lib.hid (fun w' hb => HEE.out w' r2 hb hr20 hr21)
  have hre3 : szR r2 we = R := by
    rw [HR.out, HW.out]
    unfold szR
    by_cases c : r2 < (we : Int)
    · rw [if_pos c, if_pos (by omega)]
    · rw [if_neg c, if_neg (by omega)]; omega
  rw [hre3] at HS3
  have hr : R = -1 ∨ 0 ≤ R := by rw [← hre3]; unfold szR; split <;> omega
  subst hl1
  clear hr1 hr2 hre1 hre2 hre3 HR HW
  go_enter Tryz.func118, Tryz.ntmps118
  go_wp2_with (fail)
  go_at_call 148
  refine (HS.out _ (below1 _ _)).mono ?_
  rintro e w2 ⟨rfl, hb⟩
  have hbx := below1 w (.cells #[.int .i64 op, .string nm, av, bv, ev] 160)
  have c3 : w2.cell? ⟨w.heap.size, 3, none⟩ = some bv := by rw [hb.cell (p := ⟨w.heap.size, 3, none⟩) (by simp)]; simp [go_sem]
  have c4 : w2.cell? ⟨w.heap.size, 4, none⟩ = some ev := by rw [hb.cell (p := ⟨w.heap.size, 4, none⟩) (by simp)]; simp [go_sem]
  have HB := Lib.hid (hbx.trans (hb.mono (by simp)))
  have hl2 : w.heap.size < w2.heap.size := by have := hb.size; simp at this; omega
  clear hb HS hbx
  go_wp2_with (fail)
  go_at_call 79
  refine (HS2.out _ HB.out).mono ?_
  rintro e w3 ⟨rfl, hb⟩
  have c4' := cellB hb c4
  have HB3 := Lib.hid (HB.out.trans (hb.mono HB.out.size))
  clear hb HS2 c3 c4
  go_wp2_with (fail)
  go_at_call 79
  refine (HS3.out _ HB3.out).mono ?_
  rintro e w4 ⟨rfl, hb⟩
  have HB4 := Lib.hid (HB3.out.trans (hb.mono HB3.out.size))
  clear hb HS3 c4'
  rcases hr with rfl | hr
  · go_wp2_with (fail)
    go_ret
    exact ⟨rfl, HB4.out⟩
  · go_wp2_with (fail)
    go_ret
    exact ⟨rfl, HB4.out⟩
set_option maxHeartbeats 2000000 in
theorem szSts_any {w0 : World} {v : Value} {es : List St} (h : StsAt w0 v es) : ∀ (w : World) (left : Int), Below w0.heap.size w0 w → 0 ≤ left → left ≤ 1048576 → Calls Tryz.prog 79 #[v, .int .i64 left] w (SzP (szR left (stsW es)) w) := by
  induction h with
  | mk a n cap es av bv ev hn hm hs hc ha hbb hee ihb ihe =>
    intro w left hb0 h0 h1
    obtain ⟨R, hR⟩ : ∃ R, R = szR left (stsW es) := ⟨_, rfl⟩
    rw [← hR]
    rw [← hn] at hm
    unfold big at hm
    have Hc := Lib.hid hc; have Hl := Lib.hid hn; have HR := Lib.hid hR; have IH := Lib.hid (And.intro ha (And.intro (fun i e hi => ihb i e hi) (fun i e hi => ihe i e hi))); have HS0 := Lib.hid hs; have HB0 := Lib.hid hb0
    have HW : Hid (stsW es = n + (es.map stW).sum) := Lib.hid (by rw [hn]; exact stsW_sum es)
    clear hc hn hR ha hbb hee ihb ihe hs hb0
    by_cases hbig : left < n
    · have hre : R = -1 := by rw [HR.out, szR_neg]; rw [HW.out]; omega
      subst hre
      go_enter Tryz.func79, Tryz.ntmps79
      go_wp2
      go_ret
      exact ⟨rfl, Below.refl _ _⟩
    go_enter Tryz.func79, Tryz.ntmps79
    go_wp2
    go_loopw [1, 5] (fun l i wr => ∃ (k : Nat) (q : Int), k ≤ n ∧ i = .int .i64 k ∧ l = .int .i64 q ∧ 0 ≤ q ∧ q ≤ 1048576 ∧ Hid ((n : Int) + ((es.take k).map stW).sum + q = left) ∧ Below w.heap.size w wr) (fun _ i _ => n - (intOf i).toNat)
    case atStart => exact ⟨0, left - n, Nat.zero_le _, rfl, rfl, by omega, by omega, Lib.hid (by simp; omega), Below.refl _ _⟩
    case round =>
      obtain ⟨k, q, hk, rfl, rfl, hq0, hq1, hs, hB⟩ := hrel
      obtain ⟨wo, rfl⟩ : ∃ wo : World, wo = wr := ⟨_, rfl⟩
      have HB := Lib.hid hB
      by_cases hlt : k < n
      · have hkl : k < es.length := by rw [← Hl.out]; exact hlt
        obtain ⟨x, hx⟩ : ∃ x, x = es[k] := ⟨_, rfl⟩
        have hxk : es[k]? = some x := by rw [hx]; exact List.getElem?_eq_getElem hkl
        obtain ⟨b, off, rfl, c0, c1, c2, c3, c4⟩ := Hc.out k x hxk
        have hb1 := HB0.out.trans (hB.mono HB0.out.size)
        have c0 := cellB hb1 c0
        have c1 := cellB hb1 c1
        have c2 := cellB hb1 c2
        have c3 := cellB hb1 c3
        have c4 := cellB hb1 c4
        have HT := Lib.hid (sum_take_succ stW es k x hxk)
        have HL := Lib.hid (sum_take_le stW es (k + 1))
        have HE := Lib.hid (szSt_of wo x (av k) (bv k) (ev k) q hq0 hq1 (HS0.out k x hxk) (fun w2 l hb h0 h1 => szExs_any (IH.out.1 k x hxk) w2 l (hb1.trans (hb.mono hb1.size)) h0 h1) (fun w2 l hb h0 h1 => IH.out.2.1 k x hxk w2 l (hb1.trans (hb.mono hb1.size)) h0 h1) (fun w2 l hb h0 h1 => IH.out.2.2 k x hxk w2 l (hb1.trans (hb.mono hb1.size)) h0 h1))
        obtain ⟨r, hr⟩ : ∃ r, r = szR q (stW x) := ⟨_, rfl⟩
        rw [← hr] at HE
        have HRr := Lib.hid hr
        generalize av k = avk at *
        generalize bv k = bvk at *
        generalize ev k = evk at *
        have k0 : (0 : Int) ≤ k := by omega
        have k1 : (k : Int) < n := by omega
        clear hB hx hxk hr hb1
        by_cases hlq : q < (stW x : Int)
        · have hre : R = -1 := by
            rw [HR.out, szR_neg]
            rw [HW.out]; have := hs.out; have := HT.out; have := HL.out; omega
          have hre2 : r = -1 := by rw [HRr.out, szR_neg hlq]
          subst hre hre2
          go_wp2_with (fail)
          go_at_call 118
          refine HE.out.mono ?_
          rintro e w2 ⟨rfl, hb⟩
          have HB2 := Lib.hid (HB.out.trans (hb.mono HB.out.size))
          clear hb HE
          go_wp2_with (fail)
          go_ret
          exact ⟨rfl, HB2.out⟩
        · have hre2 : r = q - stW x := by rw [HRr.out, szR_pos hlq]
          have hr0 : 0 ≤ r := by omega
          have HR2 := Lib.hid hre2
          clear hre2
          go_wp2_with (fail)
          go_at_call 118
          refine HE.out.mono ?_
          rintro e w2 ⟨rfl, hb⟩
          have HB2 := Lib.hid (HB.out.trans (hb.mono HB.out.size))
          clear hb HE
          go_wp2_with (fail)
          go_roundw
          case rel => exact ⟨k + 1, r, by omega, by go_num, rfl, hr0, by have := HR2.out; omega, Lib.hid (by have := hs.out; have := HT.out; have := HR2.out; omega), HB2.out⟩
          case measure => simp [intOf]; omega
      · obtain rfl : k = n := by omega
        have hre : R = q := by
          have h2 := hs.out
          rw [List.take_of_length_le (by rw [← Hl.out]; exact Nat.le_refl _)] at h2
          rw [HR.out, szR_pos]
          · rw [HW.out]; omega
          · rw [HW.out]; omega
        subst hre
        clear hB
        go_wp2_with (fail)
        go_ret
        exact ⟨rfl, HB.out⟩
/-- szFn, its rows being reckoned -/
theorem szFx_of (w : World) (f : Fx) (pv bv : Value) (left : Int) (h0 : 0 ≤ left) (h1 : left ≤ 1048576) (hz : f.name.size ≤ big) (hp : StrsAt w pv f.params) (hb : StsAt w bv f.body) :
    Calls Tryz.prog 42 #[.agg #[.string f.name, pv, bv], .int .i64 left] w (SzP (szR left (fxW f)) w) := by
  obtain ⟨R, hR⟩ : ∃ R, R = szR left (fxW f) := ⟨_, rfl⟩
  rw [← hR]
  have HR := Lib.hid hR
  have HW : Hid (fxW f = f.name.size + strsW f.params + stsW f.body) := Lib.hid rfl
  have HA := Lib.hid (fun w' l (hb : Below w.heap.size w w') (h0 : (0 : Int) ≤ l) (h1 : l ≤ 1048576) => szStrs_any w' pv f.params l (hp.below hb) h0 h1)
  have HBB := Lib.hid (fun w' l (hb2 : Below w.heap.size w w') (h0 : (0 : Int) ≤ l) (h1 : l ≤ 1048576) => szSts_any hb w' l hb2 h0 h1)
  obtain ⟨nm, hnm⟩ : ∃ nm, nm = f.name := ⟨_, rfl⟩
  rw [← hnm] at HW hz ⊢
  unfold big at hz
  generalize strsW f.params = wa at *
  generalize stsW f.body = wb at *
  clear hR hnm hp hb
  by_cases hlq : left < (nm.size : Int)
  · have hre : R = -1 := by rw [HR.out, szR_neg]; rw [HW.out]; omega
    subst hre
    go_enter Tryz.func42, Tryz.ntmps42
    go_wp2_with (fail)
    go_ret
    exact ⟨rfl, below1 _ _⟩
  obtain ⟨l1, hl1⟩ : ∃ l1, l1 = left - (nm.size : Int) := ⟨_, rfl⟩
  obtain ⟨r1, hr1⟩ : ∃ r1, r1 = szR l1 wa := ⟨_, rfl⟩
  have HS := Lib.hid (fun w' hb => HA.out w' l1 hb (by omega) (by omega))
  rw [← hr1] at HS
  by_cases hq1 : l1 < (wa : Int)
  · have hre1 : r1 = -1 := by rw [hr1, szR_neg hq1]
    have hre : R = -1 := by rw [HR.out, szR_neg]; rw [HW.out]; omega
    subst hre hre1 hl1
    clear hr1
    go_enter Tryz.func42, Tryz.ntmps42
    go_wp2_with (fail)
    go_at_call 78
    refine (HS.out _ (below1 _ _)).mono ?_
    rintro e w2 ⟨rfl, hb⟩
    have HB := Lib.hid ((below1 w _).trans (hb.mono (by simp)))
    clear hb HS
    go_wp2_with (fail)
    go_ret
    exact ⟨rfl, HB.out⟩
  have hre1 : r1 = l1 - wa := by rw [hr1, szR_pos hq1]
  have hr10 : 0 ≤ r1 := by omega
  have hr11 : r1 ≤ 1048576 := by omega
  have HS2 := Lib.hid (fun w' hb => HBB.out w' r1 hb hr10 hr11)
  have hre3 : szR r1 wb = R := by
    rw [HR.out, HW.out]
    unfold szR
    by_cases c : r1 < (wb : Int)
    · rw [if_pos c, if_pos (by omega)]
    · rw [if_neg c, if_neg (by omega)]; omega
  rw [hre3] at HS2
  have hr : R = -1 ∨ 0 ≤ R := by rw [← hre3]; unfold szR; split <;> omega
  subst hl1
  clear hr1 hre1 hre3 HR HW
  go_enter Tryz.func42, Tryz.ntmps42
  go_wp2_with (fail)
  go_at_call 78
  refine (HS.out _ (below1 _ _)).mono ?_
  rintro e w2 ⟨rfl, hb⟩
  have hbx := below1 w (.cells #[.string nm, pv, bv] 79)
  have c2 : w2.cell? ⟨w.heap.size, 2, none⟩ = some bv := by rw [hb.cell (p := ⟨w.heap.size, 2, none⟩) (by simp)]; simp [go_sem]
  have HB := Lib.hid (hbx.trans (hb.mono (by simp)))
  clear hb HS hbx
  go_wp2_with (fail)
  go_at_call 79
  refine (HS2.out _ HB.out).mono ?_
  rintro e w3 ⟨rfl, hb⟩
  have HB3 := Lib.hid (HB.out.trans (hb.mono HB.out.size))
  clear hb HS2 c2
  rcases hr with rfl | hr
  · go_wp2_with (fail)
    go_ret
    exact ⟨rfl, HB3.out⟩
  · go_wp2_with (fail)
    go_ret
    exact ⟨rfl, HB3.out⟩
theorem fxsW_sum (fs : List Fx) : fxsW fs = fs.length + (fs.map fxW).sum := rfl
set_option maxHeartbeats 2000000 in
theorem szFxs_any {w0 : World} {v : Value} {es : List Fx} (h : FxsAt w0 v es) : ∀ (w : World) (left : Int), Below w0.heap.size w0 w → 0 ≤ left → left ≤ 1048576 → Calls Tryz.prog 19 #[v, .int .i64 left] w (SzP (szR left (fxsW es)) w) := by
  intro w left hb0 h0 h1
  obtain ⟨a, cap, rfl, hm, hc⟩ := h
  obtain ⟨n, hn⟩ : ∃ n, n = es.length := ⟨_, rfl⟩
  rw [← hn]
  obtain ⟨R, hR⟩ : ∃ R, R = szR left (fxsW es) := ⟨_, rfl⟩
  rw [← hR]
  rw [← hn] at hm
  unfold big at hm
  have Hc := Lib.hid hc; have Hl := Lib.hid hn; have HR := Lib.hid hR; have HB0 := Lib.hid hb0
  have HW : Hid (fxsW es = n + (es.map fxW).sum) := Lib.hid (by rw [hn]; exact fxsW_sum es)
  clear hc hn hR hb0
  by_cases hbig : left < n
  · have hre : R = -1 := by rw [HR.out, szR_neg]; rw [HW.out]; omega
    subst hre
    go_enter Tryz.func19, Tryz.ntmps19
    go_wp2
    go_ret
    exact ⟨rfl, Below.refl _ _⟩
  go_enter Tryz.func19, Tryz.ntmps19
  go_wp2
  go_loopw [1, 5] (fun l i wr => ∃ (k : Nat) (q : Int), k ≤ n ∧ i = .int .i64 k ∧ l = .int .i64 q ∧ 0 ≤ q ∧ q ≤ 1048576 ∧ Hid ((n : Int) + ((es.take k).map fxW).sum + q = left) ∧ Below w.heap.size w wr) (fun _ i _ => n - (intOf i).toNat)
  case atStart => exact ⟨0, left - n, Nat.zero_le _, rfl, rfl, by omega, by omega, Lib.hid (by simp; omega), Below.refl _ _⟩
  case round =>
    obtain ⟨k, q, hk, rfl, rfl, hq0, hq1, hs, hB⟩ := hrel
    obtain ⟨wo, rfl⟩ : ∃ wo : World, wo = wr := ⟨_, rfl⟩
    have HB := Lib.hid hB
    by_cases hlt : k < n
    · have hkl : k < es.length := by rw [← Hl.out]; exact hlt
      obtain ⟨x, hx⟩ : ∃ x, x = es[k] := ⟨_, rfl⟩
      have hxk : es[k]? = some x := by rw [hx]; exact List.getElem?_eq_getElem hkl
      obtain ⟨hz, b, off, pv, bv, rfl, c0, c1, c2, h1x, h2x⟩ := Hc.out k x hxk
      have hb1 := HB0.out.trans (hB.mono HB0.out.size)
      have c0 := cellB hb1 c0
      have c1 := cellB hb1 c1
      have c2 := cellB hb1 c2
      have HT := Lib.hid (sum_take_succ fxW es k x hxk)
      have HL := Lib.hid (sum_take_le fxW es (k + 1))
      have HE := Lib.hid (szFx_of wo x pv bv q hq0 hq1 hz (h1x.below hb1) (h2x.dn hb1))
      obtain ⟨r, hr⟩ : ∃ r, r = szR q (fxW x) := ⟨_, rfl⟩
      rw [← hr] at HE
      have HRr := Lib.hid hr

      have k0 : (0 : Int) ≤ k := by omega
      have k1 : (k : Int) < n := by omega
      clear hB hx hxk hr hb1
      by_cases hlq : q < (fxW x : Int)
      · have hre : R = -1 := by
          rw [HR.out, szR_neg]
          rw [HW.out]; have := hs.out; have := HT.out; have := HL.out; omega
        have hre2 : r = -1 := by rw [HRr.out, szR_neg hlq]
        subst hre hre2
        go_wp2_with (fail)
        go_at_call 42
        refine HE.out.mono ?_
        rintro e w2 ⟨rfl, hb⟩
        have HB2 := Lib.hid (HB.out.trans (hb.mono HB.out.size))
        clear hb HE
        go_wp2_with (fail)
        go_ret
        exact ⟨rfl, HB2.out⟩
      · have hre2 : r = q - fxW x := by rw [HRr.out, szR_pos hlq]
        have hr0 : 0 ≤ r := by omega
        have HR2 := Lib.hid hre2
        clear hre2
        go_wp2_with (fail)
        go_at_call 42
        refine HE.out.mono ?_
        rintro e w2 ⟨rfl, hb⟩
        have HB2 := Lib.hid (HB.out.trans (hb.mono HB.out.size))
        clear hb HE
        go_wp2_with (fail)
        go_roundw
        case rel => exact ⟨k + 1, r, by omega, by go_num, rfl, hr0, by have := HR2.out; omega, Lib.hid (by have := hs.out; have := HT.out; have := HR2.out; omega), HB2.out⟩
        case measure => simp [intOf]; omega
    · obtain rfl : k = n := by omega
      have hre : R = q := by
        have h2 := hs.out
        rw [List.take_of_length_le (by rw [← Hl.out]; exact Nat.le_refl _)] at h2
        rw [HR.out, szR_pos]
        · rw [HW.out]; omega
        · rw [HW.out]; omega
      subst hre
      clear hB
      go_wp2_with (fail)
      go_ret
      exact ⟨rfl, HB.out⟩
theorem szProgram_any (w : World) (v : Value) (fs : List Fx) (left : Int) (h : FxsAt w v fs) (h0 : 0 ≤ left) (h1 : left ≤ 1048576) :
    Calls Tryz.prog 5 #[.agg #[v], .int .i64 left] w (SzP (szR left (fxsW fs)) w) := by
  have HS := Lib.hid (fun w' (hb : Below w.heap.size w w') => szFxs_any h w' left hb h0 h1)
  obtain ⟨R, hR⟩ : ∃ R, R = szR left (fxsW fs) := ⟨_, rfl⟩
  rw [← hR] at HS ⊢
  have hr : R = -1 ∨ 0 ≤ R := by rw [hR]; unfold szR; split <;> omega
  obtain ⟨a, cap, rfl, _⟩ := h
  obtain ⟨n, hn⟩ : ∃ n, n = fs.length := ⟨_, rfl⟩
  rw [← hn] at HS ⊢
  clear hR hn
  go_enter Tryz.func5, Tryz.ntmps5
  go_wp2_with (fail)
  go_at_call 19
  refine (HS.out _ (below1 _ _)).mono ?_
  rintro e w2 ⟨rfl, hb⟩
  have HB := Lib.hid ((below1 w _).trans (hb.mono (by simp)))
  clear hb HS
  rcases hr with rfl | hr
  · go_wp2_with (fail)
    go_ret
    exact ⟨rfl, HB.out⟩
  · go_wp2_with (fail)
    go_ret
    exact ⟨rfl, HB.out⟩
end Go.Proofs.YtpnliencahnmoaaGreatDoor

set_option linter.unusedVariables false
set_option linter.unusedSimpArgs false
set_option maxRecDepth 100000
namespace Go.Proofs.YtpnliencahnmoaaGreatDoor
open Go.RowKit
def iota (k n : Nat) : List Int := (List.range n).map fun i => ((k + i : Nat) : Int)
theorem iota_length (k n : Nat) : (iota k n).length = n := by simp [iota]
theorem iota_at (k n i : Nat) (h : i < n) : (iota k n).getD i 0 = ((k + i : Nat) : Int) := by
  simp [iota, List.getD_eq_getElem?_getD, h]
def MarkPost (B : Nat) (v : Value) (n k : Nat) (w : World) (e : Ending) (w' : World) : Prop :=
  e = .returned (.int .i64 ((k + n : Nat) : Int)) ∧ w'.ownsRow B 3 1 v n (ints (iota k n)) ∧ Below B w w'
set_option maxHeartbeats 1000000 in
theorem markIntS_any (w : World) (B : Nat) (v : Value) (n k : Nat) (xs : List Value) (h : w.ownsRow B 3 1 v n xs) (hk : k + n ≤ 1099511627776) :
    Calls Tryz.prog 12 #[v, .int .i64 k] w (MarkPost B v n k w) := by
  by_cases hv : v = .slice none 0 0
  · subst hv
    have hn : n = 0 := by
      rcases h.2 with ⟨_, h⟩ | ⟨_, _, _, h, _⟩
      · exact h
      · cases h
    subst hn
    go_enter Tryz.func12, Tryz.ntmps12
    go_wp2
    refine wp_loop_rounds 1 ?_
    rw [rounds_succ]
    go_wp2
    go_ret
    exact ⟨rfl, ⟨rfl, .inl ⟨rfl, rfl⟩⟩, Below.refl _ _⟩
  obtain ⟨g, cap, rfl⟩ := ownsRow_form h hv
  have hl := ownsRow_lt h
  have HO := Lib.hid h
  have hBg := hl.2.1
  clear h hv hl
  go_enter Tryz.func12, Tryz.ntmps12
  go_wp2
  go_loopw [1, 5] (fun q i wr => ∃ (j : Nat) (ys : List Value), j ≤ n ∧ i = .int .i64 j ∧ q = .int .i64 ((k + j : Nat) : Int) ∧ wr.ownsRow B 3 1 (.slice (some ⟨g, 0, none⟩) n cap) n ys ∧ Hid (∀ i, i < j → ys[i]? = some (.int .i64 ((k + i : Nat) : Int))) ∧ Below B w wr) (fun _ i _ => n - (intOf i).toNat)
  case atStart => exact ⟨0, xs, Nat.zero_le _, rfl, rfl, HO.out, by simp [Hid], Below.refl _ _⟩
  case round =>
    obtain ⟨j, ys, hj, rfl, rfl, hown, hys, hB⟩ := hrel
    obtain ⟨wo, rfl⟩ : ∃ wo : World, wo = wr := ⟨_, rfl⟩
    by_cases hlt : j < n
    · have hlen : ys.length = n := by have := hown.1; omega
      have hfz := hown.frozenAt j
      have hck := hown.cellAt j (by omega)
      rw [List.getElem?_eq_getElem (by omega)] at hck
      have HST := Lib.hid (hown.stored j (.int .i64 ((k + j : Nat) : Int)))
      have HB' := Lib.hid (hB.setCell (p := ⟨g, j, none⟩) hBg (.int .i64 ((k + j : Nat) : Int)))
      clear hown hB
      have hcast : ((k + j : Nat) : Int) = (k : Int) + j := by omega
      go_wp2
      go_roundw
      case rel =>
        refine ⟨j + 1, _, by omega, by go_num, by congr 1, HST.out.1, ?_, HB'.out⟩
        show ∀ i, _
        intro i hi
        by_cases hij : i = j
        · subst hij
          rw [List.getElem?_set_self (by omega)]
        · rw [List.getElem?_set_ne (by omega)]
          exact hys.out i (by omega)
      case measure => simp [intOf]; omega
    · obtain rfl : j = n := by omega
      have hyi : ys = ints (iota k j) := by
        have hlen : ys.length = j := by have := hown.1; omega
        apply List.ext_getElem?
        intro i
        by_cases hi : i < j
        · rw [hys.out i hi]
          simp [ints, iota, hi]
        · rw [List.getElem?_eq_none (by omega), List.getElem?_eq_none (by simp [ints, iota]; omega)]
      subst hyi
      have HOW := Lib.hid hown
      have HB' := Lib.hid hB
      clear hown hB
      go_wp2
      go_ret
      exact ⟨rfl, HOW.out, HB'.out⟩
set_option maxHeartbeats 1000000 in
theorem heldIntS_any (w : World) (v : Value) (n k : Nat) (h : IntsAt w v (iota k n)) (hk : k + n ≤ 1099511627776) :
    Calls Tryz.prog 13 #[v, .int .i64 k] w fun e w' => e = .returned (.int .i64 ((k + n : Nat) : Int)) ∧ w = w' := by
  obtain ⟨a, cap, rfl, hc⟩ := h
  rw [iota_length] at hc ⊢
  have HC := Lib.hid hc
  clear hc
  go_enter Tryz.func13, Tryz.ntmps13
  go_wp2
  go_loop [1, 5] (fun q i => ∃ j : Nat, j ≤ n ∧ i = .int .i64 j ∧ q = .int .i64 ((k + j : Nat) : Int)) (fun _ i => n - (intOf i).toNat)
  case atStart => exact ⟨0, Nat.zero_le _, rfl, rfl⟩
  case round =>
    obtain ⟨j, hj, rfl, rfl⟩ := hrel
    by_cases hlt : j < n
    · obtain ⟨b, off, rfl, hcell⟩ := HC.out j hlt
      rw [iota_at k n j hlt] at hcell
      go_wp2
      go_round
      case rel => exact ⟨j + 1, by omega, by go_num, by congr 1⟩
      case measure => simp [intOf]; omega
    · obtain rfl : j = n := by omega
      go_wp2
      go_ret
      exact ⟨rfl, rfl⟩
end Go.Proofs.YtpnliencahnmoaaGreatDoor
