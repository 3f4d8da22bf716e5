/- Rows of numbers: Clone, Equal; impl.SameOutcome, bytesOk. Are numbers so many bytes, on impl's side; can a program be run. impl's runMeaning: its closure, the caught call. impl's RunProgram. -/
import Derived.Test.YtpnliencahnmoaaGreatDoorQ22
import Derived.Test.YtpnliencahnmoaaGreatDoorQ13
import Derived.Test.YtpnliencahnmoaaGreatDoorQ7
set_option linter.unusedVariables false
set_option linter.unusedSimpArgs false
set_option linter.unusedVariables false
set_option linter.unusedSimpArgs false
set_option maxRecDepth 100000
namespace Go.Proofs.YtpnliencahnmoaaGreatDoor
open Go.RowKit
/-- how Clone answers -/
def ClP (xs : List Nat) (w : World) (e : Ending) (w' : World) : Prop := ∃ v, e = .returned v ∧ Below w.heap.size w w' ∧ w'.ownsRow w.heap.size 3 1 v xs.length (nats xs)
set_option maxHeartbeats 2000000 in
theorem iclone_any (w : World) (b off n c : Nat) (xs : List Nat) (hn : xs.length = n) (hm : n ≤ 1000) (hc : ∀ i, i < n → w.cell? ⟨b, off + i, none⟩ = some (.int .i64 ((xs.getD i 0 : Nat) : Int))) : Calls Tryz.prog 77 #[.slice (some ⟨b, off, none⟩) n c] w (ClP xs w) := by
  have qT : ∀ (w : World) (a : Option Addr) (n c n' c' : Nat), (binOp .eql 26 (.slice a n c) (.slice none n' c')).run Tryz.prog w = .ok (.bool a.isNone) w := fun w a n c n' c' => Lib.run_eql_slice_nil w _ _ a n c n' c' Tryz.underlying26
  obtain ⟨i0, hi, hz0, hz1, hz2⟩ := info_parts info_int
  have HN := Lib.hid hn
  have HAT : Hid (∀ ad, (some (⟨b, off, none⟩ : Addr)) = some ad → ∀ t u, (nats xs)[t]? = some u → (w.alloc (.cells #[] 3)).cell? (ad.add t) = some u) := Lib.hid (fun ad had t u hu => by
    injection had with had
    subst had
    have ht : t < n := by have := idx_lt hu; rw [nats_len, hn] at this; exact this
    have e0 := cellB (below1 w (.cells #[] 3)) (hc t ht)
    have e1 : some u = some (Value.int .i64 ((xs.getD t 0 : Nat) : Int)) := by
      rw [← hu]
      unfold nats
      rw [List.getElem?_map, List.getElem?_eq_getElem (by omega), List.getD_eq_getElem?_getD, List.getElem?_eq_getElem (by omega)]
      rfl
    rw [e1]
    by_cases ht0 : t = 0
    · subst ht0; simpa [Addr.add] using e0
    · simpa [Addr.add, ht0] using e0)
  clear hc hn
  go_enter Tryz.func77, Tryz.ntmps77
  go_wp2_with (at_builtin; refine wpList_app _ rfl (.tmp 5) (.tmp 6) 26 (by rfl) w.heap.size 3 i0 _ 1 8 Tryz.underlying26 hi hz0 hz1 hz2 rfl (by decide) _ 0 [] (by rfl) (ownLit0 _ _ _ rfl (Nat.le_refl _)) _ n c (nats xs) (by rfl) (by rw [nats_len, HN.out]; omega) HAT.out (fun e => by cases e) (fun u hu => by unfold nats at hu; rw [List.mem_map] at hu; obtain ⟨_, _, rfl⟩ := hu; rfl) (by unfold maxLen; omega) (by omega) (by simp) ?_; intro nv1 w3 ho hg hv; rw [Nat.zero_add, List.nil_append] at ho; have HO := Lib.hid ho; have HB3 := Lib.hid (app_below hg); clear ho hg hv)
  go_ret
  exact ⟨_, rfl, HB3.out, by rw [HN.out]; exact HO.out⟩
set_option maxHeartbeats 4000000 in
theorem iequal_any (w : World) (u v : Value) (xs ys : List Nat) (hx : NAt w u xs) (hy : NAt w v ys) (hlx : xs.length ≤ 10000) (hly : ys.length ≤ 10000) : Calls Tryz.prog 41 #[u, v] w (BoolP (decide (xs = ys)) w) := by
  obtain ⟨a1, c1, rfl, h1⟩ := hx
  obtain ⟨a2, c2, rfl, h2⟩ := hy
  obtain ⟨n, hn⟩ : ∃ n, n = xs.length := ⟨_, rfl⟩
  obtain ⟨m, hm⟩ : ∃ m, m = ys.length := ⟨_, rfl⟩
  rw [← hn] at hlx ⊢
  rw [← hm] at hly ⊢
  obtain ⟨q, hq⟩ : ∃ q, q = decide (xs = ys) := ⟨_, rfl⟩
  rw [← hq]
  have H1 := Lib.hid h1; have H2 := Lib.hid h2; have HN := Lib.hid hn; have HM := Lib.hid hm; have HQ := Lib.hid hq
  clear h1 h2 hn hm hq
  by_cases hnm : n = m
  · subst hnm
    go_enter Tryz.func41, Tryz.ntmps41
    go_wp2_with (fail)
    go_loopw [13] (fun i wr => ∃ k : Nat, k ≤ n ∧ i = .int .i64 (k : Int) ∧ Hid (∀ j, j < k → xs.getD j 0 = ys.getD j 0) ∧ Hid (Below w.heap.size w wr)) (fun i _ => n - (intOf i).toNat)
    case atStart => exact ⟨0, Nat.zero_le _, rfl, Lib.hid (fun j hj => by omega), Lib.hid (Below.refl _ _)⟩
    case round =>
      obtain ⟨k, hk, rfl, hA, HB⟩ := hrel
      by_cases hlt : k < n
      · obtain ⟨b1, o1, rfl, hl1, e1⟩ := H1.out k (by rw [← HN.out]; exact hlt)
        obtain ⟨b2, o2, rfl, hl2, e2⟩ := H2.out k (by rw [← HM.out]; exact hlt)
        have e1 := cellB HB.out e1; have e2 := cellB HB.out e2
        have k0 : (0 : Int) ≤ k := by omega
        have k1 : (k : Int) < n := by omega
        obtain ⟨x, hx⟩ : ∃ x, x = xs.getD k 0 := ⟨_, rfl⟩
        obtain ⟨y, hy⟩ : ∃ y, y = ys.getD k 0 := ⟨_, rfl⟩
        rw [← hx] at e1
        rw [← hy] at e2
        have HX := Lib.hid hx; have HY := Lib.hid hy
        clear hx hy hl1 hl2
        by_cases hxy : x = y
        · subst hxy
          go_wp2_with (fail)
          go_quiet (fail)
          go_wp2_with (fail)
          go_roundw
          case rel => exact ⟨k + 1, by omega, by go_num, Lib.hid (fun j hj => by
            rcases Nat.lt_or_ge j k with e | e
            · exact hA.out j e
            · obtain rfl : j = k := by omega
              rw [← HX.out, ← HY.out]), Lib.hid (belowDrewN HB.out _)⟩
          case measure => simp [intOf]; omega
        · have hne : ((x : Int) != y) = true := by simp; omega
          have hne2 : ¬ (x : Int) = y := by omega
          have hqf : q = false := by
            rw [HQ.out]
            exact decide_eq_false (fun e => hxy (by rw [HX.out, HY.out, e]))
          subst hqf
          clear hxy
          go_wp2_with (fail)
          go_quiet (fail)
          go_wp2_with (fail)
          go_ret
          exact ⟨rfl, belowDrewN HB.out _⟩
      · have hke : k = n := by omega
        have hqt : q = true := by
          rw [HQ.out]
          refine decide_eq_true (List.ext_getElem? (fun j => ?_))
          rcases Nat.lt_or_ge j n with e | e
          · have h := hA.out j (by omega)
            rw [List.getD_eq_getElem?_getD, List.getD_eq_getElem?_getD, List.getElem?_eq_getElem (by rw [← HN.out]; exact e), List.getElem?_eq_getElem (by rw [← HM.out]; exact e)] at h
            rw [List.getElem?_eq_getElem (by rw [← HN.out]; exact e), List.getElem?_eq_getElem (by rw [← HM.out]; exact e)]
            exact congrArg some h
          · rw [List.getElem?_eq_none (by rw [← HN.out]; exact e), List.getElem?_eq_none (by rw [← HM.out]; exact e)]
        subst hqt
        clear hke
        go_wp2_with (fail)
        go_ret
        exact ⟨rfl, HB.out⟩
  · have hqf : q = false := by
      rw [HQ.out]
      exact decide_eq_false (fun e => hnm (by rw [HN.out, HM.out, e]))
    subst hqf
    have hne : ((n : Int) == m) = false := neI (by omega)
    have hne2 : ((n : Int) != m) = true := by simp; omega
    clear hnm
    go_enter Tryz.func41, Tryz.ntmps41
    go_wp2_with (fail)
    go_ret
    exact ⟨rfl, Below.refl _ _⟩
/-- an outcome lies in memory -/
def OutI (w : World) (v : Value) (r : Rs) : Prop := ∃ (sa ca : Option Addr) (sc cc : Nat), v = .agg #[.slice sa r.cm.said.length sc, .int .i64 (r.en : Int), .int .i64 (valOf r : Int), .slice ca 16 cc] ∧ NAt w (.slice sa r.cm.said.length sc) r.cm.said ∧ NAt w (.slice ca 16 cc) r.cm.cells ∧ r.cm.said.length ≤ 8000 ∧ r.cm.cells.length = 16
theorem OutI.below {w w' : World} {v : Value} {r : Rs} (h : OutI w v r) (hb : Below w.heap.size w w') : OutI w' v r := by
  obtain ⟨sa, ca, sc, cc, h1, h2, h3, h4, h5⟩ := h
  exact ⟨sa, ca, sc, cc, h1, h2.below hb, h3.below hb, h4, h5⟩
set_option maxHeartbeats 4000000 in
theorem isame_any (w : World) (va vb : Value) (r q : Rs) (h1 : OutI w va r) (h2 : OutI w vb q) : Calls Tryz.prog 18 #[va, vb] w (BoolP (decide (Alike r q)) w) := by
  obtain ⟨sa, ca, sc, cc, rfl, hs1, hc1, hl1, hk1⟩ := h1
  obtain ⟨sb, cb, sd, cd, rfl, hs2, hc2, hl2, hk2⟩ := h2
  obtain ⟨n1, hn1⟩ : ∃ n, n = r.cm.said.length := ⟨_, rfl⟩
  obtain ⟨n2, hn2⟩ : ∃ n, n = q.cm.said.length := ⟨_, rfl⟩
  rw [← hn1] at hs1 ⊢
  rw [← hn2] at hs2 ⊢
  obtain ⟨w1, hw1⟩ : ∃ w1, w1 = (w.alloc (.cells #[.slice sa n1 sc, .int .i64 (r.en : Int), .int .i64 (valOf r : Int), .slice ca 16 cc] 44)).alloc (.cells #[.slice sb n2 sd, .int .i64 (q.en : Int), .int .i64 (valOf q : Int), .slice cb 16 cd] 44) := ⟨_, rfl⟩
  obtain ⟨Q, hQ⟩ : ∃ Q, Q = w.heap.size + 1 := ⟨_, rfl⟩
  have HW1 : Hid (Below w.heap.size w w1 ∧ Blk w1 w.heap.size [.slice sa n1 sc, .int .i64 (r.en : Int), .int .i64 (valOf r : Int), .slice ca 16 cc] ∧ Blk w1 Q [.slice sb n2 sd, .int .i64 (q.en : Int), .int .i64 (valOf q : Int), .slice cb 16 cd]) := Lib.hid ⟨by rw [hw1]; exact ((Below.refl _ w).alloc (Nat.le_refl _) _).alloc (by simp) _, by rw [hw1]; exact (Blk.new _ _ _).alloc _, by rw [hw1, hQ]; exact Blk.fresh (by simp) rfl⟩
  have HI := Lib.hid (fun w' (hb : Below w.heap.size w w') => iequal_any w' _ _ _ _ (hs1.below hb) (hs2.below hb) (by omega) (by omega))
  have HJ := Lib.hid (fun w' (hb : Below w.heap.size w w') => iequal_any w' _ _ _ _ (hc1.below hb) (hc2.below hb) (by omega) (by omega))
  obtain ⟨t, ht⟩ : ∃ t, t = decide (Alike r q) := ⟨_, rfl⟩
  rw [← ht]
  obtain ⟨d1, hd1⟩ : ∃ d, d = decide (r.cm.said = q.cm.said) := ⟨_, rfl⟩
  obtain ⟨d4, hd4⟩ : ∃ d, d = decide (r.cm.cells = q.cm.cells) := ⟨_, rfl⟩
  obtain ⟨en1, he1⟩ : ∃ n, n = r.en := ⟨_, rfl⟩
  obtain ⟨en2, he2⟩ : ∃ n, n = q.en := ⟨_, rfl⟩
  obtain ⟨v1, hv1⟩ : ∃ n, n = valOf r := ⟨_, rfl⟩
  obtain ⟨v2, hv2⟩ : ∃ n, n = valOf q := ⟨_, rfl⟩
  have HT : Hid (t = (d1 && decide (en1 = en2) && decide (v1 = v2) && d4)) := Lib.hid (by
    rw [ht, hd1, hd4, he1, he2, hv1, hv2, Bool.eq_iff_iff]
    simp only [Bool.and_eq_true, decide_eq_true_eq]
    unfold Alike
    exact ⟨fun ⟨a, b, c, d⟩ => ⟨⟨⟨a, b⟩, c⟩, d⟩, fun ⟨⟨⟨a, b⟩, c⟩, d⟩ => ⟨a, b, c, d⟩⟩)
  rw [← hd1] at HI
  rw [← hd4] at HJ
  rw [← he1, ← hv1] at HW1 hw1 ⊢
  rw [← he2, ← hv2] at HW1 hw1 ⊢
  obtain ⟨x0, x1, x2, x3⟩ := blkc4 HW1.out.2.1
  obtain ⟨y0, y1, y2, y3⟩ := blkc4 HW1.out.2.2
  clear hs1 hs2 hc1 hc2 hl1 hl2 hk1 hk2 hn1 hn2 ht hd1 hd4 he1 he2 hv1 hv2
  go_enter Tryz.func18, Tryz.ntmps18
  go_upto_region 1 with (fail)
  rw [← hw1, ← hQ]
  clear hw1 hQ
  go_wp2_with (fail)
  go_at_call 41
  refine (HI.out _ HW1.out.1).mono ?_
  rintro e w2 ⟨rfl, hb2⟩
  have HB2 := Lib.hid (HW1.out.1.trans (hb2.mono HW1.out.1.size))
  have x1 := cellB hb2 x1; have x2 := cellB hb2 x2; have x3 := cellB hb2 x3
  have y1 := cellB hb2 y1; have y2 := cellB hb2 y2; have y3 := cellB hb2 y3
  clear hb2 x0 y0
  cases d1
  · go_wp2_with (fail)
    go_ret
    exact ⟨by rw [HT.out]; rfl, HB2.out⟩
  by_cases he : en1 = en2
  · subst he
    by_cases hv : v1 = v2
    · subst hv
      go_wp2_with (fail)
      go_at_call 41
      refine (HJ.out _ HB2.out).mono ?_
      rintro e w3 ⟨rfl, hb3⟩
      have HB3 := Lib.hid (HB2.out.trans (hb3.mono HB2.out.size))
      clear hb3
      go_wp2_with (fail)
      go_ret
      exact ⟨by rw [HT.out]; simp, HB3.out⟩
    · have HV : Hid (decide (v1 = v2) = false) := Lib.hid (decide_eq_false hv)
      have hv3 : ((v1 : Int) == v2) = false := neI (by omega)
      clear hv
      go_wp2_with (fail)
      go_ret
      exact ⟨by rw [HT.out, HV.out]; simp [hv3], HB2.out⟩
  · have HE : Hid (decide (en1 = en2) = false) := Lib.hid (decide_eq_false he)
    have he3 : ((en1 : Int) == en2) = false := neI (by omega)
    clear he
    go_wp2_with (fail)
    go_ret
    exact ⟨by rw [HT.out, HE.out]; simp [he3], HB2.out⟩
end Go.Proofs.YtpnliencahnmoaaGreatDoor

set_option linter.unusedVariables false
set_option linter.unusedSimpArgs false
set_option maxRecDepth 100000
namespace Go.Proofs.YtpnliencahnmoaaGreatDoor
open Go.RowKit
set_option maxHeartbeats 1000000 in
theorem bclo_any (w : World) (x : Nat) (hx : x < 256) : Calls Tryz.prog 114 #[.int .i64 (x : Int)] w (EqW false w) := by
  have HI := Lib.hid (isByte_any w (x : Int) true ((inR_iff ..).2 ⟨by omega, by omega⟩))
  clear hx
  go_enter Tryz.func114, Tryz.ntmps114
  go_wp2_with (fail)
  go_at_call 115
  refine HI.out.mono ?_
  rintro e _ ⟨rfl, rfl⟩
  go_wp2_with (fail)
  go_ret
  exact ⟨rfl, rfl⟩
set_option maxHeartbeats 2000000 in
theorem idxBytes_any (w : World) (v : Value) (xs : List Nat) (h : w.ownsRow 0 3 1 v xs.length (nats xs)) (hs : Small xs) (hl : xs.length ≤ 3) : Calls Tryz.prog 145 #[v, .func (.func 114) #[] #[]] w fun e w' => e = .returned (.int .i64 (-1)) ∧ w' = w := by
  obtain ⟨m, hm⟩ : ∃ m, m = xs.length := ⟨_, rfl⟩
  rw [← hm] at h hl
  obtain ⟨a, c, hf⟩ := rowForm h
  subst hf
  have H := Lib.hid h; have HM := Lib.hid hm; have HS := Lib.hid hs
  have HI := Lib.hid (fun x hx => bclo_any w x hx)
  clear h hm hs
  go_enter Tryz.func145, Tryz.ntmps145
  go_wp2_with (fail)
  go_loop [8] (fun k => ∃ j : Nat, j ≤ m ∧ k = .int .i64 (j : Int)) (fun k => m - (intOf k).toNat)
  case atStart => exact ⟨0, Nat.zero_le _, rfl⟩
  case round =>
    obtain ⟨j, hj, rfl⟩ := hrel
    by_cases hlt : j < m
    · obtain ⟨g, c', hf⟩ := own_form H.out (by omega)
      injection hf with hf _ hc
      subst hf hc
      have c0 := own_cell1 H.out hlt
      rw [nats_get (by rw [← HM.out]; exact hlt)] at c0
      have hx := HS.out.at j
      obtain ⟨x, hxd⟩ : ∃ x, x = xs.getD j 0 := ⟨_, rfl⟩
      rw [← hxd] at c0 hx
      have HX := Lib.hid hx
      have k0 : (0 : Int) ≤ j := by omega
      have k1 : (j : Int) < m := by omega
      clear hxd hx
      go_wp2_with (fail)
      go_at_call 114
      refine (HI.out _ HX.out).mono ?_
      rintro e w2 ⟨rfl, rfl⟩
      go_wp2_with (fail)
      go_round
      case rel => exact ⟨j + 1, by omega, by go_num⟩
      case measure => simp [intOf]; omega
    · obtain rfl : j = m := by omega
      go_wp2_with (fail)
      go_ret
      exact ⟨rfl, rfl⟩
set_option maxHeartbeats 1000000 in
theorem hasBytes_any (w : World) (v : Value) (xs : List Nat) (h : w.ownsRow 0 3 1 v xs.length (nats xs)) (hs : Small xs) (hl : xs.length ≤ 3) : Calls Tryz.prog 113 #[v, .func (.func 114) #[] #[]] w fun e w' => e = .returned (.bool false) ∧ w' = w := by
  have HI := Lib.hid (idxBytes_any w v xs h hs hl)
  obtain ⟨a, c, hf⟩ := rowForm h
  subst hf
  generalize xs.length = m at HI ⊢
  clear h hs hl
  go_enter Tryz.func113, Tryz.ntmps113
  go_wp2_with (fail)
  go_at_call 145
  refine HI.out.mono ?_
  rintro e _ ⟨rfl, rfl⟩
  go_wp2_with (fail)
  go_ret
  exact ⟨rfl, rfl⟩
set_option maxHeartbeats 1000000 in
theorem bytesOk_any (w : World) (v : Value) (xs : List Nat) (n : Nat) (h : w.ownsRow 0 3 1 v xs.length (nats xs)) (hs : Small xs) (hl : xs.length ≤ 3) (q : Bool) (hq : q = decide (xs.length = n)) : Calls Tryz.prog 73 #[v, .int .i64 (n : Int)] w fun e w' => e = .returned (.bool q) ∧ w' = w := by
  have HI := Lib.hid (hasBytes_any w v xs h hs hl)
  obtain ⟨a, c, hf⟩ := rowForm h
  subst hf
  generalize xs.length = m at HI hq ⊢
  clear h hs hl
  by_cases hmn : m = n
  · subst hmn
    have hqt : q = true := by rw [hq]; simp
    subst hqt
    clear hq
    go_enter Tryz.func73, Tryz.ntmps73
    go_wp2_with (fail)
    go_at_call 113
    refine HI.out.mono ?_
    rintro e _ ⟨rfl, rfl⟩
    go_wp2_with (fail)
    go_ret
    exact ⟨rfl, rfl⟩
  · have hqf : q = false := by rw [hq]; exact decide_eq_false hmn
    subst hqf
    have hmi := neI (show ¬ (m : Int) = n by omega)
    clear hq hmn
    go_enter Tryz.func73, Tryz.ntmps73
    go_wp2_with (fail)
    go_ret
    exact ⟨by simp [hmi], rfl⟩
set_option maxHeartbeats 4000000 in
theorem canRun_any (w : World) (fs : List Fx) (v iv : Value) (xs : List Nat) (hK : KS w) (hW : FxsW fs) (hcap : CapOk v) (hX : FxsAt w v fs) (hle : fxsW fs ≤ 4194304) (hI : w.ownsRow 0 3 1 iv xs.length (nats xs)) (hs : Small xs) (hl3 : xs.length ≤ 3) (q : Bool) (hq : q = true ↔ Fits fs xs) :
    Calls Tryz.prog 38 #[.agg #[v], iv] w (BoolP q w) := by
  obtain ⟨fa, fc, hvf, hfm⟩ := hX.form
  obtain ⟨m, hm⟩ : ∃ m, m = xs.length := ⟨_, rfl⟩
  obtain ⟨ia, ic, hif⟩ := rowForm hI
  rw [← hm] at hif hl3
  subst hif
  by_cases hp : prFine isNB fs
  · have hlen : 1 ≤ fs.length := by
      have h0 := hp.1
      unfold prVal at h0
      simp only [Bool.and_eq_true, decide_eq_true_eq] at h0
      omega
    obtain ⟨k, hk⟩ : ∃ k, fs.length = k + 1 := ⟨fs.length - 1, by omega⟩
    obtain ⟨f, hf⟩ : ∃ f, fs[k]? = some f := ⟨_, List.getElem?_eq_getElem (by omega)⟩
    rw [hk] at hvf hfm
    subst hvf
    obtain ⟨_, fb, fo, pv, bv, rfl, hbl, x0, x1, x2, hpv, hbv⟩ := hX.get hf
    obtain ⟨pa, pc, hpf, hpm⟩ := hpv.form
    obtain ⟨n, hn⟩ : ∃ n, n = f.params.length := ⟨_, rfl⟩
    rw [← hn] at hpf hpm
    subst hpf
    have hb1 := below1 w (.cells #[.slice (some ⟨fb, fo, none⟩) (k + 1) fc] 31)
    have HFI := Lib.hid (implFine_any fs _ (.slice (some ⟨fb, fo, none⟩) (k + 1) fc) true (hK.below hb1) hW (hX.below hb1) hcap hle ⟨fun _ => hp, fun _ => rfl⟩)
    have HVA := Lib.hid (fun w' (hb : Below w.heap.size w w') => bytesOk_any w' (.slice ia m ic) xs n (ownsRow_below hI hb) hs (by omega) (decide (m = n)) (by rw [hm]))
    have hqq : q = decide (m = n) := by
      rw [Bool.eq_iff_iff, hq, decide_eq_true_eq, hm, hn]
      unfold Fits
      rw [hk, Nat.add_sub_cancel, hf]
      exact ⟨fun ⟨_, f', e, h⟩ => by injection e with e; rw [e]; exact h, fun h => ⟨hp, f, rfl, h⟩⟩
    have HQQ := Lib.hid hqq
    rw [← hqq] at HVA
    clear hqq
    have HX1 := Lib.hid x1; have HB1 := Lib.hid hb1
    unfold big at hfm hpm
    have k0 : (0 : Int) ≤ k := by omega
    clear hK hW hcap hX hle hI hs hq hp hlen hk hf hbv hpv hm hn x0 x1 x2 hb1
    go_enter Tryz.func38, Tryz.ntmps38
    go_wp2_with (fail)
    go_at_call 33
    refine HFI.out.mono ?_
    rintro e w2 ⟨rfl, hb2⟩
    have hbw := HB1.out.trans (hb2.mono HB1.out.size)
    have x1 := cellB hbw HX1.out
    have q0 : w2.cell? ⟨w.heap.size, 0, none⟩ = some (.slice (some ⟨fb, fo, none⟩) (k + 1) fc) := by
      have hq : Blk (w.alloc (.cells #[.slice (some ⟨fb, fo, none⟩) (k + 1) fc] 31)) w.heap.size [.slice (some ⟨fb, fo, none⟩) (k + 1) fc] := Blk.new _ _ _
      rw [(hq.below hb2).cell]; rfl
    have HBW := Lib.hid hbw
    have HV2 := Lib.hid (HVA.out w2 hbw)
    clear hb2 hbw
    go_wp2_with (fail)
    go_at_call 73
    refine HV2.out.mono ?_
    rintro e _ ⟨rfl, rfl⟩
    go_wp2_with (fail)
    go_ret
    exact ⟨rfl, HBW.out⟩
  · have hqf : q = false := by
      cases q
      · rfl
      · exact absurd (hq.1 rfl).1 hp
    subst hqf
    subst hvf
    have hb1 := below1 w (.cells #[.slice fa fs.length fc] 31)
    have HFI := Lib.hid (implFine_any fs _ (.slice fa fs.length fc) false (hK.below hb1) hW (hX.below hb1) hcap hle ⟨fun h => (by cases h), fun h => absurd h hp⟩)
    have HB1 := Lib.hid hb1
    clear hK hW hcap hX hle hI hs hq hp hb1 hm
    go_enter Tryz.func38, Tryz.ntmps38
    go_wp2_with (fail)
    go_at_call 33
    refine HFI.out.mono ?_
    rintro e w2 ⟨rfl, hb2⟩
    have HBW := Lib.hid (HB1.out.trans (hb2.mono HB1.out.size))
    clear hb2
    go_wp2_with (fail)
    go_ret
    exact ⟨rfl, HBW.out⟩
end Go.Proofs.YtpnliencahnmoaaGreatDoor

set_option linter.unusedVariables false
set_option linter.unusedSimpArgs false
set_option maxRecDepth 100000
namespace Go.Proofs.YtpnliencahnmoaaGreatDoor
open Go.RowKit
theorem Mn.other {w : World} {M B : Nat} {fv sv : Value} {s : Cm} (h : Mn w M B fv sv s) {a : Addr} (h1 : a.block ≠ M) (h2 : sv.ownBlock ≠ some a.block) (u : Value) : Mn (w.setCell a u) M B fv sv s :=
  ⟨h.blk.other (fun e => h1 e.symm) u, ownsRow_same h.said (fun q hq => Below.heap_setCell _ _ _ _ (fun e => h2 (by rw [hq, e]))), h.ne, h.cm, h.bd⟩
/-- a new run's block -/
theorem Mn.start {w : World} {M B : Nat} {fv : Value} {o : Array Value} {t : TypeId} (hM : M = w.heap.size) (ho : o.toList = [fv, .int .i64 400, .int .i64 0, .slice none 0 0] ++ nats (List.replicate 16 0)) : Mn (w.alloc (.cells o t)) M B fv (.slice none 0 0) (startCm 400) := by
  subst hM
  refine ⟨?_, World.ownsRow_nil _ _ _ _, (fun e => by cases e), startCm_ok 400, by simp [startCm]⟩
  have h := Blk.new w o t
  rw [ho] at h
  exact h
/-- how a fine program's parts answer the run's laws -/
theorem ok_of_fine {fs : List Fx} (h : prFine isNB fs) : ∀ f ∈ fs, fxOk isNB f = true ∧ f.body.all (stA fs 4) = true := by
  intro f' hf'
  obtain ⟨j, hj, hfj⟩ := List.getElem_of_mem hf'
  have h1 := h.2 j f' (by rw [← hfj]; exact List.getElem?_eq_getElem hj)
  have h0 := h.1
  unfold prVal at h0
  unfold chkF at h1
  simp only [Bool.and_eq_true] at h0 h1
  exact ⟨List.all_eq_true.1 h0.1.2 f' hf', stA_all (by first | exact h1.2 | exact h1)⟩
def CloE (r : Rs) (e : Ending) : Prop := match r with
  | .ret _ _ => e = .returned (.tuple #[])
  | .stop en _ => e = .panicked (endChain en)
/-- what the closure leaves -/
def CloQ (M B O : Nat) (fv sv : Value) (r : Rs) (w w' : World) : Prop :=
  ∃ sv', Fr [M, O] sv w sv' w' ∧ Mn w' M B fv sv' r.cm ∧ Blk w' O [.slice none 0 0, .int .i64 0, .int .i64 (valOf r : Int), .slice none 0 0]
set_option maxHeartbeats 2000000 in
theorem mean1_any {w0 : World} {fs : List Fx} {fa : Option Addr} {k fc M B g : Nat} (hI : Ix w0 fs (.slice fa (k + 1) fc) M B) (hkk : k + 1 ≤ 4611686018427387904) (w : World) (iv sv : Value) (xs : List Nat) (r : Rs) (PX PB PI O : Nat)
    (hev : evC fs g k xs (startCm 400) = some r) (hb : Below w0.heap.size w0 w) (hM : Mn w M B (.slice fa (k + 1) fc) sv (startCm 400)) (hN : NAt w iv xs) (hs : Small xs)
    (c0 : w.cell? ⟨PX, 0, none⟩ = some (.pointer (some ⟨M, 0, none⟩))) (c1 : w.cell? ⟨PB, 0, none⟩ = some (.slice fa (k + 1) fc)) (c2 : w.cell? ⟨PI, 0, none⟩ = some iv)
    (hO : Blk w O [.slice none 0 0, .int .i64 0, .int .i64 0, .slice none 0 0]) (hOM : O ≠ M) (hOs : sv.ownBlock ≠ some O) :
    Calls Tryz.prog 75 #[.pointer (some ⟨PX, 0, none⟩), .pointer (some ⟨PB, 0, none⟩), .pointer (some ⟨PI, 0, none⟩), .pointer (some ⟨O, 0, none⟩)] w (fun e w' => CloE r e ∧ CloQ M B O (.slice fa (k + 1) fc) sv r w w') := by
  have HG := Lib.hid (icall_any hI (fun g' _ => (iruns_all hI g').2) k iv xs (startCm 400) r w sv hev hb hM hN hs)
  have HO := Lib.hid hO; have HOM := Lib.hid hOM; have HOS := Lib.hid hOs
  have hOl := hO.lt
  obtain ⟨fs2, rfl⟩ : ∃ fs2, fs2 = fs := ⟨_, rfl⟩
  have k0 : (0 : Int) ≤ k := by omega
  obtain ⟨ia, ic, rfl, _⟩ := hN
  clear hI hev hb hM hs hO hOM hOs
  generalize xs.length = m at *
  go_enter Tryz.func75, Tryz.ntmps75
  go_wp2_with (fail)
  go_at_call 76
  refine HG.out.mono ?_
  rintro e w2 ⟨sv', hF, hM2, hr⟩
  have hO2 := hF.blk HO.out (by simpa using HOM.out) HOS.out
  have hs2 : sv'.ownBlock ≠ some O := hF.ne hOl HOS.out
  have HF := Lib.hid hF; have HM2 := Lib.hid hM2; have HO2 := Lib.hid hO2; have HS2 := Lib.hid hs2
  have c22 : w2.cell? ⟨O, 2, none⟩ = some (.int .i64 0) := by rw [hO2.cell]; rfl
  have f22 := hO2.frozen 2
  clear hF hM2 hO2 hs2 HG
  cases r with
  | ret v s2 =>
    obtain ⟨rfl, hv⟩ := hr
    go_wp2_with (fail)
    go_end0
    refine ⟨rfl, sv', (HF.out.mono (fun x hx => by simp at hx; simp [hx])).setIn (a := ⟨O, 2, none⟩) (by simp) _, HM2.out.other (a := ⟨O, 2, none⟩) HOM.out HS2.out _, ?_⟩
    exact HO2.out.set 2 _
  | stop en s2 =>
    subst hr
    go_wp2_with (fail)
    exact ⟨rfl, rfl, sv', HF.out.mono (fun x hx => by simp at hx; simp [hx]), HM2.out, HO2.out⟩
/-- the closure, caught -/
theorem mcaught_any {w0 : World} {fs : List Fx} {fa : Option Addr} {k fc M B g : Nat} (hI : Ix w0 fs (.slice fa (k + 1) fc) M B) (hkk : k + 1 ≤ 4611686018427387904) (w : World) (iv sv : Value) (xs : List Nat) (r : Rs) (PX PB PI O : Nat)
    (hev : evC fs g k xs (startCm 400) = some r) (hb : Below w0.heap.size w0 w) (hM : Mn w M B (.slice fa (k + 1) fc) sv (startCm 400)) (hN : NAt w iv xs) (hs : Small xs)
    (c0 : w.cell? ⟨PX, 0, none⟩ = some (.pointer (some ⟨M, 0, none⟩))) (c1 : w.cell? ⟨PB, 0, none⟩ = some (.slice fa (k + 1) fc)) (c2 : w.cell? ⟨PI, 0, none⟩ = some iv)
    (hO : Blk w O [.slice none 0 0, .int .i64 0, .int .i64 0, .slice none 0 0]) (hOM : O ≠ M) (hOs : sv.ownBlock ≠ some O) :
    Calls Tryz.prog 74 #[.func (.func 75) #[] #[.pointer (some ⟨PX, 0, none⟩), .pointer (some ⟨PB, 0, none⟩), .pointer (some ⟨PI, 0, none⟩), .pointer (some ⟨O, 0, none⟩)]] w (fun e w' => e = .returned (.int .i64 (r.en : Int)) ∧ CloQ M B O (.slice fa (k + 1) fc) sv r w w') := by
  have hA := below1 w (.cells #[.int .i64 0] 3)
  have hMl := hM.blk.lt
  have hOl := hO.lt
  have hsl : ∀ q, sv.ownBlock = some q → q < w.heap.size := fun q hq => (World.ownsRow.lt hM.said q hq).2
  have h1 := mean1_any hI hkk _ iv sv xs r PX PB PI O hev (hb.trans (hA.mono hb.size)) (hM.below hA) (hN.below hA) hs (cellB hA c0) (cellB hA c1) (cellB hA c2) (hO.below hA) hOM hOs
  have hnew : Blk (w.alloc (.cells #[.int .i64 0] 3)) w.heap.size [.int .i64 0] := Blk.new _ _ _
  have hkeep : ∀ w2, CloQ M B O (.slice fa (k + 1) fc) sv r (w.alloc (.cells #[.int .i64 0] 3)) w2 → Blk w2 w.heap.size [.int .i64 0] ∧ ∀ u, CloQ M B O (.slice fa (k + 1) fc) sv r w (w2.setCell ⟨w.heap.size, 0, none⟩ u) := by
    rintro w2 ⟨sv', hF, hM2, hO2⟩
    have hn2 : sv'.ownBlock ≠ some w.heap.size := hF.ne hnew.lt (fun e => by have := hsl _ e; omega)
    refine ⟨hF.blk hnew (by simp; omega) (fun e => by have := hsl _ e; omega), fun u => ⟨sv', ?_, hM2.other (a := ⟨w.heap.size, 0, none⟩) (by simp only []; omega) hn2 u, hO2.other (a := ⟨w.heap.size, 0, none⟩) (by simp only []; omega) u⟩⟩
    exact ((Fr.below hA : Fr [M, O] sv w sv _).trans hF).setNew (a := ⟨w.heap.size, 0, none⟩) (Nat.le_refl _) u
  cases r with
  | ret v s2 =>
    refine (caught_ret w _ (fun w2 => CloQ M B O (.slice fa (k + 1) fc) sv (.ret v s2) (w.alloc (.cells #[.int .i64 0] 3)) w2) (h1.mono fun e w2 h => h) (fun w2 h => ?_)).mono ?_
    · obtain ⟨hb2, _⟩ := hkeep w2 h
      exact ⟨by rw [hb2.cell]; rfl, hb2.frozen 0⟩
    · rintro e w' ⟨rfl, w2, h, rfl⟩
      exact ⟨rfl, (hkeep w2 h).2 _⟩
  | stop en s2 =>
    refine (caught_stop w en _ (fun w2 => CloQ M B O (.slice fa (k + 1) fc) sv (.stop en s2) (w.alloc (.cells #[.int .i64 0] 3)) w2) (h1.mono fun e w2 h => h) (fun w2 h => ?_)).mono ?_
    · obtain ⟨hb2, _⟩ := hkeep w2 h
      exact ⟨by rw [hb2.cell]; rfl, hb2.frozen 0⟩
    · rintro e w' ⟨rfl, w2, h, rfl⟩
      exact ⟨rfl, (hkeep w2 h).2 _⟩
/-- an outcome's rows lie at or above a point -/
def OutN (B : Nat) (v : Value) : Prop := ∀ sa n c e1 e2 ca m d, v = .agg #[.slice sa n c, e1, e2, .slice ca m d] → (∀ q, (Value.slice sa n c).ownBlock = some q → B ≤ q) ∧ (∀ q, (Value.slice ca m d).ownBlock = some q → B ≤ q)
theorem NAt.only {w w' : World} {a : Option Addr} {n c z : Nat} {xs : List Nat} (h : NAt w (.slice a n c) xs) (hO : Only [z] w w') (hz : (Value.slice a n c).ownBlock ≠ some z) : NAt w' (.slice a n c) xs := by
  obtain ⟨a', c', e, h2⟩ := h
  injection e with e1 e2 e3
  subst e1 e2 e3
  refine ⟨a, c, rfl, fun i hi => ?_⟩
  obtain ⟨b, o, h3, h4, h5⟩ := h2 i hi
  subst h3
  refine ⟨b, o, rfl, Nat.lt_of_lt_of_le h4 hO.size, ?_⟩
  rw [World.cell?_of_block (w := w) (a := ⟨b, o + i, none⟩) (hO.block b h4 (by simp; rintro rfl; exact hz rfl))]
  exact h5
theorem OutI.only {w w' : World} {v : Value} {r : Rs} {B z : Nat} (h : OutI w v r) (hn : OutN B v) (hO : Only [z] w w') (hz : z < B) : OutI w' v r := by
  obtain ⟨sa, ca, sc, cc, rfl, h1, h2, h3, h4⟩ := h
  obtain ⟨n1, n2⟩ := hn _ _ _ _ _ _ _ _ rfl
  exact ⟨sa, ca, sc, cc, rfl, h1.only hO (fun e => by have := n1 _ e; omega), h2.only hO (fun e => by have := n2 _ e; omega), h3, h4⟩
/-- how runMeaning answers -/
def MeanP (r : Rs) (w : World) (e : Ending) (w' : World) : Prop := ∃ v z, e = .returned (.tuple #[v, .int .i64 z]) ∧ Below w.heap.size w w' ∧ OutI w' v r ∧ OutN w.heap.size v
set_option maxHeartbeats 4000000 in
theorem runMeaning_any (w : World) (fs : List Fx) (fv iv : Value) (xs : List Nat) (r : Rs) (g : Nat) (hX : FxsAt w fv fs) (hfine : prFine isNB fs) (hev : evC fs g (fs.length - 1) xs (startCm 400) = some r) (hN : NAt w iv xs) (hs : Small xs) :
    Calls Tryz.prog 40 #[.agg #[fv], iv, .int .i64 400] w (MeanP r w) := by
  have hlen : 1 ≤ fs.length := by
    have h0 := hfine.1
    unfold prVal at h0
    simp only [Bool.and_eq_true, decide_eq_true_eq] at h0
    omega
  obtain ⟨k, hk⟩ : ∃ k, fs.length = k + 1 := ⟨fs.length - 1, by omega⟩
  obtain ⟨fa, fc, hvf, hfm⟩ := hX.form
  rw [hk] at hvf hfm hev
  rw [Nat.add_sub_cancel] at hev
  subst hvf
  have hNf := hN
  obtain ⟨ia, ic, hif, _⟩ := hNf
  obtain ⟨m, hm⟩ : ∃ m, m = xs.length := ⟨_, rfl⟩
  rw [← hm] at hif
  subst hif
  have hOK := ok_of_fine hfine
  unfold big at hfm
  have hmf : ∀ (fn : Fn) (first cap : Array Value) (w : World), (Instr.makeFunc fn first cap).run Tryz.prog w = .ok (.func fn first cap) w := fun _ _ _ _ => rfl
  have HX := Lib.hid hX; have HN := Lib.hid hN; have HEV := Lib.hid hev; have HS := Lib.hid hs; have HOK := Lib.hid hOK
  clear hX hfine hev hN hs hOK hlen hm
  obtain ⟨PB, hPB⟩ : ∃ p, p = w.heap.size := ⟨_, rfl⟩
  obtain ⟨PI, hPI⟩ : ∃ p, p = PB + 1 := ⟨_, rfl⟩
  obtain ⟨R, hR⟩ : ∃ p, p = PI + 1 := ⟨_, rfl⟩
  obtain ⟨M, hM⟩ : ∃ p, p = R + 1 := ⟨_, rfl⟩
  obtain ⟨PX, hPX⟩ : ∃ p, p = M + 1 := ⟨_, rfl⟩
  obtain ⟨O, hO⟩ : ∃ p, p = PX + 1 := ⟨_, rfl⟩
  obtain ⟨w1, hw1⟩ : ∃ W, W = (((w.alloc (.cells #[.slice fa (k + 1) fc] 31)).alloc (.cells #[.slice ia m ic] 26)).alloc (.cells #[.slice none 0 0, .int .i64 0, .int .i64 0, .slice none 0 0] 44)).alloc (.cells #[.slice fa (k + 1) fc, .int .i64 400, .int .i64 0, .slice none 0 0, .int .i64 0, .int .i64 0, .int .i64 0, .int .i64 0, .int .i64 0, .int .i64 0, .int .i64 0, .int .i64 0, .int .i64 0, .int .i64 0, .int .i64 0, .int .i64 0, .int .i64 0, .int .i64 0, .int .i64 0, .int .i64 0] 104) := ⟨_, rfl⟩
  obtain ⟨w3, hw3⟩ : ∃ W, W = (w1.alloc (.cells #[.pointer (some ⟨M, 0, none⟩)] 101)).alloc (.cells #[.slice none 0 0, .int .i64 0, .int .i64 0, .slice none 0 0] 44) := ⟨_, rfl⟩
  have hs1 : w1.heap.size = PX := by rw [hw1, hPX, hM, hR, hPI, hPB]; simp
  have HB3 : Hid (Below PB w w3 ∧ Mn w3 M M (.slice fa (k + 1) fc) (.slice none 0 0) (startCm 400) ∧ Blk w3 PB [.slice fa (k + 1) fc] ∧ Blk w3 PI [.slice ia m ic] ∧ Blk w3 R [.slice none 0 0, .int .i64 0, .int .i64 0, .slice none 0 0] ∧ Blk w3 PX [.pointer (some ⟨M, 0, none⟩)] ∧ Blk w3 O [.slice none 0 0, .int .i64 0, .int .i64 0, .slice none 0 0]) := Lib.hid (by
    have b1 : Below w1.heap.size w1 w3 := by rw [hw3]; exact below2 _ _ _
    have b0 : Below w.heap.size w w1 := by rw [hw1]; exact (below3 w _ _ _).alloc (by simp; omega) _
    refine ⟨by rw [hPB]; exact b0.trans (b1.mono b0.size), ?_, ?_, ?_, ?_, ?_, ?_⟩
    · refine Mn.below ?_ b1
      rw [hw1]
      exact Mn.start (by rw [hM, hR, hPI, hPB]; simp) rfl
    · refine Blk.below ?_ b1
      rw [hw1, hPB]
      exact (((Blk.new _ _ _).alloc _).alloc _).alloc _
    · refine Blk.below ?_ b1
      rw [hw1]
      exact ((Blk.fresh (by rw [hPI, hPB]; simp) rfl).alloc _).alloc _
    · refine Blk.below ?_ b1
      rw [hw1]
      exact (Blk.fresh (by rw [hR, hPI, hPB]; simp) rfl).alloc _
    · rw [hw3]
      exact (Blk.fresh hs1.symm rfl).alloc _
    · rw [hw3]
      exact Blk.fresh (by rw [hO, ← hs1]; simp) rfl)
  have HNE : Hid (PB < PI ∧ PI < R ∧ R < M ∧ M < PX ∧ PX < O ∧ PB = w.heap.size) := Lib.hid (by omega)
  have HC := Lib.hid (mcaught_any (w0 := w) (M := M) (B := M) ⟨HX.out, by omega, by omega, Nat.le_refl _, HOK.out⟩ (by omega) w3 (.slice ia m ic) (.slice none 0 0) xs r PX PB PI O HEV.out (by rw [← hPB]; exact HB3.out.1) HB3.out.2.1 (HN.out.below (by rw [← hPB]; exact HB3.out.1)) HS.out
    (by rw [HB3.out.2.2.2.2.2.1.cell]; rfl) (by rw [HB3.out.2.2.1.cell]; rfl) (by rw [HB3.out.2.2.2.1.cell]; rfl) HB3.out.2.2.2.2.2.2 (by omega) (fun e => by cases e))
  clear hs1
  go_enter Tryz.func40, Tryz.ntmps40
  go_upto_region 3 with (fail)
  rw [← hPB, ← hPI, ← hR, ← hM, ← hPX, ← hO, ← hw1, ← hw3]
  clear hw1 hw3 hPB hPI hR hM hPX hO
  go_wp2_with (fail)
  go_at_call 74
  refine HC.out.mono ?_
  rintro e w4 ⟨rfl, sv, hF, hM4, hO4⟩
  obtain ⟨sa, sc, hsf⟩ := rowForm hM4.said
  obtain ⟨sn, hsn⟩ : ∃ sn, sn = r.cm.said.length := ⟨_, rfl⟩
  rw [← hsn] at hsf
  subst hsf
  have hne := HNE.out
  have hb3 := HB3.out
  have hl3 := hb3.2.2.2.2.2.2.lt
  have hb4 : Below PB w3 w4 := hF.below_of (by omega) (by simp; omega) (fun q e => by cases e)
  have hn0 : ∀ q : Nat, (Value.slice none 0 0).ownBlock ≠ some q := fun q e => by cases e
  have hR4 := hF.blk hb3.2.2.2.2.1 (by simp; omega) (hn0 _)
  have hX4 := hF.blk hb3.2.2.2.2.2.1 (by simp; omega) (hn0 _)
  have hsO : Value.ownBlock (.slice sa sn sc) ≠ some O := hF.ne (by omega) (hn0 _)
  have hsR : Value.ownBlock (.slice sa sn sc) ≠ some R := hF.ne (by omega) (hn0 _)
  have x1 : w4.cell? ⟨O, 1, none⟩ = some (.int .i64 0) := by rw [hO4.cell]; rfl
  have y1 := hO4.frozen 1
  have ho4 : O < w4.heap.size := hO4.lt
  obtain ⟨w5, hw5⟩ : ∃ w5, w5 = w4.setCell ⟨O, 1, none⟩ (.int .i64 (r.en : Int)) := ⟨_, rfl⟩
  have HB5 : Hid (Below PB w w5 ∧ Mn w5 M M (.slice fa (k + 1) fc) (.slice sa sn sc) r.cm ∧ Blk w5 R [.slice none 0 0, .int .i64 0, .int .i64 0, .slice none 0 0] ∧ Blk w5 PX [.pointer (some ⟨M, 0, none⟩)] ∧ Blk w5 O [.slice none 0 0, .int .i64 (r.en : Int), .int .i64 (valOf r : Int), .slice none 0 0]) := Lib.hid (by
    rw [hw5]
    exact ⟨(hb3.1.trans hb4).setCell (p := ⟨O, 1, none⟩) (by simp only []; omega) _, hM4.other (a := ⟨O, 1, none⟩) (by simp only []; omega) hsO _, hR4.other (a := ⟨O, 1, none⟩) (by simp only []; omega) _, hX4.other (a := ⟨O, 1, none⟩) (by simp only []; omega) _, hO4.set 1 _⟩)
  have HSN := Lib.hid hsn; have HSO := Lib.hid hsO; have HSR := Lib.hid hsR
  have HO5 : Hid (O < w5.heap.size) := Lib.hid HB5.out.2.2.2.2.lt
  have HCL : Hid (∀ w', Below w5.heap.size w5 w' → Calls Tryz.prog 77 #[.slice (some ⟨M, 4, none⟩) 16 16] w' (ClP r.cm.cells w')) := Lib.hid (fun w' hb => iclone_any w' M 4 16 16 r.cm.cells HB5.out.2.1.cm.cells (by omega) (fun i hi => (HB5.out.2.1.below hb).at hi))
  have z0 : w5.cell? ⟨PX, 0, none⟩ = some (.pointer (some ⟨M, 0, none⟩)) := by rw [HB5.out.2.2.2.1.cell]; rfl
  have z1 := HB5.out.2.1.cells.2.2.2
  clear hF hM4 hO4 hsn hne hb3 hl3 hb4 hn0 hR4 hX4 hsO hsR HC HB3
  go_upto_region 4 with (fail)
  rw [← hw5]
  clear hw5 x1 y1 ho4
  refine wp_region_held (fun W => W.cell? ⟨PX, 0, none⟩ = some (.pointer (some ⟨M, 0, none⟩)) ∧ W.cell? ⟨M, 3, none⟩ = some (.slice sa sn sc)) [(0, true), (1, false), (2, false), (3, true), (4, true), (5, false), (6, false), (7, false), (9, false)] [8, 10, 11, 12] 12 (by kernel_rfl) (by kernel_rfl) (fun d v c a w h => by cases d <;> exact h) ⟨z0, z1⟩ ?_
  simp only [pickO, List.map_cons, List.map_nil, List.getD_cons_zero, List.getD_cons_succ]
  refine heldO_step (v := ?_) rfl ?_ ?_
  rotate_left
  · intro W hS
    obtain ⟨q0, q1⟩ := hS
    go_simp
    try rfl
  simp only [Act.put, List.setIfInBounds_toArray, List.set_cons_zero, List.set_cons_succ]
  refine heldO_stepY (v := ?_) rfl ?_ ?_
  rotate_left
  · intro W
    go_simp
    try rfl
  simp only [Act.put, List.setIfInBounds_toArray, List.set_cons_zero, List.set_cons_succ]
  refine heldO_stepY (v := ?_) rfl ?_ ?_
  rotate_left
  · intro W
    go_simp
    try rfl
  simp only [Act.put, List.setIfInBounds_toArray, List.set_cons_zero, List.set_cons_succ]
  refine heldO_step (v := ?_) rfl ?_ ?_
  rotate_left
  · intro W hS
    obtain ⟨q0, q1⟩ := hS
    go_simp
    try rfl
  simp only [Act.put, List.setIfInBounds_toArray, List.set_cons_zero, List.set_cons_succ]
  refine heldO_step (v := ?_) rfl ?_ ?_
  rotate_left
  · intro W hS
    obtain ⟨q0, q1⟩ := hS
    go_simp
    try rfl
  simp only [Act.put, List.setIfInBounds_toArray, List.set_cons_zero, List.set_cons_succ]
  refine heldO_stepY (v := ?_) rfl ?_ ?_
  rotate_left
  · intro W
    go_simp
    try rfl
  simp only [Act.put, List.setIfInBounds_toArray, List.set_cons_zero, List.set_cons_succ]
  refine heldO_stepY (v := ?_) rfl ?_ ?_
  rotate_left
  · intro W
    go_simp
    try rfl
  simp only [Act.put, List.setIfInBounds_toArray, List.set_cons_zero, List.set_cons_succ]
  refine heldO_stepY (v := ?_) rfl ?_ ?_
  rotate_left
  · intro W
    go_simp
    try rfl
  simp only [Act.put, List.setIfInBounds_toArray, List.set_cons_zero, List.set_cons_succ]
  refine heldO_stepY (v := ?_) rfl ?_ ?_
  rotate_left
  · intro W
    go_simp
    try rfl
  simp only [Act.put, List.setIfInBounds_toArray, List.set_cons_zero, List.set_cons_succ]
  refine heldO_nil ?_
  refine tailO_step rfl (fun K hK => ?_)
  go_simp
  refine (HCL.out _ (Below.refl _ _).drew).mono ?_
  rintro e w6 ⟨cv, rfl, hb6, hown⟩
  obtain ⟨va, vc, hvf⟩ := rowForm hown
  rw [HB5.out.2.1.cm.cells] at hvf
  subst hvf
  have hb6 : Below w5.heap.size w5 w6 := (Below.refl w5.heap.size w5).drew.trans hb6
  have hM6 := HB5.out.2.1.below hb6
  have hO6 := HB5.out.2.2.2.2.below hb6
  have hR6 := HB5.out.2.2.1.below hb6
  have hX6 := HB5.out.2.2.2.1.below hb6
  have s60 : w6.cell? ⟨PX, 0, none⟩ = some (.pointer (some ⟨M, 0, none⟩)) := by rw [hX6.cell]; rfl
  have s61 := hM6.cells.2.2.2
  obtain ⟨u0, u1, u2, u3⟩ := blkc4 hO6
  have g0 := hO6.frozen 0
  have g3 := hO6.frozen 3
  have hne := HNE.out
  have n1 : ¬ O = PX := by omega
  have n2 : ¬ O = M := by omega
  have n3 : ¬ PX = O := by omega
  have n4 : ¬ M = O := by omega
  obtain ⟨w7, hw7⟩ : ∃ w7, w7 = (w6.setCell ⟨O, 0, none⟩ (.slice sa sn sc)).setCell ⟨O, 3, none⟩ (.slice va 16 vc) := ⟨_, rfl⟩
  have hcn : ∀ q, (Value.slice va 16 vc).ownBlock = some q → w5.heap.size ≤ q := fun q hq => (World.ownsRow.lt hown q hq).1
  have ho5 := HO5.out
  have HB7 : Hid (Below PB w w7 ∧ Mn w7 M M (.slice fa (k + 1) fc) (.slice sa sn sc) r.cm ∧ Blk w7 R [.slice none 0 0, .int .i64 0, .int .i64 0, .slice none 0 0] ∧ Blk w7 PX [.pointer (some ⟨M, 0, none⟩)] ∧ Blk w7 O [.slice sa sn sc, .int .i64 (r.en : Int), .int .i64 (valOf r : Int), .slice va 16 vc] ∧ w7.ownsRow w5.heap.size 3 1 (.slice va 16 vc) r.cm.cells.length (nats r.cm.cells)) := Lib.hid (by
    rw [hw7]
    refine ⟨((HB5.out.1.trans (hb6.mono (by omega))).setCell (p := ⟨O, 0, none⟩) (by simp only []; omega) _).setCell (p := ⟨O, 3, none⟩) (by simp only []; omega) _, (hM6.other (a := ⟨O, 0, none⟩) (by simp only []; omega) HSO.out _).other (a := ⟨O, 3, none⟩) (by simp only []; omega) HSO.out _, (hR6.other (a := ⟨O, 0, none⟩) (by simp only []; omega) _).other (a := ⟨O, 3, none⟩) (by simp only []; omega) _, (hX6.other (a := ⟨O, 0, none⟩) (by simp only []; omega) _).other (a := ⟨O, 3, none⟩) (by simp only []; omega) _, (hO6.set 0 _).set 3 _, ownsRow_same hown (fun q hq => ?_)⟩
    have := hcn q hq
    rw [Below.heap_setCell _ _ _ _ (by simp only []; omega), Below.heap_setCell _ _ _ _ (by simp only []; omega)])
  refine hK _ _ (.inr ⟨s60, s61⟩) ?_
  clear hK K hown hb6 hM6 hO6 hR6 hX6 hcn ho5 hne HCL z0 z1 HB5
  refine tailO_step rfl (fun K hK => ?_)
  go_simp
  refine hK _ _ (.inr ⟨by simp [go_sem, s60, n1, n3], by simp [go_sem, s61, n2, n4]⟩) ?_
  clear hK K
  refine tailO_step rfl (fun K hK => ?_)
  go_simp
  refine hK _ _ (.inr ⟨by simp [go_sem, s60, n1, n3], by simp [go_sem, s61, n2, n4]⟩) ?_
  clear hK K
  refine tailO_step rfl (fun K hK => ?_)
  go_simp
  refine hK _ _ (.inl rfl) (tailO_nil ?_)
  clear hK K
  rw [← hw7]
  clear hw7 u0 u1 u2 u3 g0 g3 s60 s61
  obtain ⟨o0, o1, o2, o3⟩ := blkc4 HB7.out.2.2.2.2.1
  have z0 : w7.cell? ⟨PX, 0, none⟩ = some (.pointer (some ⟨M, 0, none⟩)) := by rw [HB7.out.2.2.2.1.cell]; rfl
  have z1 := HB7.out.2.1.cells.2.2.1
  obtain ⟨r0, r1, r2, r3⟩ := blkc4 HB7.out.2.2.1
  have f0 := HB7.out.2.2.1.frozen 0
  have f1 := HB7.out.2.2.1.frozen 1
  have f2 := HB7.out.2.2.1.frozen 2
  have f3 := HB7.out.2.2.1.frozen 3
  go_upto_region 5 with (fail)
  refine wp_region_held (fun W => (W.cell? ⟨PX, 0, none⟩ = some (.pointer (some ⟨M, 0, none⟩)) ∧ W.cell? ⟨M, 2, none⟩ = some (.int .i64 ((400 - r.cm.left : Nat) : Int))) ∧ W.cell? ⟨O, 0, none⟩ = some (.slice sa sn sc) ∧ W.cell? ⟨O, 1, none⟩ = some (.int .i64 (r.en : Int)) ∧ W.cell? ⟨O, 2, none⟩ = some (.int .i64 (valOf r : Int)) ∧ W.cell? ⟨O, 3, none⟩ = some (.slice va 16 vc)) [(0, true), (1, true), (2, false), (3, false), (4, true)] [5, 6] 6 (by kernel_rfl) (by kernel_rfl) (fun d v c a w h => by cases d <;> exact h) ⟨⟨z0, z1⟩, o0, o1, o2, o3⟩ ?_
  simp only [pickO, List.map_cons, List.map_nil, List.getD_cons_zero, List.getD_cons_succ]
  refine heldO_step (v := ?_) rfl ?_ ?_
  rotate_left
  · intro W hS
    obtain ⟨⟨q0, q1⟩, q2, q3, q4, q5⟩ := hS
    go_simp
    try rfl
  simp only [Act.put, List.setIfInBounds_toArray, List.set_cons_zero, List.set_cons_succ]
  refine heldO_step (v := ?_) rfl ?_ ?_
  rotate_left
  · intro W hS
    obtain ⟨⟨q0, q1⟩, q2, q3, q4, q5⟩ := hS
    go_simp
    try rfl
  simp only [Act.put, List.setIfInBounds_toArray, List.set_cons_zero, List.set_cons_succ]
  refine heldO_stepY (v := ?_) rfl ?_ ?_
  rotate_left
  · intro W
    go_simp
    try rfl
  simp only [Act.put, List.setIfInBounds_toArray, List.set_cons_zero, List.set_cons_succ]
  refine heldO_stepY (v := ?_) rfl ?_ ?_
  rotate_left
  · intro W
    go_simp
    try rfl
  simp only [Act.put, List.setIfInBounds_toArray, List.set_cons_zero, List.set_cons_succ]
  refine heldO_step (v := ?_) rfl ?_ ?_
  rotate_left
  · intro W hS
    obtain ⟨⟨q0, q1⟩, q2, q3, q4, q5⟩ := hS
    go_simp
    try rfl
  simp only [Act.put, List.setIfInBounds_toArray, List.set_cons_zero, List.set_cons_succ]
  refine heldO_nil ?_
  have hne := HNE.out
  have n1 : ¬ R = PX := by omega
  have n2 : ¬ R = M := by omega
  have n3 : ¬ R = O := by omega
  have n4 : ¬ PX = R := by omega
  have n5 : ¬ M = R := by omega
  have n6 : ¬ O = R := by omega
  obtain ⟨w8, hw8⟩ : ∃ w8, w8 = (((w7.setCell ⟨R, 0, none⟩ (.slice sa sn sc)).setCell ⟨R, 1, none⟩ (.int .i64 (r.en : Int))).setCell ⟨R, 2, none⟩ (.int .i64 (valOf r : Int))).setCell ⟨R, 3, none⟩ (.slice va 16 vc) := ⟨_, rfl⟩
  refine tailO_step rfl (fun K hK => ?_)
  go_simp
  refine hK _ _ (.inr ⟨⟨by simp [go_sem, z0, n1, n4], by simp [go_sem, z1, n2, n5]⟩, by simp [go_sem, o0, n3, n6], by simp [go_sem, o1, n3, n6], by simp [go_sem, o2, n3, n6], by simp [go_sem, o3, n3, n6]⟩) ?_
  clear hK K
  refine tailO_step rfl (fun K hK => ?_)
  go_simp
  refine hK _ _ (.inl rfl) (tailO_nil ?_)
  clear hK K
  obtain ⟨w9, hw9⟩ : ∃ w9 : World, w9 = w8.drew := ⟨_, rfl⟩
  have HB9 : Hid (Below w.heap.size w w9 ∧ (OutI w9 (.agg #[.slice sa sn sc, .int .i64 (r.en : Int), .int .i64 (valOf r : Int), .slice va 16 vc]) r ∧ OutN w.heap.size (.agg #[.slice sa sn sc, .int .i64 (r.en : Int), .int .i64 (valOf r : Int), .slice va 16 vc])) ∧ Blk w9 R [.slice sa sn sc, .int .i64 (r.en : Int), .int .i64 (valOf r : Int), .slice va 16 vc]) := Lib.hid (by
    have ho5 := HO5.out
    have hM8 : Mn w8 M M (.slice fa (k + 1) fc) (.slice sa sn sc) r.cm := by
      rw [hw8]
      exact (((HB7.out.2.1.other (a := ⟨R, 0, none⟩) (by simp only []; omega) HSR.out _).other (a := ⟨R, 1, none⟩) (by simp only []; omega) HSR.out _).other (a := ⟨R, 2, none⟩) (by simp only []; omega) HSR.out _).other (a := ⟨R, 3, none⟩) (by simp only []; omega) HSR.out _
    have hb8 : Below PB w w8 := by
      rw [hw8]
      exact (((HB7.out.1.setCell (p := ⟨R, 0, none⟩) (by simp only []; omega) _).setCell (p := ⟨R, 1, none⟩) (by simp only []; omega) _).setCell (p := ⟨R, 2, none⟩) (by simp only []; omega) _).setCell (p := ⟨R, 3, none⟩) (by simp only []; omega) _
    have hc8 : w8.ownsRow w5.heap.size 3 1 (.slice va 16 vc) r.cm.cells.length (nats r.cm.cells) := ownsRow_same HB7.out.2.2.2.2.2 (fun q hq => by
      have := (World.ownsRow.lt HB7.out.2.2.2.2.2 q hq).1
      rw [hw8]
      repeat rw [Below.heap_setCell _ _ _ _ (by simp only []; omega)])
    have hR8 : Blk w8 R [.slice sa sn sc, .int .i64 (r.en : Int), .int .i64 (valOf r : Int), .slice va 16 vc] := by
      rw [hw8]
      exact (((HB7.out.2.2.1.set 0 _).set 1 _).set 2 _).set 3 _
    rw [hw9]
    refine ⟨by rw [← hne.2.2.2.2.2]; exact hb8.drew, ?_, hR8.drew⟩
    have hns : NAt w8 (.slice sa sn sc) r.cm.said := NAt.of_own hM8.said
    have hnc : NAt w8 (.slice va 16 vc) r.cm.cells := NAt.of_own hc8
    have e1 := HSN.out
    subst e1
    have hx1 : ∀ q, (Value.slice sa r.cm.said.length sc).ownBlock = some q → w.heap.size ≤ q := fun q hq => by have := (World.ownsRow.lt hM8.said q hq).1; omega
    have hx2 : ∀ q, (Value.slice va 16 vc).ownBlock = some q → w.heap.size ≤ q := fun q hq => by have := (World.ownsRow.lt hc8 q hq).1; omega
    refine ⟨?_, fun _ _ _ _ _ _ _ _ e => by
      injection e with e
      simp at e
      obtain ⟨⟨rfl, rfl, rfl⟩, _, _, rfl, rfl, rfl⟩ := e
      exact ⟨hx1, hx2⟩⟩
    exact OutI.below (w := w8) ⟨sa, va, sc, vc, rfl, hns, hnc, by have := hM8.bd; omega, hM8.cm.cells⟩ (Below.refl _ _).drew)
  rw [← hw8, ← hw9]
  clear hw8 hw9 HB7 r0 r1 r2 r3 f0 f1 f2 f3 o0 o1 o2 o3 z0 z1 hne n1 n2 n3 n4 n5 n6
  obtain ⟨t0, t1, t2, t3⟩ := blkc4 HB9.out.2.2
  go_wp2_with (fail)
  refine bodyPost_ret (v := .tuple #[.agg #[.slice sa sn sc, .int .i64 (r.en : Int), .int .i64 (valOf r : Int), .slice va 16 vc], .int .i64 ((400 - r.cm.left : Nat) : Int)]) (by simp [results, Tryz.results40, go_sem, t0, t1, t2, t3]) rfl ?_
  exact ⟨_, _, rfl, HB9.out.1, HB9.out.2.1⟩
end Go.Proofs.YtpnliencahnmoaaGreatDoor

set_option linter.unusedVariables false
set_option linter.unusedSimpArgs false
set_option maxRecDepth 100000
namespace Go.Proofs.YtpnliencahnmoaaGreatDoor
open Go.RowKit
/-- how RunProgram answers -/
def RunI (fs : List Fx) (xs : List Nat) (w : World) (e : Ending) (w' : World) : Prop :=
  ∃ (v : Value) (b : Bool), e = .returned (.tuple #[v, .bool b]) ∧ Below w.heap.size w w' ∧ (b = true ↔ Fits fs xs) ∧ (b = false → v = .agg #[.slice none 0 0, .int .i64 0, .int .i64 0, .slice none 0 0]) ∧ (b = true → ∃ r g, evC fs g (fs.length - 1) xs (startCm 400) = some r ∧ OutI w' v r)
theorem run_of_fits {fs : List Fx} {xs : List Nat} (h : Fits fs xs) (hs : Small xs) : ∃ r g, evC fs g (fs.length - 1) xs (startCm 400) = some r := by
  obtain ⟨f, hf, hlf⟩ := h.2
  have hlen : 1 ≤ fs.length := by have := idx_lt hf; omega
  obtain ⟨g, r, hgr, _⟩ := ends_c h.1 (fs.length - 1 + 1) (fs.length - 1) (by omega) f hf xs (startCm 400) (by omega) hs (startCm_ok 400)
  exact ⟨r, g, hgr⟩
theorem OutI.form {w : World} {v : Value} {r : Rs} (h : OutI w v r) : ∃ (sa : Option Addr) (sl sc : Nat) (en z : Int) (ca : Option Addr) (cl cc : Nat), v = .agg #[.slice sa sl sc, .int .i64 en, .int .i64 z, .slice ca cl cc] := by
  obtain ⟨sa, ca, sc, cc, rfl, _⟩ := h
  exact ⟨_, _, _, _, _, _, _, _, rfl⟩
set_option maxHeartbeats 4000000 in
theorem implRun_any (w : World) (fs : List Fx) (v iv : Value) (xs : List Nat) (hK : KS w) (hW : FxsW fs) (hcap : CapOk v) (hX : FxsAt w v fs) (hle : fxsW fs ≤ 4194304) (hI : w.ownsRow 0 3 1 iv xs.length (nats xs)) (hs : Small xs) (hl3 : xs.length ≤ 3) :
    Calls Tryz.prog 17 #[.agg #[v], iv, .int .i64 400] w (RunI fs xs w) := by
  obtain ⟨fa, fc, hvf, hfm⟩ := hX.form
  obtain ⟨ia, ic, hif⟩ := rowForm hI
  obtain ⟨m, hm⟩ : ∃ m, m = xs.length := ⟨_, rfl⟩
  obtain ⟨l, hl⟩ : ∃ l, l = fs.length := ⟨_, rfl⟩
  rw [← hm] at hif
  rw [← hl] at hvf hfm
  subst hif hvf
  obtain ⟨w1, hw1⟩ : ∃ w1, w1 = (w.alloc (.cells #[.slice fa l fc] 31)).alloc (.cells #[.slice none 0 0, .int .i64 0, .int .i64 0, .slice none 0 0] 44) := ⟨_, rfl⟩
  obtain ⟨P, hP⟩ : ∃ p, p = w.heap.size := ⟨_, rfl⟩
  obtain ⟨R, hR⟩ : ∃ p, p = P + 1 := ⟨_, rfl⟩
  have hb1 : Below w.heap.size w w1 := by rw [hw1]; exact below2 _ _ _
  have hrs : Blk w1 R [.slice none 0 0, .int .i64 0, .int .i64 0, .slice none 0 0] := by rw [hw1]; exact Blk.fresh (by rw [hR, hP]; simp) rfl
  have hbx : Blk w1 P [.slice fa l fc] := by rw [hw1, hP]; exact (Blk.new w #[.slice fa l fc] 31).alloc _
  have HX := Lib.hid hX; have HI := Lib.hid hI; have HB1 := Lib.hid hb1; have HRS := Lib.hid hrs; have HBX := Lib.hid hbx; have HS := Lib.hid hs
  have HPR : Hid (P = w.heap.size ∧ R = P + 1) := Lib.hid ⟨hP, hR⟩
  have HIN := Lib.hid (fun w' => within_named 400 0 4000 true (by decide) w')
  by_cases hq : Fits fs xs
  · have HF := Lib.hid (canRun_any w1 fs _ _ xs (hK.below hb1) hW hcap (hX.below hb1) hle (ownsRow_below hI hb1) hs hl3 true ⟨fun _ => hq, fun _ => rfl⟩)
    obtain ⟨r, g, hev⟩ := run_of_fits hq hs
    have HQ := Lib.hid hq; have HEV := Lib.hid hev
    clear hX hle hI hs hq hb1 hrs hbx hl hm hK hW hcap hl3 hev
    go_enter Tryz.func17, Tryz.ntmps17
    go_upto_region 1 with (fail)
    rw [← hP, ← hR, ← hw1]
    clear hw1 hP hR
    have q0 : w1.cell? ⟨P, 0, none⟩ = some (.slice fa l fc) := by rw [HBX.out.cell]; rfl
    go_wp2_with (fail)
    go_at_call 38
    refine HF.out.mono ?_
    rintro e w2 ⟨rfl, hb2⟩
    have HB2 := Lib.hid (HB1.out.trans (hb2.mono HB1.out.size)); have HRS2 := Lib.hid (HRS.out.below hb2); have HBX2 := Lib.hid (HBX.out.below hb2)
    have q0 : w2.cell? ⟨P, 0, none⟩ = some (.slice fa l fc) := by rw [HBX2.out.cell]; rfl
    clear hb2
    go_wp2_with (fail)
    go_at_call 39
    refine (HIN.out _).mono ?_
    rintro e _ ⟨rfl, rfl⟩
    have HDO := Lib.hid (runMeaning_any w2 fs _ _ xs r g (HX.out.below HB2.out) HQ.out.1 HEV.out (NAt.of_own (ownsRow_below HI.out HB2.out)) HS.out)
    go_wp2_with (fail)
    go_at_call 40
    refine HDO.out.mono ?_
    rintro e w3 ⟨ov, oz, rfl, hb3, hoi, hon⟩
    obtain ⟨sa, sl, sc, en, z, ca, cl, cc, hof⟩ := hoi.form
    subst hof
    have hR3 := HRS2.out.below hb3
    obtain ⟨t0, t1, t2, t3⟩ := blkc4 hR3
    have u0 := hR3.frozen 0; have u1 := hR3.frozen 1; have u2 := hR3.frozen 2; have u3 := hR3.frozen 3
    have hRl := hR3.lt
    obtain ⟨O, hO⟩ : ∃ p, p = w3.heap.size := ⟨_, rfl⟩
    obtain ⟨w4, hw4⟩ : ∃ w4, w4 = w3.alloc (.cells #[.slice sa sl sc, .int .i64 en, .int .i64 z, .slice ca cl cc] 44) := ⟨_, rfl⟩
    have hb4 : Below w3.heap.size w3 w4 := by rw [hw4]; exact below1 _ _
    have HB4 : Hid (Below w.heap.size w w4 ∧ OutI w4 (.agg #[.slice sa sl sc, .int .i64 en, .int .i64 z, .slice ca cl cc]) r ∧ Blk w4 R [.slice none 0 0, .int .i64 0, .int .i64 0, .slice none 0 0] ∧ Blk w4 O [.slice sa sl sc, .int .i64 en, .int .i64 z, .slice ca cl cc]) := Lib.hid ⟨(HB2.out.trans (hb3.mono HB2.out.size)).trans (hb4.mono (by have := HB2.out.size; have := hb3.size; omega)), hoi.below hb4, hR3.below hb4, by rw [hw4]; exact Blk.fresh hO rfl⟩
    have HRO : Hid (R ≠ O ∧ R < w2.heap.size ∧ w.heap.size ≤ R ∧ OutN w2.heap.size (.agg #[.slice sa sl sc, .int .i64 en, .int .i64 z, .slice ca cl cc])) := Lib.hid ⟨by omega, HRS2.out.lt, by have := HPR.out; omega, hon⟩
    clear hb3 hoi hon hR3 hb4 q0
    go_upto_region 4 with (fail)
    rw [← hO, ← hw4]
    clear hw4 hO t0 t1 t2 t3 u0 u1 u2 u3 hRl
    obtain ⟨t0, t1, t2, t3⟩ := blkc4 HB4.out.2.2.1
    obtain ⟨p0, p1, p2, p3⟩ := blkc4 HB4.out.2.2.2
    have u0 := HB4.out.2.2.1.frozen 0; have u1 := HB4.out.2.2.1.frozen 1; have u2 := HB4.out.2.2.1.frozen 2; have u3 := HB4.out.2.2.1.frozen 3
    go_wp2_with (fail)
    have hro := HRO.out
    have hO : Only [R] w4 ((((w4.setCell ⟨R, 0, none⟩ (.slice sa sl sc)).setCell ⟨R, 1, none⟩ (.int .i64 en)).setCell ⟨R, 2, none⟩ (.int .i64 z)).setCell ⟨R, 3, none⟩ (.slice ca cl cc)) := ((((Only.refl _ _).setCell (by simp) _).setCell (by simp) _).setCell (by simp) _).setCell (by simp) _
    have HZ := Lib.hid ((((HB4.out.2.2.1.set 0 (.slice sa sl sc)).set 1 (.int .i64 en)).set 2 (.int .i64 z)).set 3 (.slice ca cl cc))
    have HOW := Lib.hid (HB4.out.2.1.only hro.2.2.2 hO hro.2.1)
    have HBW := Lib.hid ((((HB4.out.1.setCell (p := ⟨R, 0, none⟩) (by simp only []; omega) (.slice sa sl sc)).setCell (p := ⟨R, 1, none⟩) (by simp only []; omega) (.int .i64 en)).setCell (p := ⟨R, 2, none⟩) (by simp only []; omega) (.int .i64 z)).setCell (p := ⟨R, 3, none⟩) (by simp only []; omega) (.slice ca cl cc))
    generalize hWW : World.setCell _ _ _ = W
    rw [hWW] at HOW HBW HZ
    obtain ⟨z0, z1, z2, z3⟩ := blkc4 (show Blk W R [.slice sa sl sc, .int .i64 en, .int .i64 z, .slice ca cl cc] from HZ.out)
    clear hWW hO
    refine bodyPost_ret (v := .tuple #[.agg #[.slice sa sl sc, .int .i64 en, .int .i64 z, .slice ca cl cc], .bool true]) (by simp [results, Tryz.results17, go_sem, z0, z1, z2, z3]) rfl ?_
    exact ⟨_, true, rfl, HBW.out, ⟨fun _ => HQ.out, fun _ => rfl⟩, (fun h => by cases h), fun _ => ⟨r, g, HEV.out, HOW.out⟩⟩
  · have HF := Lib.hid (canRun_any w1 fs _ _ xs (hK.below hb1) hW hcap (hX.below hb1) hle (ownsRow_below hI hb1) hs hl3 false ⟨fun h => (by cases h), fun h => absurd h hq⟩)
    have HQ := Lib.hid hq
    clear hX hle hI hs hl3 hq hb1 hrs hbx hl hm hK hW hcap
    go_enter Tryz.func17, Tryz.ntmps17
    go_upto_region 1 with (fail)
    rw [← hP, ← hR, ← hw1]
    clear hw1 hP hR
    have q0 : w1.cell? ⟨P, 0, none⟩ = some (.slice fa l fc) := by rw [HBX.out.cell]; rfl
    go_wp2_with (fail)
    go_at_call 38
    refine HF.out.mono ?_
    rintro e w2 ⟨rfl, hb2⟩
    have HB2 := Lib.hid (HB1.out.trans (hb2.mono HB1.out.size))
    have hrs3 := HRS.out.below hb2
    obtain ⟨t0, t1, t2, t3⟩ := blkc4 hrs3
    have u0 := hrs3.frozen 0; have u1 := hrs3.frozen 1; have u2 := hrs3.frozen 2; have u3 := hrs3.frozen 3
    clear hb2 hrs3
    go_wp2_with (fail)
    have hpr := HPR.out
    refine bodyPost_ret (v := .tuple #[.agg #[.slice none 0 0, .int .i64 0, .int .i64 0, .slice none 0 0], .bool false]) (by simp [results, Tryz.results17, go_sem, t0, t1, t2, t3]) rfl ?_
    exact ⟨_, false, rfl, (((HB2.out.setCell (p := ⟨R, 0, none⟩) (by simp only []; omega) _).setCell (p := ⟨R, 1, none⟩) (by simp only []; omega) _).setCell (p := ⟨R, 2, none⟩) (by simp only []; omega) _).setCell (p := ⟨R, 3, none⟩) (by simp only []; omega) _, ⟨fun h => (by cases h), fun h => absurd h HQ.out⟩, fun _ => rfl, (fun h => by cases h)⟩
end Go.Proofs.YtpnliencahnmoaaGreatDoor
