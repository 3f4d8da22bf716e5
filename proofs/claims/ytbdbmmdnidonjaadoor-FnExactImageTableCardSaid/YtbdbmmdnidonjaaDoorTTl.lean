/- FnExactImageTable answers true for every row of bytes. Premises of the walk: the table of forms and the magic bytes read as laid (the card ties them). -/
import Derived.Test.YtbdbmmdnidonjaaDoorTTu
set_option linter.unusedVariables false
set_option linter.unusedSimpArgs false
set_option maxRecDepth 100000
namespace Go.Proofs.YtbdbmmdnidonjaaDoor
open Go.RowKit
theorem tabAns_len {b : List Nat} (h : ∀ x ∈ b, x < 256) : (tabAns b).length < 256 := by
  unfold tabAns
  cases hr : readI b with
  | none => simp
  | some r =>
    obtain ⟨l, fs⟩ := r
    have := (secF_len (readI_tab hr).2).1
    rw [secRows_len, this]
    exact byteN_lt h _
set_option maxHeartbeats 4000000 in
theorem imageTableLaw (w : World) (v : Value) (b : List Nat) (hF : Forms w) (hM : Magic w) (h : CsAt w v b) (hle : b.length ≤ 1048576) : Calls Tryd.prog 8 #[v] w (Yes w) := by
  have HCS := Lib.hid h; have HFO := Lib.hid hF; have HMG := Lib.hid hM
  have HLE := Lib.hid hle
  obtain ⟨a, cap, rfl, hsm, _⟩ := h
  obtain ⟨zss, hzs⟩ : ∃ zss, zss = tabAns b := ⟨_, rfl⟩
  obtain ⟨n, hn⟩ : ∃ n, n = zss.length := ⟨_, rfl⟩
  have hn6 : n < 256 := by rw [hn, hzs]; exact tabAns_len hsm
  have HZ4 : Hid (∀ zs ∈ zss, zs.length = 4) := Lib.hid (by rw [hzs]; exact tabAns_four)
  have HZS := Lib.hid hzs; have HN := Lib.hid hn
  obtain ⟨L, hL⟩ : ∃ L, L = b.length := ⟨_, rfl⟩
  have hm : b.length ≤ 1099511627776 := by omega
  have HTO := Lib.hid (fun w' h => toBytesO (w := w') (v := .slice a b.length cap) (b := b) h hm)
  rw [← hL] at HCS HLE HTO ⊢
  have HLN := Lib.hid hL
  have g1 : (L : Int) ≤ 1048576 := by have := HLE.out; omega
  obtain ⟨Q, hQ⟩ : ∃ Q, Q = Yes w := ⟨_, rfl⟩
  have HQ : Hid (∀ w', Below w.heap.size w w' → Q (.returned (.bool true)) w') := Lib.hid (fun w' h2 => by rw [hQ]; exact ⟨rfl, h2⟩)
  rw [← hQ]
  have HSP := Lib.hid (fun w' v' (h : CsC w' v' b) => specImageTable_any w' v' b h (by rw [← HLN.out]; exact HLE.out))
  have HIM := Lib.hid (fun w' v' (hb : Below w.heap.size w w') (h : CsC w' v' b) => implImageTable_any w' v' b (HFO.out.below hb) (HMG.out.below hb) h (by rw [← HLN.out]; exact HLE.out))
  unfold ItP at HSP HIM
  rw [← hzs] at HSP HIM
  have HEQ := Lib.hid (fun w' v1 v2 h1 h2 => eqIntSS_same w' v1 v2 zss h1 h2 (by rw [← HN.out]; omega) HZ4.out)
  clear hL hQ hF hM hm hle hzs hn hsm
  go_enter Tryd.func8, Tryd.ntmps8
  go_wp2_with (fail)
  go_at_call 32
  refine (HTO.out w HCS.out).mono ?_
  rintro e w1 ⟨p1, rfl, _, h1, b1⟩
  have H1 := Lib.hid h1; have B1 := Lib.hid b1
  clear h1 b1
  go_wp2_with (fail)
  go_at_call 35
  refine (HSP.out w1 _ H1.out).mono ?_
  rintro e w2 ⟨v0, rfl, h2, b2⟩
  have R0 := Lib.hid (h2.read HZ4.out)
  have B2 := Lib.hid (B1.out.trans (b2.mono B1.out.size))
  obtain ⟨a0, c0, rfl⟩ := h2.form
  rw [List.length_map, ← HN.out] at R0 ⊢
  clear h2 b2 H1
  go_wp2_with (fail)
  go_at_call 32
  refine (HTO.out w2 (HCS.out.below B2.out)).mono ?_
  rintro e w3 ⟨p3, rfl, o3, h3, b3⟩
  have H3 := Lib.hid h3; have O3 := Lib.hid o3; have B3 := Lib.hid (B2.out.trans (b3.mono B2.out.size))
  have C3 := Lib.hid b3
  clear h3 b3 o3
  go_wp2_with (fail)
  go_at_call 36
  refine (HIM.out w3 _ B3.out H3.out).mono ?_
  rintro e w4 ⟨v4, rfl, h4, b4⟩
  obtain ⟨a4, c4, rfl⟩ := h4.form
  rw [List.length_map, ← HN.out] at h4 ⊢
  have T4 := Lib.hid h4
  have B4 := Lib.hid (B3.out.trans (b4.mono B3.out.size))
  have C4 := Lib.hid (C3.out.trans (b4.mono C3.out.size))
  have O4 := Lib.hid (ownsRow_below O3.out b4)
  have X4 := Lib.hid (H3.out.below b4)
  have S3 : Hid (w2.heap.size ≤ w3.heap.size ∧ w3.heap.size ≤ w4.heap.size) := Lib.hid ⟨C3.out.size, b4.size⟩
  have P3 : Hid (w2.heap.size ≤ p3 ∧ p3 < w3.heap.size) := Lib.hid ⟨(ownsRow_lt O3.out).2.1, (ownsRow_lt O3.out).1⟩
  clear h4 b4 H3 O3 B3
  go_wp2_with (fail)
  go_at_call 37
  refine (HEQ.out w4 _ _ (T4.out.read HZ4.out) (R0.out.below C4.out)).mono ?_
  rintro e w5 ⟨rfl, b5⟩
  have T5 := Lib.hid (T4.out.below b5)
  have S5 : Hid (w3.heap.size ≤ w5.heap.size) := Lib.hid (Nat.le_trans S3.out.2 b5.size)
  have B5 := Lib.hid (B4.out.trans (b5.mono B4.out.size))
  have C5 := Lib.hid (C4.out.trans (b5.mono C4.out.size))
  have O5 := Lib.hid (ownsRow_below O4.out b5)
  have X5 := Lib.hid (X4.out.below b5)
  clear b5 T4 B4 C4 O4 X4
  go_wp2_with (fail)
  go_at_call 32
  refine (HTO.out w5 (HCS.out.below B5.out)).mono ?_
  rintro e w6 ⟨p6, rfl, _, h6, b6⟩
  have X6 := Lib.hid h6
  have X6' := Lib.hid (X5.out.below b6)
  have T6 := Lib.hid (T5.out.below b6)
  have S6 : Hid (w3.heap.size ≤ w6.heap.size) := Lib.hid (Nat.le_trans S5.out b6.size)
  have B6 := Lib.hid (B5.out.trans (b6.mono B5.out.size))
  have C6 := Lib.hid (C5.out.trans (b6.mono C5.out.size))
  have O6 := Lib.hid (ownsRow_below O5.out b6)
  clear h6 b6 T5 B5 C5 O5 X5
  go_wp2_with (fail)
  go_at_call 34
  refine (eqBytes X6'.out.1 X6.out.1 (by have := HLE.out; rw [← HLN.out]; omega)).mono ?_
  rintro e w7 ⟨rfl, b7⟩
  have T7 := Lib.hid (T6.out.below b7)
  have S7 : Hid (w3.heap.size ≤ w7.heap.size) := Lib.hid (Nat.le_trans S6.out b7.size)
  have B7 := Lib.hid (B6.out.trans (b7.mono B6.out.size))
  have C7 := Lib.hid (C6.out.trans (b7.mono C6.out.size))
  have O7 := Lib.hid (ownsRow_below O6.out b7)
  clear b7 T6 B6 C6 O6 X6 X6'
  have hL0 : (L : Int) + 1 = ((1 + L : Nat) : Int) := by omega
  go_wp2_with (fail)
  go_at_call 38
  refine (markByteS_any w7 _ p3 L L 1 _ O7.out (by omega)).mono ?_
  rintro e w8 ⟨rfl, hon⟩
  have T8 := Lib.hid (T7.out.keep (fun k h1 h2 => hon.block k h2 (fun hm => by have := List.mem_singleton.1 hm; have := P3.out; omega)))
  have B8 := Lib.hid (Only.below B7.out hon (B7.out.size) (fun q hq => by rw [List.mem_singleton.1 hq]; have := P3.out; have := B2.out.size; omega))
  have C8 := Lib.hid (Only.below C7.out hon (C7.out.size) (fun q hq => by rw [List.mem_singleton.1 hq]; exact P3.out.1))
  have S8 : Hid (w3.heap.size ≤ w8.heap.size) := Lib.hid (Nat.le_trans S7.out hon.size)
  have q0 : (0 : Int) ≤ ((1 + L : Nat) : Int) := by omega
  clear hon T7 B7 C7 O7
  go_wp2_with (fail)
  go_at_call 37
  refine (HEQ.out w8 _ _ (T8.out.read HZ4.out) (R0.out.below C8.out)).mono ?_
  rintro e w9 ⟨rfl, b9⟩
  have T9 := Lib.hid (T8.out.below b9)
  have B9 := Lib.hid (B8.out.trans (b9.mono B8.out.size))
  have C9 := Lib.hid (C8.out.trans (b9.mono C8.out.size))
  have S9 : Hid (w3.heap.size ≤ w9.heap.size) := Lib.hid (Nat.le_trans S8.out b9.size)
  clear b9 T8 B8 C8
  go_wp2_with (fail)
  go_at_call 39
  refine (markIntSS_any w9 w3.heap.size _ n 1 _ (by rw [List.length_map]; exact HN.out) T9.out S9.out (by omega) (by omega)).mono ?_
  rintro e w10 ⟨rfl, h10, b10⟩
  have T10 := Lib.hid h10
  have B10 := Lib.hid (B9.out.trans (b10.mono (by have := S3.out; have := B2.out.size; omega)))
  have C10 := Lib.hid (C9.out.trans (b10.mono S3.out.1))
  have RM := Lib.hid (fun w' (hb : Below w10.heap.size w10 w') => (T10.out.read markedRows_four).below hb)
  obtain ⟨q2, hq2⟩ : ∃ q2 : Nat, 1 + 4 * n = q2 := ⟨_, rfl⟩
  rw [hq2]
  have HQ2 := Lib.hid hq2
  have hq20 : (0 : Int) ≤ (q2 : Int) := by omega
  have eq2 : ((q2 : Int) != (q2 : Int)) = false := by simp
  clear h10 b10 hq2 T9 B9 C9
  go_wp2_with (fail)
  go_at_call 40
  refine (heldIntSS_any w10 _ n 1 (RM.out w10 (Below.refl _ _)) (by omega) (by omega)).mono ?_
  rw [HQ2.out]
  rintro e _ ⟨rfl, rfl⟩
  go_wp2_with (fail)
  go_at_call 32
  refine (HTO.out w10 (HCS.out.below B10.out)).mono ?_
  rintro e w11 ⟨p11, rfl, _, h11, b11⟩
  have X11 := Lib.hid h11
  have M11 := Lib.hid b11
  have B11 := Lib.hid (B10.out.trans (b11.mono B10.out.size))
  have C11 := Lib.hid (C10.out.trans (b11.mono C10.out.size))
  clear h11 b11
  go_wp2_with (fail)
  go_at_call 36
  refine (HIM.out w11 _ B11.out X11.out).mono ?_
  rintro e w12 ⟨v12, rfl, h12, b12⟩
  obtain ⟨a12, c12, rfl⟩ := h12.form
  rw [List.length_map, ← HN.out] at h12 ⊢
  have T12 := Lib.hid h12
  have M12 := Lib.hid (M11.out.trans (b12.mono M11.out.size))
  have B12 := Lib.hid (B11.out.trans (b12.mono B11.out.size))
  have C12 := Lib.hid (C11.out.trans (b12.mono C11.out.size))
  clear h12 b12 M11 B11 C11 X11
  go_wp2_with (fail)
  go_at_call 37
  refine (HEQ.out w12 _ _ (T12.out.read HZ4.out) (R0.out.below C12.out)).mono ?_
  rintro e w13 ⟨rfl, b13⟩
  have M13 := Lib.hid (M12.out.trans (b13.mono M12.out.size))
  have B13 := Lib.hid (B12.out.trans (b13.mono B12.out.size))
  clear b13 T12 M12 B12 C12
  go_wp2_with (fail)
  go_at_call 40
  refine (heldIntSS_any w13 _ n 1 (RM.out w13 M13.out) (by omega) (by omega)).mono ?_
  rw [HQ2.out]
  rintro e _ ⟨rfl, rfl⟩
  go_wp2_with (fail)
  first | go_ret | skip
  exact HQ.out _ B13.out
set_option maxHeartbeats 1000000 in
theorem imageTableBig (w : World) (a : Option Addr) (n cap : Nat) (hn : 1048576 < n) (hn2 : n ≤ 9223372036854775807) : Calls Tryd.prog 8 #[.slice a n cap] w (Yes w) := by
  have g1 : (1048576 : Int) < n := by omega
  go_enter Tryd.func8, Tryd.ntmps8
  go_wp2_with (fail)
  go_ret
  exact ⟨rfl, Below.refl _ _⟩
end Go.Proofs.YtbdbmmdnidonjaaDoor
