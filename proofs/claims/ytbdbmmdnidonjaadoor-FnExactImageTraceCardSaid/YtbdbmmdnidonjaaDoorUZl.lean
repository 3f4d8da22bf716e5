/- FnExactImageTrace answers true for every row of bytes, all numbers, all steps. Premises of the walk: the tables of forms and magic bytes read as laid (the card ties them). -/
import Derived.Test.YtbdbmmdnidonjaaDoorUZt
import Derived.Test.YtbdbmmdnidonjaaDoorUJn
import Derived.Test.YtbdbmmdnidonjaaDoorUTt
set_option linter.unusedVariables false
set_option linter.unusedSimpArgs false
set_option maxRecDepth 100000
namespace Go.Proofs.YtbdbmmdnidonjaaDoor
open Go.RowKit
theorem trOf_len {b : List Nat} {zs : List Int} {steps : Int} : (trOf (imgRun b zs steps)).length ≤ 500 := by
 cases h : imgRun b zs steps with
 |none => simp [trOf]
 |some r => exact (imgRun_ok h).2.2
theorem said_form {w : World} {B : Nat} {v : Value} {xs : List Nat} {n : Nat} (h : Said w B v xs) (hn : n = xs.length) : ∃ a c, v = .slice a n c := by
 subst hn; exact saidForm h
set_option maxHeartbeats 8000000 in
theorem imageTraceLaw (w : World) (v vi : Value) (b : List Nat) (zs : List Int) (steps : Int) (hF : Forms w) (hM : Magic w) (h : CsAt w v b) (hle : b.length ≤ 1048576) (hi : IntsAt w vi zs) (hz : zs.length ≤ 1048576) : Calls Tryd.prog 10 #[v, vi, .int .i64 steps] w (Yes w) := by
 have HCS := Lib.hid h; have HFO := Lib.hid hF; have HMG := Lib.hid hM
 have HLE := Lib.hid hle
 have HI := Lib.hid hi
 obtain ⟨a, cap, rfl, _, _⟩ := h
 obtain ⟨ia, icap, rfl, hic⟩ := hi
 obtain ⟨L, hL⟩ : ∃ L, L = b.length := ⟨_, rfl⟩
 obtain ⟨m, hm⟩ : ∃ m, m = zs.length := ⟨_, rfl⟩
 have hmb : b.length ≤ 1099511627776 := by omega
 have HTO := Lib.hid (fun w' h => toBytesO (w := w') (v := .slice a b.length cap) (b := b) h hmb)
 have HTI := Lib.hid (fun w' (hb : Below w.heap.size w w') => toInts (HI.out.below hb) (by omega))
 unfold NewInts at HTI
 rw [← hL] at HCS HLE HTO ⊢
 rw [← hm] at HI HTI hz ⊢
 have HLN := Lib.hid hL
 have HMN := Lib.hid hm
 have g1 : (L : Int) ≤ 1048576 := by have := HLE.out; omega
 have g2 : (m : Int) ≤ 1048576 := by omega
 obtain ⟨Q, hQ⟩ : ∃ Q, Q = Yes w := ⟨_, rfl⟩
 have HQ : Hid (∀ w', Below w.heap.size w w' → Q (.returned (.bool true)) w') := Lib.hid (fun w' h2 => by rw [hQ]; exact ⟨rfl, h2⟩)
 rw [← hQ]
 obtain ⟨o, ho⟩ : ∃ o, o = imgRun b zs steps := ⟨_, rfl⟩
 obtain ⟨tr, htr⟩ : ∃ tr, tr = trOf o := ⟨_, rfl⟩
 obtain ⟨n, hn⟩ : ∃ n, n = tr.length := ⟨_, rfl⟩
 have hn5 : n ≤ 500 := by rw [hn, htr, ho]; exact trOf_len
 have HN := Lib.hid hn
 have HZT : Hid ((toInts0 tr).length = n) := Lib.hid (by rw [toInts0_len, hn])
 have HSP := Lib.hid (fun w' v' p (h : CsC w' v' b) (hs : InSrc w' p 0 m m zs) => specImageTrace_any w' v' b h (by rw [← HLN.out]; exact HLE.out) p m m zs hs steps)
 have HIM := Lib.hid (fun w' v' p (hb : Below w.heap.size w w') (h : CsC w' v' b) (hs : InSrc w' p 0 m m zs) => implImageTrace_any w' v' b (HFO.out.below hb) (HMG.out.below hb) h (by rw [← HLN.out]; exact HLE.out) p m m zs hs steps)
 unfold TrRd at HSP
 unfold TrP at HIM
 rw [← ho, ← htr] at HSP HIM
 have HEQ := Lib.hid (fun w' v1 v2 (h1 : IntsAt w' v1 (toInts0 tr)) (h2 : IntsAt w' v2 (toInts0 tr)) => eqInts h1 h2 (by rw [HZT.out]; omega))
 clear hL hQ hF hM hmb hle hm hic ho htr hn
 go_enter Tryd.func10, Tryd.ntmps10
 go_wp2_with (fail)
 go_at_call 32
 refine (HTO.out w HCS.out).mono ?_
 rintro e w1 ⟨p1, rfl, _, h1, b1⟩
 have H1 := Lib.hid h1; have B1 := Lib.hid b1
 clear h1 b1
 go_wp2_with (fail)
 go_at_call 19
 refine (HTI.out w1 B1.out).mono ?_
 rintro e w2 ⟨p2, rfl, h2, b2⟩
 have H2 := Lib.hid (inSrc_own h2 HMN.out (by omega))
 have H1' := Lib.hid (H1.out.below b2)
 have B2 := Lib.hid (B1.out.trans (b2.mono B1.out.size))
 clear h2 b2 H1
 go_wp2_with (fail)
 go_at_call 43
 refine (HSP.out w2 _ p2 H1'.out H2.out).mono ?_
 rintro e w3 ⟨v0, rfl, h3, b3⟩
 obtain ⟨a0, c0, rfl, _⟩ := id h3
 rw [HZT.out] at h3 ⊢
 have R0 := Lib.hid h3
 have B3 := Lib.hid (B2.out.trans (b3.mono B2.out.size))
 clear h3 b3 H2 H1'
 go_wp2_with (fail)
 go_at_call 32
 refine (HTO.out w3 (HCS.out.below B3.out)).mono ?_
 rintro e w4 ⟨p4, rfl, o4, h4, b4⟩
 have X4 := Lib.hid h4; have O4 := Lib.hid o4; have B4 := Lib.hid (B3.out.trans (b4.mono B3.out.size))
 have C4 := Lib.hid b4
 have P4 : Hid (w3.heap.size ≤ p4 ∧ p4 < w4.heap.size) := Lib.hid ⟨(ownsRow_lt o4).2.1, (ownsRow_lt o4).1⟩
 clear h4 b4 o4
 go_wp2_with (fail)
 go_at_call 19
 refine (HTI.out w4 B4.out).mono ?_
 rintro e w5 ⟨p5, rfl, o5, b5⟩
 have O5 := Lib.hid o5
 have X5 := Lib.hid (inSrc_own o5 HMN.out (by omega))
 have P5 : Hid (w4.heap.size ≤ p5 ∧ p5 < w5.heap.size) := Lib.hid ⟨(ownsRow_lt o5).2.1, (ownsRow_lt o5).1⟩
 have X4' := Lib.hid (X4.out.below b5)
 have O4' := Lib.hid (ownsRow_below O4.out b5)
 have B5 := Lib.hid (B4.out.trans (b5.mono B4.out.size))
 have C5 := Lib.hid (C4.out.trans (b5.mono C4.out.size))
 have S45 : Hid (w3.heap.size ≤ w4.heap.size ∧ w4.heap.size ≤ w5.heap.size) := Lib.hid ⟨C4.out.size, b5.size⟩
 clear o5 b5 X4 O4 B4 C4
 go_wp2_with (fail)
 go_at_call 44
 refine (HIM.out w5 _ p5 B5.out X4'.out X5.out).mono ?_
 rintro e w6 ⟨v6, rfl, h6, b6⟩
 obtain ⟨a6, c6, rfl⟩ := said_form h6 HN.out
 have T6 := Lib.hid h6
 have B6 := Lib.hid (B5.out.trans (b6.mono B5.out.size))
 have C6 := Lib.hid (C5.out.trans (b6.mono C5.out.size))
 have O46 := Lib.hid (ownsRow_below O4'.out b6)
 have X46 := Lib.hid (X4'.out.below b6)
 have O56 := Lib.hid (ownsRow_below O5.out b6)
 have X56 := Lib.hid (X5.out.below b6)
 have S6 : Hid (w5.heap.size ≤ w6.heap.size) := Lib.hid b6.size
 clear h6 b6 O4' X4' O5 X5 B5 C5
 go_wp2_with (fail)
 go_at_call 21
 refine (HEQ.out w6 _ _ T6.out.ints (R0.out.below C6.out)).mono ?_
 rintro e w7 ⟨rfl, b7⟩
 have T7 := Lib.hid (T6.out.below b7)
 have B7 := Lib.hid (B6.out.trans (b7.mono B6.out.size))
 have C7 := Lib.hid (C6.out.trans (b7.mono C6.out.size))
 have O47 := Lib.hid (ownsRow_below O46.out b7)
 have X47 := Lib.hid (X46.out.below b7)
 have O57 := Lib.hid (ownsRow_below O56.out b7)
 have X57 := Lib.hid (X56.out.below b7)
 have S7 : Hid (w5.heap.size ≤ w7.heap.size) := Lib.hid (Nat.le_trans S6.out b7.size)
 clear b7 T6 B6 C6 O46 X46 O56 X56
 go_wp2_with (fail)
 go_at_call 32
 refine (HTO.out w7 (HCS.out.below B7.out)).mono ?_
 rintro e w8 ⟨p8, rfl, _, h8, b8⟩
 have X8 := Lib.hid h8
 have X48 := Lib.hid (X47.out.below b8)
 have T8 := Lib.hid (T7.out.below b8)
 have B8 := Lib.hid (B7.out.trans (b8.mono B7.out.size))
 have C8 := Lib.hid (C7.out.trans (b8.mono C7.out.size))
 have O48 := Lib.hid (ownsRow_below O47.out b8)
 have O58 := Lib.hid (ownsRow_below O57.out b8)
 have X58 := Lib.hid (X57.out.below b8)
 have S8 : Hid (w5.heap.size ≤ w8.heap.size) := Lib.hid (Nat.le_trans S7.out b8.size)
 clear h8 b8 T7 B7 C7 O47 X47 O57 X57
 go_wp2_with (fail)
 go_at_call 34
 refine (eqBytes X48.out.1 X8.out.1 (by have := HLE.out; rw [← HLN.out]; omega)).mono ?_
 rintro e w9 ⟨rfl, b9⟩
 have T9 := Lib.hid (T8.out.below b9)
 have B9 := Lib.hid (B8.out.trans (b9.mono B8.out.size))
 have C9 := Lib.hid (C8.out.trans (b9.mono C8.out.size))
 have O49 := Lib.hid (ownsRow_below O48.out b9)
 have O59 := Lib.hid (ownsRow_below O58.out b9)
 have X59 := Lib.hid (X58.out.below b9)
 have S9 : Hid (w5.heap.size ≤ w9.heap.size) := Lib.hid (Nat.le_trans S8.out b9.size)
 clear b9 T8 B8 C8 O48 O58 X58 X8 X48
 go_wp2_with (fail)
 go_at_call 19
 refine (HTI.out w9 B9.out).mono ?_
 rintro e w10 ⟨p10, rfl, h10, b10⟩
 have XA := Lib.hid (inSrc_own h10 HMN.out (by omega)).ints
 have XB := Lib.hid (X59.out.below b10).ints
 have T10 := Lib.hid (T9.out.below b10)
 have B10 := Lib.hid (B9.out.trans (b10.mono B9.out.size))
 have C10 := Lib.hid (C9.out.trans (b10.mono C9.out.size))
 have O410 := Lib.hid (ownsRow_below O49.out b10)
 have O510 := Lib.hid (ownsRow_below O59.out b10)
 have S10 : Hid (w5.heap.size ≤ w10.heap.size) := Lib.hid (Nat.le_trans S9.out b10.size)
 clear h10 b10 T9 B9 C9 O49 O59 X59
 go_wp2_with (fail)
 go_at_call 21
 refine (eqInts XB.out XA.out (by rw [← HMN.out]; omega)).mono ?_
 rintro e w11 ⟨rfl, b11⟩
 have T11 := Lib.hid (T10.out.below b11)
 have B11 := Lib.hid (B10.out.trans (b11.mono B10.out.size))
 have C11 := Lib.hid (C10.out.trans (b11.mono C10.out.size))
 have O411 := Lib.hid (ownsRow_below O410.out b11)
 have O511 := Lib.hid (ownsRow_below O510.out b11)
 have S11 : Hid (w5.heap.size ≤ w11.heap.size) := Lib.hid (Nat.le_trans S10.out b11.size)
 clear b11 T10 B10 C10 O410 O510 XA XB
 go_wp2_with (fail)
 go_at_call 38
 refine (markByteS_any w11 _ p4 L L 1 _ O411.out (by omega)).mono ?_
 rintro e w12 ⟨rfl, hon⟩
 have T12 : Hid (Said w12 w5.heap.size (.slice a6 n c6) tr) := Lib.hid (T11.out.same (fun k hk => hon.block k (T11.out.lt hk).2 (fun hm => by have := List.mem_singleton.1 hm; have := (T11.out.lt hk).1; have := P4.out; have := S45.out; omega)))
 have B12 := Lib.hid (Only.below B11.out hon (B11.out.size) (fun q hq => by rw [List.mem_singleton.1 hq]; have := P4.out; have := B3.out.size; omega))
 have C12 := Lib.hid (Only.below C11.out hon (C11.out.size) (fun q hq => by rw [List.mem_singleton.1 hq]; exact P4.out.1))
 have O512 := Lib.hid (ownsRow_same O511.out (fun k hk => hon.block k (World.ownsRow.lt O511.out k hk).2 (fun hm => by have := List.mem_singleton.1 hm; have := (World.ownsRow.lt O511.out k hk).1; have := P4.out; omega)))
 have S12 : Hid (w5.heap.size ≤ w12.heap.size) := Lib.hid (Nat.le_trans S11.out hon.size)
 obtain ⟨k1, hk1⟩ : ∃ k1 : Nat, 1 + L = k1 := ⟨_, rfl⟩
 rw [hk1]
 have hk1' : k1 ≤ 1048577 := by omega
 clear hon T11 B11 C11 O411 O511 hk1
 go_wp2_with (fail)
 go_at_call 28
 refine (markIntS_only w12 _ _ m k1 _ O512.out (by omega)).mono ?_
 rintro e w13 ⟨rfl, _, hon⟩
 have hon : Only [p5] w12 w13 := hon
 have T13 : Hid (Said w13 w5.heap.size (.slice a6 n c6) tr) := Lib.hid (T12.out.same (fun k hk => hon.block k (T12.out.lt hk).2 (fun hm => by have := List.mem_singleton.1 hm; have := (T12.out.lt hk).1; have := P5.out; omega)))
 have B13 := Lib.hid (Only.below B12.out hon (B12.out.size) (fun q hq => by rw [List.mem_singleton.1 hq]; have := P5.out; have := S45.out; have := B3.out.size; omega))
 have C13 := Lib.hid (Only.below C12.out hon (C12.out.size) (fun q hq => by rw [List.mem_singleton.1 hq]; have := P5.out; have := S45.out; omega))
 have S13 : Hid (w5.heap.size ≤ w13.heap.size) := Lib.hid (Nat.le_trans S12.out hon.size)
 obtain ⟨k2, hk2⟩ : ∃ k2 : Nat, k1 + m = k2 := ⟨_, rfl⟩
 rw [hk2]
 have q0 : (0 : Int) ≤ (k2 : Int) := by omega
 clear hon T12 B12 C12 O512 hk2
 go_wp2_with (fail)
 go_at_call 21
 have ti := T13.out.ints
 refine (HEQ.out w13 _ _ ti (R0.out.below C13.out)).mono ?_
 rintro e w14 ⟨rfl, b14⟩
 have T14 := Lib.hid (T13.out.below b14)
 have B14 := Lib.hid (B13.out.trans (b14.mono B13.out.size))
 have C14 := Lib.hid (C13.out.trans (b14.mono C13.out.size))
 have S14 : Hid (w5.heap.size ≤ w14.heap.size) := Lib.hid (Nat.le_trans S13.out b14.size)
 clear b14 ti T13 B13 C13
 go_wp2_with (fail)
 go_at_call 28
 have towd := T14.out
 unfold Said at towd
 rw [← HN.out] at towd
 refine (markIntS_only w14 w5.heap.size _ n 1 _ towd (by omega)).mono ?_
 rintro e w15 ⟨rfl, hmk, hon⟩
 have hlt : ∀ q ∈ (Value.slice a6 n c6).ownBlock.toList, w5.heap.size ≤ q := fun q hq => (World.ownsRow.lt towd q (by simpa using hq)).1
 have HMK := Lib.hid (intsAt_of (by rw [iota_length]; exact hmk) : IntsAt w15 (.slice a6 n c6) (iota 1 n))
 have B15 := Lib.hid (Only.below B14.out hon (B14.out.size) (fun q hq => by have := hlt q hq; have := S45.out; have := B3.out.size; omega))
 have C15 := Lib.hid (Only.below C14.out hon (C14.out.size) (fun q hq => by have := hlt q hq; have := S45.out; omega))
 obtain ⟨q2, hq2⟩ : ∃ q2 : Nat, 1 + n = q2 := ⟨_, rfl⟩
 rw [hq2]
 have HQ2 := Lib.hid hq2
 have hq20 : (0 : Int) ≤ (q2 : Int) := by omega
 have eq2 : ((q2 : Int) != (q2 : Int)) = false := by simp
 clear hmk hon hlt towd hq2 T14 B14 C14
 go_wp2_with (fail)
 go_at_call 45
 refine (heldIntS_any w15 _ n 1 HMK.out (by omega)).mono ?_
 rw [HQ2.out]
 rintro e _ ⟨rfl, rfl⟩
 go_wp2_with (fail)
 go_at_call 32
 refine (HTO.out w15 (HCS.out.below B15.out)).mono ?_
 rintro e w16 ⟨p16, rfl, _, h16, b16⟩
 have X16 := Lib.hid h16
 have M16 := Lib.hid b16
 have B16 := Lib.hid (B15.out.trans (b16.mono B15.out.size))
 have C16 := Lib.hid (C15.out.trans (b16.mono C15.out.size))
 clear h16 b16
 go_wp2_with (fail)
 go_at_call 19
 refine (HTI.out w16 B16.out).mono ?_
 rintro e w17 ⟨p17, rfl, h17, b17⟩
 have X17 := Lib.hid (inSrc_own h17 HMN.out (by omega))
 have X16' := Lib.hid (X16.out.below b17)
 have M17 := Lib.hid (M16.out.trans (b17.mono M16.out.size))
 have B17 := Lib.hid (B16.out.trans (b17.mono B16.out.size))
 have C17 := Lib.hid (C16.out.trans (b17.mono C16.out.size))
 clear h17 b17 M16 B16 C16 X16
 go_wp2_with (fail)
 go_at_call 44
 refine (HIM.out w17 _ p17 B17.out X16'.out X17.out).mono ?_
 rintro e w18 ⟨v18, rfl, h18, b18⟩
 have R18 := Lib.hid h18.ints
 obtain ⟨a18, c18, rfl⟩ := said_form h18 HN.out
 have M18 := Lib.hid (M17.out.trans (b18.mono M17.out.size))
 have B18 := Lib.hid (B17.out.trans (b18.mono B17.out.size))
 have C18 := Lib.hid (C17.out.trans (b18.mono C17.out.size))
 clear h18 b18 M17 B17 C17 X16' X17
 go_wp2_with (fail)
 go_at_call 21
 refine (HEQ.out w18 _ _ R18.out (R0.out.below C18.out)).mono ?_
 rintro e w19 ⟨rfl, b19⟩
 have M19 := Lib.hid (M18.out.trans (b19.mono M18.out.size))
 have B19 := Lib.hid (B18.out.trans (b19.mono B18.out.size))
 clear b19 M18 B18 C18 R18
 go_wp2_with (fail)
 go_at_call 45
 refine (heldIntS_any w19 _ n 1 (HMK.out.below M19.out) (by omega)).mono ?_
 rw [HQ2.out]
 rintro e _ ⟨rfl, rfl⟩
 go_wp2_with (fail)
 first | go_ret | skip
 exact HQ.out _ B19.out
set_option maxHeartbeats 1000000 in
theorem imageTraceBig (w : World) (a ia : Option Addr) (n cap m icap : Nat) (steps : Int) (hn2 : n ≤ 9223372036854775807) (hm2 : m ≤ 9223372036854775807) (hb : 1048576 < n ∨ (n ≤ 1048576 ∧ 1048576 < m)) : Calls Tryd.prog 10 #[.slice a n cap, .slice ia m icap, .int .i64 steps] w (Yes w) := by
 rcases hb with hn | ⟨hn, hm⟩
 ·have g1 : (1048576 : Int) < n := by omega
  go_enter Tryd.func10, Tryd.ntmps10
  go_wp2_with (fail)
  go_ret
  exact ⟨rfl, Below.refl _ _⟩
 ·have g1 : (n : Int) ≤ 1048576 := by omega
  have g2 : (1048576 : Int) < m := by omega
  go_enter Tryd.func10, Tryd.ntmps10
  go_wp2_with (fail)
  go_ret
  exact ⟨rfl, Below.refl _ _⟩
end Go.Proofs.YtbdbmmdnidonjaaDoor
