/- FnExactRunImage answers true for every row of bytes, all numbers, all steps. Premises of the walk: the tables of forms and magic bytes read as laid (the card ties them). -/
import Derived.Test.YtbdbmmdnidonjaaDoorUZt
import Derived.Test.YtbdbmmdnidonjaaDoorUJn
import Derived.Test.YtbdbmmdnidonjaaDoorUTt
set_option linter.unusedVariables false
set_option linter.unusedSimpArgs false
set_option maxRecDepth 100000
namespace Go.Proofs.YtbdbmmdnidonjaaDoor
open Go.RowKit
set_option maxHeartbeats 8000000 in
theorem runImageLaw (w : World) (v vi : Value) (b : List Nat) (zs : List Int) (steps : Int) (hF : Forms w) (hM : Magic w) (h : CsAt w v b) (hle : b.length ≤ 1048576) (hi : IntsAt w vi zs) (hz : zs.length ≤ 1048576) : Calls Tryd.prog 11 #[v, vi, .int .i64 steps] w (Yes w) := by
 have HCS := Lib.hid h; have HFO := Lib.hid hF; have HMG := Lib.hid hM
 have HLE := Lib.hid hle
 have HI := Lib.hid hi
 obtain ⟨a, cap, rfl, _, _⟩ := h
 obtain ⟨ia, icap, rfl, hic⟩ := hi
 obtain ⟨L, hL⟩ : ∃ L, L = b.length := ⟨_, rfl⟩
 obtain ⟨m, hm⟩ : ∃ m, m = zs.length := ⟨_, rfl⟩
 have hmb : b.length ≤ 1099511627776 := by omega
 have HTO := Lib.hid (fun w' h => toBytesO (w := w') (v := .slice a b.length cap) (b := b) h hmb)
 have HTI := Lib.hid (fun w' (hb : Below w.heap.size w w') => toInts (HI.out.below hb) (by omega))
 unfold NewInts at HTI
 rw [← hL] at HCS HLE HTO ⊢
 rw [← hm] at HI HTI hz ⊢
 have HLN := Lib.hid hL
 have HMN := Lib.hid hm
 have g1 : (L : Int) ≤ 1048576 := by have := HLE.out; omega
 have g2 : (m : Int) ≤ 1048576 := by omega
 obtain ⟨Q, hQ⟩ : ∃ Q, Q = Yes w := ⟨_, rfl⟩
 have HQ : Hid (∀ w', Below w.heap.size w w' → Q (.returned (.bool true)) w') := Lib.hid (fun w' h2 => by rw [hQ]; exact ⟨rfl, h2⟩)
 rw [← hQ]
 obtain ⟨o, ho⟩ : ∃ o, o = imgRun b zs steps := ⟨_, rfl⟩
 have HSD : Hid (∀ r, o = some r → r.cm.said.length ≤ 1048576) := Lib.hid (fun r h => by rw [ho] at h; have := (imgRun_ok h).2.1; omega)
 have HSP := Lib.hid (fun w' v' p (h : CsC w' v' b) (hs : InSrc w' p 0 m m zs) => specRunImage_any w' v' b h (by rw [← HLN.out]; exact HLE.out) p m m zs hs steps)
 have HIM := Lib.hid (fun w' v' p (hb : Below w.heap.size w w') (h : CsC w' v' b) (hs : InSrc w' p 0 m m zs) => implRunImage_any w' v' b (HFO.out.below hb) (HMG.out.below hb) h (by rw [← HLN.out]; exact HLE.out) p m m zs hs steps)
 unfold AnsRd at HSP
 unfold AnsPost at HIM
 rw [← ho] at HSP HIM
 obtain ⟨ok, hok⟩ : ∃ ok, ok = o.isSome := ⟨_, rfl⟩
 rw [← hok] at HSP HIM
 have eok : (ok != ok) = false := by simp
 clear hL hQ hF hM hmb hle hm hic ho hok
 go_enter Tryd.func11, Tryd.ntmps11
 go_wp2_with (fail)
 go_at_call 32
 refine (HTO.out w HCS.out).mono ?_
 rintro e w1 ⟨p1, rfl, _, h1, b1⟩
 have H1 := Lib.hid h1; have B1 := Lib.hid b1
 clear h1 b1
 go_wp2_with (fail)
 go_at_call 19
 refine (HTI.out w1 B1.out).mono ?_
 rintro e w2 ⟨p2, rfl, h2, b2⟩
 have H2 := Lib.hid (inSrc_own h2 HMN.out (by omega))
 have H1' := Lib.hid (H1.out.below b2)
 have B2 := Lib.hid (B1.out.trans (b2.mono B1.out.size))
 clear h2 b2 H1
 go_wp2_with (fail)
 go_at_call 46
 refine (HSP.out w2 _ p2 H1'.out H2.out).mono ?_
 rintro e w3 ⟨v0, rfl, h3, b3⟩
 obtain ⟨sa, sn, sc, en, vl, ca, cn, cc, rfl⟩ := h3.form
 have R0 := Lib.hid h3
 have B3 := Lib.hid (B2.out.trans (b3.mono B2.out.size))
 clear h3 b3 H2 H1'
 go_wp2_with (fail)
 go_at_call 32
 generalize hw4 : w3.alloc _ = w4
 have b4 : Below w3.heap.size w3 w4 := by rw [← hw4]; exact below1 _ _
 have V4 : Hid (Blk w4 w3.heap.size [.slice sa sn sc, .int .i64 en, .int .i64 vl, .slice ca cn cc]) := Lib.hid (by rw [← hw4]; exact Blk.new _ _ _)
 have Z4 : Hid (w3.heap.size < w4.heap.size) := Lib.hid (by rw [← hw4]; simp)
 have B4 := Lib.hid (B3.out.trans (b4.mono B3.out.size))
 have C4 := Lib.hid b4
 clear hw4 b4
 refine (HTO.out w4 (HCS.out.below B4.out)).mono ?_
 rintro e w5 ⟨p4, rfl, o4, h4, b5⟩
 have XB5 := Lib.hid h4; have OB5 := Lib.hid o4
 have P4 : Hid (w4.heap.size ≤ p4 ∧ p4 < w5.heap.size) := Lib.hid ⟨(ownsRow_lt o4).2.1, (ownsRow_lt o4).1⟩
 have V5 := Lib.hid (V4.out.below b5)
 have B5 := Lib.hid (B4.out.trans (b5.mono B4.out.size))
 have C5 := Lib.hid (C4.out.trans (b5.mono C4.out.size))
 have Z5 := Lib.hid (Nat.lt_of_lt_of_le Z4.out b5.size)
 clear V4 B4 C4 h4 o4 b5
 go_wp2_with (fail)
 go_at_call 19
 refine (HTI.out w5 B5.out).mono ?_
 rintro e w6 ⟨p5, rfl, o5, b6⟩
 have OI6 := Lib.hid o5
 have XI6 := Lib.hid (inSrc_own o5 HMN.out (by omega))
 have P5 : Hid (w5.heap.size ≤ p5 ∧ p5 < w6.heap.size) := Lib.hid ⟨(ownsRow_lt o5).2.1, (ownsRow_lt o5).1⟩
 have S56 : Hid (w3.heap.size < w4.heap.size ∧ w4.heap.size ≤ w5.heap.size ∧ w5.heap.size ≤ w6.heap.size) := Lib.hid ⟨Z4.out, by have := P4.out; omega, b6.size⟩
 have V6 := Lib.hid (V5.out.below b6)
 have B6 := Lib.hid (B5.out.trans (b6.mono B5.out.size))
 have C6 := Lib.hid (C5.out.trans (b6.mono C5.out.size))
 have XB6 := Lib.hid (XB5.out.below b6)
 have OB6 := Lib.hid (ownsRow_below OB5.out b6)
 clear V5 B5 C5 XB5 OB5 o5 b6 Z4 Z5
 have l6 := V6.out.lt
 go_wp2_with (fail)
 go_at_call 47
 refine (HIM.out w6 _ p5 B6.out XB6.out XI6.out).mono ?_
 rintro e w7 ⟨v1, rfl, h7, b7⟩
 obtain ⟨ta, tn, tc, em, vm, da, dn, dc, rfl⟩ := outAt_form h7
 obtain ⟨htn, hdn⟩ := h7.lens HSD.out
 have G7 := Lib.hid h7
 have HL7 : Hid ((∀ k, Value.ownBlock (.slice ta tn tc) = some k → w6.heap.size ≤ k ∧ k < w7.heap.size) ∧ (∀ k, Value.ownBlock (.slice da dn dc) = some k → w6.heap.size ≤ k ∧ k < w7.heap.size)) := Lib.hid (by
  obtain ⟨xs, ys, hO⟩ := h7.own
  exact ⟨World.ownsRow.lt hO.s, World.ownsRow.lt hO.c⟩)
 have S67 : Hid (w6.heap.size ≤ w7.heap.size) := Lib.hid b7.size
 have V7 := Lib.hid (V6.out.below b7)
 have B7 := Lib.hid (B6.out.trans (b7.mono B6.out.size))
 have C7 := Lib.hid (C6.out.trans (b7.mono C6.out.size))
 have XB7 := Lib.hid (XB6.out.below b7)
 have OB7 := Lib.hid (ownsRow_below OB6.out b7)
 have XI7 := Lib.hid (XI6.out.below b7)
 have OI7 := Lib.hid (ownsRow_below OI6.out b7)
 clear V6 B6 C6 XB6 OB6 XI6 OI6 h7 b7 l6
 obtain ⟨pa, pb, pc, pd⟩ := V7.out.c4
 have l7 := V7.out.lt
 go_wp2_with (fail)
 go_at_call 26
 generalize hw8 : w7.alloc _ = w8
 have b8 : Below w7.heap.size w7 w8 := by rw [← hw8]; exact below1 _ _
 have U8 : Hid (Blk w8 w7.heap.size [.slice ta tn tc, .int .i64 em, .int .i64 vm, .slice da dn dc]) := Lib.hid (by rw [← hw8]; exact Blk.new _ _ _)
 have G8 := Lib.hid (G7.out.below b8)
 have S8 : Hid (w7.heap.size < w8.heap.size) := Lib.hid (by rw [← hw8]; simp)
 have V8 := Lib.hid (V7.out.below b8)
 have B8 := Lib.hid (B7.out.trans (b8.mono B7.out.size))
 have C8 := Lib.hid (C7.out.trans (b8.mono C7.out.size))
 have XB8 := Lib.hid (XB7.out.below b8)
 have OB8 := Lib.hid (ownsRow_below OB7.out b8)
 have XI8 := Lib.hid (XI7.out.below b8)
 have OI8 := Lib.hid (ownsRow_below OI7.out b8)
 clear V7 B7 C7 XB7 OB7 XI7 OI7 hw8 b8 G7 pa pb pc pd l7
 refine (eqOutcome_same w8 o _ _ _ _ _ _ _ _ _ _ _ _ _ _ _ _ G8.out.read (R0.out.below C8.out) (by omega) (by omega)).mono ?_
 rintro e w9 ⟨rfl, b9⟩
 have V9 := Lib.hid (V8.out.below b9)
 have B9 := Lib.hid (B8.out.trans (b9.mono B8.out.size))
 have C9 := Lib.hid (C8.out.trans (b9.mono C8.out.size))
 have XB9 := Lib.hid (XB8.out.below b9)
 have OB9 := Lib.hid (ownsRow_below OB8.out b9)
 have XI9 := Lib.hid (XI8.out.below b9)
 have OI9 := Lib.hid (ownsRow_below OI8.out b9)
 have U9 := Lib.hid (U8.out.below b9)
 have G9 := Lib.hid (G8.out.below b9)
 have S9 := Lib.hid (Nat.lt_of_lt_of_le S8.out b9.size)
 clear V8 B8 C8 XB8 OB8 XI8 OI8 U8 G8 S8 b9
 go_wp2_with (fail)
 go_at_call 32
 refine (HTO.out w9 (HCS.out.below B9.out)).mono ?_
 rintro e w10 ⟨p10, rfl, _, h10, b10⟩
 have X10 := Lib.hid h10
 have V10 := Lib.hid (V9.out.below b10)
 have B10 := Lib.hid (B9.out.trans (b10.mono B9.out.size))
 have C10 := Lib.hid (C9.out.trans (b10.mono C9.out.size))
 have XB10 := Lib.hid (XB9.out.below b10)
 have OB10 := Lib.hid (ownsRow_below OB9.out b10)
 have XI10 := Lib.hid (XI9.out.below b10)
 have OI10 := Lib.hid (ownsRow_below OI9.out b10)
 have U10 := Lib.hid (U9.out.below b10)
 have G10 := Lib.hid (G9.out.below b10)
 have S10 := Lib.hid (Nat.lt_of_lt_of_le S9.out b10.size)
 clear V9 B9 C9 XB9 OB9 XI9 OI9 U9 G9 S9 h10 b10
 go_wp2_with (fail)
 go_at_call 34
 refine (eqBytes XB10.out.1 X10.out.1 (by have := HLE.out; rw [← HLN.out]; omega)).mono ?_
 rintro e w11 ⟨rfl, b11⟩
 have V11 := Lib.hid (V10.out.below b11)
 have B11 := Lib.hid (B10.out.trans (b11.mono B10.out.size))
 have C11 := Lib.hid (C10.out.trans (b11.mono C10.out.size))
 have OB11 := Lib.hid (ownsRow_below OB10.out b11)
 have XI11 := Lib.hid (XI10.out.below b11)
 have OI11 := Lib.hid (ownsRow_below OI10.out b11)
 have U11 := Lib.hid (U10.out.below b11)
 have G11 := Lib.hid (G10.out.below b11)
 have S11 := Lib.hid (Nat.lt_of_lt_of_le S10.out b11.size)
 clear V10 B10 C10 OB10 XI10 OI10 U10 G10 S10 b11 XB10 X10
 go_wp2_with (fail)
 go_at_call 19
 refine (HTI.out w11 B11.out).mono ?_
 rintro e w12 ⟨p12, rfl, h12, b12⟩
 have XA := Lib.hid (inSrc_own h12 HMN.out (by omega)).ints
 have V12 := Lib.hid (V11.out.below b12)
 have B12 := Lib.hid (B11.out.trans (b12.mono B11.out.size))
 have C12 := Lib.hid (C11.out.trans (b12.mono C11.out.size))
 have OB12 := Lib.hid (ownsRow_below OB11.out b12)
 have XI12 := Lib.hid (XI11.out.below b12)
 have OI12 := Lib.hid (ownsRow_below OI11.out b12)
 have U12 := Lib.hid (U11.out.below b12)
 have G12 := Lib.hid (G11.out.below b12)
 have S12 := Lib.hid (Nat.lt_of_lt_of_le S11.out b12.size)
 clear V11 B11 C11 OB11 XI11 OI11 U11 G11 S11 h12 b12
 go_wp2_with (fail)
 go_at_call 21
 refine (eqInts XI12.out.ints XA.out (by rw [← HMN.out]; omega)).mono ?_
 rintro e w13 ⟨rfl, b13⟩
 have V13 := Lib.hid (V12.out.below b13)
 have B13 := Lib.hid (B12.out.trans (b13.mono B12.out.size))
 have C13 := Lib.hid (C12.out.trans (b13.mono C12.out.size))
 have OB13 := Lib.hid (ownsRow_below OB12.out b13)
 have OI13 := Lib.hid (ownsRow_below OI12.out b13)
 have U13 := Lib.hid (U12.out.below b13)
 have G13 := Lib.hid (G12.out.below b13)
 have S13 := Lib.hid (Nat.lt_of_lt_of_le S12.out b13.size)
 clear V12 B12 C12 OB12 OI12 U12 G12 S12 b13 XI12 XA
 go_wp2_with (fail)
 go_at_call 38
 refine (markByteS_any w13 _ p4 L L 1 _ OB13.out (by omega)).mono ?_
 rintro e w14 ⟨rfl, hon⟩
 have hp := P4.out; have hp5 := P5.out; have hs := S56.out; have hs7 := S67.out; have hs13 := S13.out; have hb3 := B3.out.size
 have ne : ∀ k, k ≠ p4 → k ∉ [p4] := fun k h hm => h (List.mem_singleton.1 hm)
 have V14 := Lib.hid (V13.out.same (hon.block _ V13.out.lt (ne _ (by omega))))
 have U14 := Lib.hid (U13.out.same (hon.block _ U13.out.lt (ne _ (by omega))))
 have G14 := Lib.hid (G13.out.keep (fun k h1 h2 => hon.block k h2 (ne _ (by omega))))
 have B14 := Lib.hid (Only.below B13.out hon (B13.out.size) (fun q hq => by rw [List.mem_singleton.1 hq]; omega))
 have C14 := Lib.hid (Only.below C13.out hon (C13.out.size) (fun q hq => by rw [List.mem_singleton.1 hq]; omega))
 have OI14 := Lib.hid (ownsRow_same OI13.out (fun k hk => hon.block k (World.ownsRow.lt OI13.out k hk).2 (ne _ (by have := (World.ownsRow.lt OI13.out k hk).1; omega))))
 have S14 := Lib.hid (Nat.lt_of_lt_of_le S13.out hon.size)
 obtain ⟨k1, hk1⟩ : ∃ k1 : Nat, 1 + L = k1 := ⟨_, rfl⟩
 rw [hk1]
 have hk1' : k1 ≤ 1048577 := by omega
 clear hon hk1 ne hp hp5 hs hs7 hs13 hb3
 clear V13 B13 C13 OB13 OI13 U13 G13 S13 
 go_wp2_with (fail)
 go_at_call 28
 refine (markIntS_only w14 _ _ m k1 _ OI14.out (by omega)).mono ?_
 rintro e w15 ⟨rfl, _, hon⟩
 have hon : Only [p5] w14 w15 := hon
 have hp := P4.out; have hp5 := P5.out; have hs := S56.out; have hs7 := S67.out; have hs13 := S14.out; have hb3 := B3.out.size
 have ne : ∀ k, k ≠ p5 → k ∉ [p5] := fun k h hm => h (List.mem_singleton.1 hm)
 have V15 := Lib.hid (V14.out.same (hon.block _ V14.out.lt (ne _ (by omega))))
 have U15 := Lib.hid (U14.out.same (hon.block _ U14.out.lt (ne _ (by omega))))
 have G15 := Lib.hid (G14.out.keep (fun k h1 h2 => hon.block k h2 (ne _ (by omega))))
 have B15 := Lib.hid (Only.below B14.out hon (B14.out.size) (fun q hq => by rw [List.mem_singleton.1 hq]; omega))
 have C15 := Lib.hid (Only.below C14.out hon (C14.out.size) (fun q hq => by rw [List.mem_singleton.1 hq]; omega))
 have S15 := Lib.hid (Nat.lt_of_lt_of_le S14.out hon.size)
 obtain ⟨pa, pb, pc, pd⟩ := V15.out.c4
 obtain ⟨ra, rb, rc, rd⟩ := U15.out.c4
 obtain ⟨k2, hk2⟩ : ∃ k2 : Nat, k1 + m = k2 := ⟨_, rfl⟩
 rw [hk2]
 have q0 : (0 : Int) ≤ (k2 : Int) := by omega
 clear hon hk2 ne hp hp5 hs hs7 hs13 hb3
 clear V14 B14 C14 OI14 U14 G14 S14 
 go_wp2_with (fail)
 go_at_call 26
 refine (eqOutcome_same w15 o _ _ _ _ _ _ _ _ _ _ _ _ _ _ _ _ G15.out.read (R0.out.below C15.out) (by omega) (by omega)).mono ?_
 rintro e w16 ⟨rfl, b16⟩
 have V16 := Lib.hid (V15.out.below b16)
 have B16 := Lib.hid (B15.out.trans (b16.mono B15.out.size))
 have C16 := Lib.hid (C15.out.trans (b16.mono C15.out.size))
 have U16 := Lib.hid (U15.out.below b16)
 have G16 := Lib.hid (G15.out.below b16)
 have S16 := Lib.hid (Nat.lt_of_lt_of_le S15.out b16.size)
 clear V15 B15 C15 U15 G15 S15 b16 pa pb pc pd ra rb rc rd
 obtain ⟨ra, rb, rc, rd⟩ := U16.out.c4
 go_wp2_with (fail)
 go_at_call 29
 obtain ⟨xs, ys, hown⟩ := G16.out.own
 refine (markOutcome_any w16 w6.heap.size ta tn tc em vm da dn dc 1 xs ys hown (by have := S16.out; have := S67.out; omega) (by omega)).mono ?_
 rintro e w17 ⟨rfl, hmk, hbm, hF⟩
 have hs := S56.out; have hs7 := S67.out; have hb3 := B3.out.size
 have K17 := Lib.hid hmk
 have B17 := Lib.hid (B16.out.trans (hbm.mono (by omega)))
 have C17 := Lib.hid (C16.out.trans (hbm.mono (by omega)))
 have V17 := Lib.hid (V16.out.same (hbm.block _ (by omega)))
 have U17 := Lib.hid (U16.out.same (hF.block _ U16.out.lt (fun hm => by
  rcases List.mem_append.1 hm with h | h
  ·have := (HL7.out.1 w7.heap.size (by simpa using h)).2; omega
  ·have := (HL7.out.2 w7.heap.size (by simpa using h)).2; omega)))
 clear hmk hbm hF hown hs hs7 hb3 ra rb rc rd
 clear V16 B16 C16 U16 G16 S16 
 obtain ⟨ra, rb, rc, rd⟩ := U17.out.c4
 obtain ⟨q2, hq2⟩ : ∃ q2 : Nat, 1 + tn + dn = q2 := ⟨_, rfl⟩
 rw [hq2]
 have HQ2 := Lib.hid hq2
 have hq20 : (0 : Int) ≤ (q2 : Int) := by omega
 have eq2 : ((q2 : Int) != (q2 : Int)) = false := by simp
 clear hq2
 go_wp2_with (fail)
 go_at_call 30
 refine (heldOutcome_any w17 w6.heap.size ta tn tc em vm da dn dc 1 K17.out (by omega)).mono ?_
 rw [HQ2.out]
 rintro e w18 ⟨rfl, b18⟩
 have V18 := Lib.hid (V17.out.below b18)
 have B18 := Lib.hid (B17.out.trans (b18.mono B17.out.size))
 have C18 := Lib.hid (C17.out.trans (b18.mono C17.out.size))
 have U18 := Lib.hid (U17.out.below b18)
 have K18 := Lib.hid (K17.out.below b18)
 clear V17 B17 C17 U17 K17 b18 ra rb rc rd
 go_wp2_with (fail)
 go_at_call 32
 refine (HTO.out w18 (HCS.out.below B18.out)).mono ?_
 rintro e w19 ⟨p19, rfl, _, h19, b19⟩
 have XB19 := Lib.hid h19
 have V19 := Lib.hid (V18.out.below b19)
 have B19 := Lib.hid (B18.out.trans (b19.mono B18.out.size))
 have C19 := Lib.hid (C18.out.trans (b19.mono C18.out.size))
 have U19 := Lib.hid (U18.out.below b19)
 have K19 := Lib.hid (K18.out.below b19)
 clear V18 B18 C18 U18 K18 h19 b19
 go_wp2_with (fail)
 go_at_call 19
 refine (HTI.out w19 B19.out).mono ?_
 rintro e w20 ⟨p20, rfl, h20, b20⟩
 have XI20 := Lib.hid (inSrc_own h20 HMN.out (by omega))
 have V20 := Lib.hid (V19.out.below b20)
 have B20 := Lib.hid (B19.out.trans (b20.mono B19.out.size))
 have C20 := Lib.hid (C19.out.trans (b20.mono C19.out.size))
 have U20 := Lib.hid (U19.out.below b20)
 have K20 := Lib.hid (K19.out.below b20)
 have XB20 := Lib.hid (XB19.out.below b20)
 clear V19 B19 C19 U19 K19 XB19 h20 b20
 go_wp2_with (fail)
 go_at_call 47
 refine (HIM.out w20 _ p20 B20.out XB20.out XI20.out).mono ?_
 rintro e w21 ⟨v2, rfl, h21, b21⟩
 obtain ⟨ua, un, uc, eu, vu, ea, ek, ec, rfl⟩ := outAt_form h21
 obtain ⟨hun, hek⟩ := h21.lens HSD.out
 have G21 := Lib.hid h21
 have V21 := Lib.hid (V20.out.below b21)
 have B21 := Lib.hid (B20.out.trans (b21.mono B20.out.size))
 have C21 := Lib.hid (C20.out.trans (b21.mono C20.out.size))
 have U21 := Lib.hid (U20.out.below b21)
 have K21 := Lib.hid (K20.out.below b21)
 clear V20 B20 C20 U20 K20 h21 b21 XB20 XI20
 obtain ⟨pa, pb, pc, pd⟩ := V21.out.c4
 have l21 := V21.out.lt
 go_wp2_with (fail)
 go_at_call 26
 generalize hw22 : w21.alloc _ = w22
 have b22 : Below w21.heap.size w21 w22 := by rw [← hw22]; exact below1 _ _
 have V22 := Lib.hid (V21.out.below b22)
 have B22 := Lib.hid (B21.out.trans (b22.mono B21.out.size))
 have C22 := Lib.hid (C21.out.trans (b22.mono C21.out.size))
 have U22 := Lib.hid (U21.out.below b22)
 have K22 := Lib.hid (K21.out.below b22)
 have G22 := Lib.hid (G21.out.below b22)
 clear V21 B21 C21 U21 K21 G21 hw22 b22 pa pb pc pd l21
 refine (eqOutcome_same w22 o _ _ _ _ _ _ _ _ _ _ _ _ _ _ _ _ G22.out.read (R0.out.below C22.out) (by omega) (by omega)).mono ?_
 rintro e w23 ⟨rfl, b23⟩
 have B23 := Lib.hid (B22.out.trans (b23.mono B22.out.size))
 have U23 := Lib.hid (U22.out.below b23)
 have K23 := Lib.hid (K22.out.below b23)
 clear V22 B22 C22 U22 K22 G22 b23
 obtain ⟨ra, rb, rc, rd⟩ := U23.out.c4
 go_wp2_with (fail)
 go_at_call 30
 refine (heldOutcome_any w23 w6.heap.size ta tn tc em vm da dn dc 1 K23.out (by omega)).mono ?_
 rw [HQ2.out]
 rintro e w24 ⟨rfl, b24⟩
 have B24 := Lib.hid (B23.out.trans (b24.mono B23.out.size))
 clear b24 ra rb rc rd U23 B23 K23
 go_wp2_with (fail)
 first | go_ret | skip
 exact HQ.out _ B24.out
set_option maxHeartbeats 1000000 in
theorem runImageBig (w : World) (a ia : Option Addr) (n cap m icap : Nat) (steps : Int) (hn2 : n ≤ 9223372036854775807) (hm2 : m ≤ 9223372036854775807) (hb : 1048576 < n ∨ (n ≤ 1048576 ∧ 1048576 < m)) : Calls Tryd.prog 11 #[.slice a n cap, .slice ia m icap, .int .i64 steps] w (Yes w) := by
 rcases hb with hn | ⟨hn, hm⟩
 ·have g1 : (1048576 : Int) < n := by omega
  go_enter Tryd.func11, Tryd.ntmps11
  go_wp2_with (fail)
  go_ret
  exact ⟨rfl, Below.refl _ _⟩
 ·have g1 : (n : Int) ≤ 1048576 := by omega
  have g2 : (1048576 : Int) < m := by omega
  go_enter Tryd.func11, Tryd.ntmps11
  go_wp2_with (fail)
  go_ret
  exact ⟨rfl, Below.refl _ _⟩
end Go.Proofs.YtbdbmmdnidonjaaDoor
