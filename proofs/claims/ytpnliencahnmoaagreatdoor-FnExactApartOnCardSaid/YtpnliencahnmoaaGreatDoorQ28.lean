/- FnExactApartOn answers true for all two programs. Premises of the walk: the tables of key words, of operators and of numbers that are tried read as laid (the card ties them). What a program as an argument reads as; the tables of key words, operators and numbers, as the row lists them. -/
import Derived.Test.YtpnliencahnmoaaGreatDoorQ24
import Derived.Test.YtpnliencahnmoaaGreatDoorQ26
import Derived.Test.YtpnliencahnmoaaGreatDoorQ27
import Derived.Test.YtpnliencahnmoaaGreatDoorQ10
import Derived.OpenVars
import Derived.OpenShut
import Derived.Deep.Slices
import Derived.Deep.Fields
import Derived.ChangeSame
import Derived.LaidLaws
import Derived.LaidMore
import Derived.ChangeArms
import Derived.Maps.Keyed
import Derived.WideKeyElems2
set_option linter.unusedVariables false
set_option linter.unusedSimpArgs false
set_option linter.unusedVariables false
set_option linter.unusedSimpArgs false
set_option maxRecDepth 100000
namespace Go.Proofs.YtpnliencahnmoaaGreatDoor
open Go.RowKit
theorem ints_of_own {w : World} {B : Nat} {v : Value} {n : Nat} {zs : List Int} (h : w.ownsRow B 3 1 v n (ints zs)) (hn : n = zs.length) : IntsAt w v zs := by
  subst hn
  rcases h.2 with ⟨h1, h2⟩ | ⟨g, cp, cur, h1, _⟩
  · have hz : zs = [] := List.eq_nil_of_length_eq_zero (by omega)
    subst hz
    exact ⟨none, 0, by rw [h1]; rfl, fun i hi => by simp at hi⟩
  · subst h1
    exact intsAt_own h
theorem nats_ints (xs : List Nat) : nats xs = ints (xs.map Int.ofNat) := by
  unfold nats ints
  rw [List.map_map]
  rfl
theorem AnsOf.len {fa fb : List Fx} {b : Bool} {xs : List Nat} (h : AnsOf fa fb b xs) : xs.length ≤ 3 := by
  rcases h with ⟨_, i, _, _, _, rfl⟩ | ⟨_, rfl, _⟩
  · rw [List.length_take, inp_len]; omega
  · simp
theorem OFs.cap {w : World} {lo hi : Nat} {v : Value} {fs : List Fx} (h : OFs w lo hi v fs) : CapOk v := by
  obtain ⟨g, n, ys, pv, bv, ls, m1, hs, rfl, h⟩ := h
  intro a m c e
  simp only [Value.slice.injEq] at e
  obtain ⟨_, rfl, rfl⟩ := e
  exact ⟨Nat.le_refl _, by rw [h.hn]; exact h.hm⟩
/-- a copy is made -/
theorem ToPr.open {fs : List Fx} {w w' : World} {e : Ending} (h : ToPr fs w e w') : ∃ v, e = .returned (.agg #[v]) ∧ Below w.heap.size w w' ∧ OFs w' w.heap.size w'.heap.size v fs ∧ FxsAt w' v fs ∧ CapOk v := by
  obtain ⟨v, h1, h2, h3⟩ := h
  exact ⟨v, h1, h2, h3, h3.read, h3.cap⟩
/-- what an answer of ApartOn gives -/
theorem ApartP.open {fa fb : List Fx} {w w' : World} {e : Ending} {b : Bool} {xs : List Nat} (h : ApartP fa fb w e w') (k : AnsOf fa fb b xs) : ∃ v, e = .returned (.tuple #[v, .bool b]) ∧ Below w.heap.size w w' ∧ w'.ownsRow w.heap.size 3 1 v xs.length (ints (xs.map Int.ofNat)) := by
  obtain ⟨v, c, ys, h1, h2, h3, h4⟩ := h
  obtain ⟨rfl, rfl⟩ := k.one h4
  exact ⟨v, h1, h2, by rw [← nats_ints]; exact h3⟩
set_option maxHeartbeats 8000000 in
theorem apartLaw (w : World) (va vb : Value) (fa fb : List Fx) (hK : KS w) (hT : TriesAt w) (hWa : FxsW fa) (hWb : FxsW fb) (hA : FxsAt w va fa) (hB : FxsAt w vb fb) : Calls Tryz.prog 3 #[.agg #[va], .agg #[vb]] w (Yes w) := by
  obtain ⟨Q, hQ⟩ : ∃ Q, Q = Yes w := ⟨_, rfl⟩
  have HQ : Hid (∀ w', Below w.heap.size w w' → Q (.returned (.bool true)) w') := Lib.hid (fun w' h2 => by rw [hQ]; exact ⟨rfl, h2⟩)
  rw [← hQ]
  obtain ⟨W1, hW1⟩ : ∃ W1, W1 = fxsW fa := ⟨_, rfl⟩
  obtain ⟨W2, hW2⟩ : ∃ W2, W2 = fxsW fb := ⟨_, rfl⟩
  have HS1 := Lib.hid (fun w' (h : Below w.heap.size w w') => szProgram_any w' va fa 1048576 (hA.below h) (by omega) (by omega))
  have HS2 := Lib.hid (fun w' (h : Below w.heap.size w w') left (h0 : 0 ≤ left) (h1 : left ≤ 1048576) => szProgram_any w' vb fb left (hB.below h) h0 h1)
  have HTA := Lib.hid (fun w' (h : Below w.heap.size w w') (hl : fxsW fa ≤ 1048576) => toProg_any w' va fa (hA.below h) hl)
  have HTB := Lib.hid (fun w' (h : Below w.heap.size w w') (hl : fxsW fb ≤ 1048576) => toProg_any w' vb fb (hB.below h) hl)
  have HSP := Lib.hid (fun w' v v' (h : FxsAt w' v fa) (h' : FxsAt w' v' fb) (hl : fxsW fa ≤ 1048576) (hl' : fxsW fb ≤ 1048576) => specApart_any w' fa fb v v' h h' (by omega) (by omega))
  have HIM := Lib.hid (fun w' v v' (hb : Below w.heap.size w w') (hc : CapOk v) (hc' : CapOk v') (h : FxsAt w' v fa) (h' : FxsAt w' v' fb) (hl : fxsW fa ≤ 1048576) (hl' : fxsW fb ≤ 1048576) => implApart_any w' fa fb v v' (hK.below hb) (hT.below hb) hWa hWb hc hc' h h' (by omega) (by omega))
  rw [← hW1] at HS1 HTA HSP HIM
  rw [← hW2] at HS2 HTB HSP HIM
  obtain ⟨fva, hfa⟩ : ∃ a c, va = .slice a fa.length c := by obtain ⟨a, c, h, _⟩ := hA.form; exact ⟨a, c, h⟩
  obtain ⟨fca, rfl⟩ := hfa
  obtain ⟨fvb, hfb⟩ : ∃ a c, vb = .slice a fb.length c := by obtain ⟨a, c, h, _⟩ := hB.form; exact ⟨a, c, h⟩
  obtain ⟨fcb, rfl⟩ := hfb
  have HW1 := Lib.hid hW1; have HW2 := Lib.hid hW2
  generalize hna : fa.length = na at *
  generalize hnb : fb.length = nb at *
  clear hQ hA hB hK hT hWa hWb hna hnb hW1 hW2
  obtain ⟨P, hP⟩ : ∃ P, P = w.heap.size := ⟨_, rfl⟩
  have HP := Lib.hid hP
  go_enter Tryz.func3, Tryz.ntmps3
  go_wp2_with (fail)
  go_at_call 5
  generalize hw0 : (w.alloc _).alloc _ = w0
  have B_0 : Hid (Below w.heap.size w w0) := Lib.hid (by rw [← hw0]; exact below2 _ _ _)
  have P2_0 : Hid (Blk w0 P [.slice fva na fca]) := Lib.hid (by rw [← hw0, hP]; exact (Blk.new _ _ _).alloc _)
  have P3_0 : Hid (Blk w0 (P + 1) [.slice fvb nb fcb]) := Lib.hid (by rw [← hw0, hP]; exact Blk.fresh (by simp) rfl)
  have Z0 : Hid (P + 1 < w0.heap.size) := Lib.hid (by rw [← hw0, hP]; simp)
  rw [← hP]
  clear hw0 hP
  refine (HS1.out w0 B_0.out).mono ?_
  rintro e w1 ⟨rfl, b1⟩
  have B_1 := Lib.hid (B_0.out.trans (b1.mono B_0.out.size))
  have P2_1 := Lib.hid (P2_0.out.below b1)
  have P3_1 := Lib.hid (P3_0.out.below b1)
  clear B_0 P2_0 P3_0 b1
  by_cases c1 : (1048576 : Int) < (W1 : Int)
  · rw [szR_neg c1]
    go_wp2_with (fail)
    first | go_ret | skip
    exact HQ.out _ B_1.out
  rw [szR_pos c1]
  obtain ⟨left, hleft⟩ : ∃ left : Int, left = 1048576 - (W1 : Int) := ⟨_, rfl⟩
  rw [← hleft]
  have hl0 : 0 ≤ left := by omega
  have hl1 : ¬ left < 0 := by omega
  have HL := Lib.hid hl0; have HL1 := Lib.hid (show left ≤ 1048576 by omega)
  have E1 : Hid (W1 ≤ 1048576) := Lib.hid (by omega)
  clear hleft c1
  have cc0 := blkc1 P3_1.out; have cl0 := P3_1.out.lt
  go_wp2_with (fail)
  go_at_call 5
  clear cc0 cl0
  refine (HS2.out w1 B_1.out left HL.out HL1.out).mono ?_
  rintro e w2 ⟨rfl, b2⟩
  have B_2 := Lib.hid (B_1.out.trans (b2.mono B_1.out.size))
  have P2_2 := Lib.hid (P2_1.out.below b2)
  have P3_2 := Lib.hid (P3_1.out.below b2)
  clear B_1 P2_1 P3_1 b2
  by_cases c2 : left < (W2 : Int)
  · rw [szR_neg c2]
    go_wp2_with (fail)
    first | go_ret | skip
    exact HQ.out _ B_2.out
  rw [szR_pos c2]
  obtain ⟨left2, hleft2⟩ : ∃ left2 : Int, left2 = left - (W2 : Int) := ⟨_, rfl⟩
  rw [← hleft2]
  have hl2 : 0 ≤ left2 := by omega
  have hl3 : ¬ left2 < 0 := by omega
  have E2 : Hid (W2 ≤ 1048576) := Lib.hid (by have := HL1.out; omega)
  clear hleft2 c2
  have cc0 := blkc1 P2_2.out
  have cc1 := blkc1 P3_2.out
  have hs0 : (fun W : World => W.cell? ⟨P, 0, none⟩ = some (.slice fva na fca) ∧ W.cell? ⟨(P + 1), 0, none⟩ = some (.slice fvb nb fcb)) w2 := ⟨cc0, cc1⟩
  go_wp2_with (fail)
  go_region_held3 (fun W : World => W.cell? ⟨P, 0, none⟩ = some (.slice fva na fca) ∧ W.cell? ⟨(P + 1), 0, none⟩ = some (.slice fvb nb fcb)) (first | assumption | exact ⟨blkc1 P2_5.out, blkc1 P3_5.out⟩ | exact ⟨blkc1 P2_4.out, blkc1 P3_4.out⟩ | exact ⟨blkc1 P2_3.out, blkc1 P3_3.out⟩) ((first
    | (go_at_call 7; refine (HTA.out _ B_2.out.drew E1.out).mono ?_; rintro e w3 h3; obtain ⟨v3, rfl, b3, _, x3, _⟩ := h3.open; have b3 : Below w2.heap.size w2 w3 := (Below.refl w2.heap.size w2).drew.trans b3; have X_3 := Lib.hid x3; have B_3 := Lib.hid (B_2.out.trans (b3.mono B_2.out.size)); have P2_3 := Lib.hid (P2_2.out.below b3); have P3_3 := Lib.hid (P3_2.out.below b3); clear h3 b3 x3)
    | (go_at_call 7; refine (HTB.out w3 B_3.out E2.out).mono ?_; rintro e w4 h4; obtain ⟨v4, rfl, b4, _, x4, _⟩ := h4.open; have Y_4 := Lib.hid x4; have B_4 := Lib.hid (B_3.out.trans (b4.mono B_3.out.size)); have P2_4 := Lib.hid (P2_3.out.below b4); have P3_4 := Lib.hid (P3_3.out.below b4); have X_4 := Lib.hid (X_3.out.below b4); clear h4 b4 x4)
    | (go_at_call 6; refine (HSP.out w4 v3 v4 X_4.out Y_4.out E1.out E2.out).mono ?_; rintro e w5 ⟨wv, b, xs, rfl, b5, hown, hans⟩; have HAN := Lib.hid hans; have HXL := Lib.hid hans.len; obtain ⟨zs, hzs⟩ : ∃ zs, zs = xs.map Int.ofNat := ⟨_, rfl⟩; obtain ⟨n, hn⟩ : ∃ n, n = xs.length := ⟨_, rfl⟩; have HZN : Hid (n = zs.length) := Lib.hid (by rw [hn, hzs, List.length_map]); have HN3 : Hid (n ≤ 3) := Lib.hid (by rw [hn]; exact HXL.out); have HOP := Lib.hid (fun w' w'' e (h : ApartP fa fb w' e w'') => h.open HAN.out); rw [nats_ints, ← hzs, ← hn] at hown; rw [← hzs, ← hn] at HOP; have W_5 := Lib.hid hown; have PW := Lib.hid (World.ownsRow.lt hown); have S45 : Hid (w4.heap.size ≤ w5.heap.size) := Lib.hid b5.size; have SB4 : Hid (P + 1 < w4.heap.size ∧ w.heap.size = P) := Lib.hid ⟨P3_4.out.lt, HP.out.symm⟩; have B_5 := Lib.hid (B_4.out.trans (b5.mono B_4.out.size)); have P2_5 := Lib.hid (P2_4.out.below b5); have P3_5 := Lib.hid (P3_4.out.below b5); obtain ⟨wa, wc, rfl⟩ := rowForm W_5.out; clear b5 hown hans hzs hn HXL HAN)))
  clear cc0 cc1 hs0
  clear B_2 P2_2 P3_2 
  clear B_3 P2_3 P3_3 X_3 
  clear B_4 P2_4 P3_4 X_4 Y_4 
  have cc0 := blkc1 P2_5.out; have cl0 := P2_5.out.lt
  go_wp2_with (fail)
  go_at_call 7
  clear cc0 cl0
  refine (HTA.out w5 B_5.out E1.out).mono ?_
  rintro e w6 h6
  obtain ⟨v6, rfl, b6, o6, x6, k6⟩ := h6.open
  obtain ⟨xg, hxv, _, _⟩ := o6.form
  have XA_6 := Lib.hid x6; have OA := Lib.hid o6; have CA := Lib.hid k6
  have C6_6 : Hid (Below w6.heap.size w6 w6) := Lib.hid (Below.refl _ _)
  have S56 : Hid (w5.heap.size ≤ w6.heap.size) := Lib.hid b6.size
  have B_6 := Lib.hid (B_5.out.trans (b6.mono B_5.out.size))
  have P2_6 := Lib.hid (P2_5.out.below b6)
  have P3_6 := Lib.hid (P3_5.out.below b6)
  have W_6 := Lib.hid (ownsRow_below W_5.out b6)
  clear B_5 P2_5 P3_5 W_5 h6 b6 x6 o6 k6
  obtain ⟨na2, hna2⟩ : ∃ k, k = fa.length := ⟨_, rfl⟩
  rw [← hna2] at hxv
  subst hxv
  clear hna2
  have cc0 := blkc1 P3_6.out; have cl0 := P3_6.out.lt
  go_wp2_with (fail)
  go_at_call 7
  clear cc0 cl0
  generalize hw6 : w6.alloc _ = w6b
  have b6b : Below w6.heap.size w6 w6b := by rw [← hw6]; exact below1 _ _
  have P8_6b : Hid (Blk w6b w6.heap.size [.slice (some ⟨xg, 0, none⟩) na2 na2]) := Lib.hid (by rw [← hw6]; exact Blk.new _ _ _)
  have S6b : Hid (w6b.heap.size = w6.heap.size + 1) := Lib.hid (by rw [← hw6]; simp)
  have B_6b := Lib.hid (B_6.out.trans (b6b.mono B_6.out.size))
  have P2_6b := Lib.hid (P2_6.out.below b6b)
  have P3_6b := Lib.hid (P3_6.out.below b6b)
  have W_6b := Lib.hid (ownsRow_below W_6.out b6b)
  have XA_6b := Lib.hid (XA_6.out.below b6b)
  have C6_6b := Lib.hid (C6_6.out.trans (b6b.mono C6_6.out.size))
  clear B_6 P2_6 P3_6 W_6 XA_6 C6_6 hw6 b6b
  refine (HTB.out w6b B_6b.out E2.out).mono ?_
  rintro e w7 h7
  obtain ⟨v7, rfl, b7, o7, x7, k7⟩ := h7.open
  obtain ⟨yg, hyv, _, _⟩ := o7.form
  have XB_7 := Lib.hid x7; have OB := Lib.hid o7; have CB := Lib.hid k7
  have C7_7 : Hid (Below w7.heap.size w7 w7) := Lib.hid (Below.refl _ _)
  have S67 : Hid (w6b.heap.size ≤ w7.heap.size) := Lib.hid b7.size
  have B_7 := Lib.hid (B_6b.out.trans (b7.mono B_6b.out.size))
  have P2_7 := Lib.hid (P2_6b.out.below b7)
  have P3_7 := Lib.hid (P3_6b.out.below b7)
  have W_7 := Lib.hid (ownsRow_below W_6b.out b7)
  have XA_7 := Lib.hid (XA_6b.out.below b7)
  have C6_7 := Lib.hid (C6_6b.out.trans (b7.mono C6_6b.out.size))
  have P8_7 := Lib.hid (P8_6b.out.below b7)
  clear B_6b P2_6b P3_6b W_6b XA_6b C6_6b P8_6b h7 b7 x7 o7 k7
  obtain ⟨nb2, hnb2⟩ : ∃ k, k = fb.length := ⟨_, rfl⟩
  rw [← hnb2] at hyv
  subst hyv
  clear hnb2
  have cc0 := blkc1 P8_7.out; have cl0 := P8_7.out.lt
  go_wp2_with (fail)
  go_at_call 8
  clear cc0 cl0
  generalize hw7 : w7.alloc _ = w7b
  have b7b : Below w7.heap.size w7 w7b := by rw [← hw7]; exact below1 _ _
  have P9_7b : Hid (Blk w7b w7.heap.size [.slice (some ⟨yg, 0, none⟩) nb2 nb2]) := Lib.hid (by rw [← hw7]; exact Blk.new _ _ _)
  have S7b : Hid (w7b.heap.size = w7.heap.size + 1) := Lib.hid (by rw [← hw7]; simp)
  have B_7b := Lib.hid (B_7.out.trans (b7b.mono B_7.out.size))
  have P2_7b := Lib.hid (P2_7.out.below b7b)
  have P3_7b := Lib.hid (P3_7.out.below b7b)
  have W_7b := Lib.hid (ownsRow_below W_7.out b7b)
  have XA_7b := Lib.hid (XA_7.out.below b7b)
  have C6_7b := Lib.hid (C6_7.out.trans (b7b.mono C6_7.out.size))
  have P8_7b := Lib.hid (P8_7.out.below b7b)
  have XB_7b := Lib.hid (XB_7.out.below b7b)
  have C7_7b := Lib.hid (C7_7.out.trans (b7b.mono C7_7.out.size))
  clear B_7 P2_7 P3_7 W_7 XA_7 C6_7 P8_7 XB_7 C7_7 hw7 b7b
  refine (HIM.out w7b _ _ B_7b.out CA.out CB.out XA_7b.out XB_7b.out E1.out E2.out).mono ?_
  rintro e w8 h8
  obtain ⟨gv, rfl, b8, o8⟩ := HOP.out _ _ _ h8
  have G_8 := Lib.hid o8
  have PG := Lib.hid (World.ownsRow.lt o8)
  have S78 : Hid (w7b.heap.size ≤ w8.heap.size) := Lib.hid b8.size
  have B_8 := Lib.hid (B_7b.out.trans (b8.mono B_7b.out.size))
  have P2_8 := Lib.hid (P2_7b.out.below b8)
  have P3_8 := Lib.hid (P3_7b.out.below b8)
  have W_8 := Lib.hid (ownsRow_below W_7b.out b8)
  have XA_8 := Lib.hid (XA_7b.out.below b8)
  have C6_8 := Lib.hid (C6_7b.out.trans (b8.mono C6_7b.out.size))
  have P8_8 := Lib.hid (P8_7b.out.below b8)
  have XB_8 := Lib.hid (XB_7b.out.below b8)
  have C7_8 := Lib.hid (C7_7b.out.trans (b8.mono C7_7b.out.size))
  have P9_8 := Lib.hid (P9_7b.out.below b8)
  clear B_7b P2_7b P3_7b W_7b XA_7b C6_7b P8_7b XB_7b C7_7b P9_7b h8 b8 o8
  obtain ⟨ga, gc, rfl⟩ := rowForm G_8.out
  have eb : (b != b) = false := by simp
  have eb2 : (b == b) = true := by simp
  go_wp2_with (fail)
  go_at_call 9
  refine (eqInts (ints_of_own G_8.out HZN.out) (ints_of_own W_8.out HZN.out) (by have := HN3.out; have := HZN.out; omega)).mono ?_
  rintro e w9 ⟨rfl, b9⟩
  have B_9 := Lib.hid (B_8.out.trans (b9.mono B_8.out.size))
  have P2_9 := Lib.hid (P2_8.out.below b9)
  have P3_9 := Lib.hid (P3_8.out.below b9)
  have W_9 := Lib.hid (ownsRow_below W_8.out b9)
  have XA_9 := Lib.hid (XA_8.out.below b9)
  have C6_9 := Lib.hid (C6_8.out.trans (b9.mono C6_8.out.size))
  have P8_9 := Lib.hid (P8_8.out.below b9)
  have XB_9 := Lib.hid (XB_8.out.below b9)
  have C7_9 := Lib.hid (C7_8.out.trans (b9.mono C7_8.out.size))
  have P9_9 := Lib.hid (P9_8.out.below b9)
  have G_9 := Lib.hid (ownsRow_below G_8.out b9)
  clear B_8 P2_8 P3_8 W_8 XA_8 C6_8 P8_8 XB_8 C7_8 P9_8 G_8 b9
  have cc0 := blkc1 P8_9.out
  have cc1 := blkc1 P2_9.out
  go_wp2_with (fail)
  refine wp_region_chain (fun W => W.cell? ⟨w6.heap.size, 0, none⟩ = some (.slice (some ⟨xg, 0, none⟩) na2 na2) ∧ W.cell? ⟨P, 0, none⟩ = some (.slice fva na fca)) [(0, true), (1, true)] [2, 3, 4] 4 (by kernel_rfl) (by kernel_rfl) (fun d v c a w h => by cases d <;> exact h) ⟨cc0, cc1⟩ ?_
  clear cc0 cc1
  simp only [pickO, List.map_cons, List.map_nil, List.getD_cons_zero, List.getD_cons_succ]
  refine heldO_step (v := ?_) rfl ?_ ?_
  rotate_left
  · intro W hS
    obtain ⟨k0, k1⟩ := hS
    go_simp
    try rfl
  simp only [Act.put, List.setIfInBounds_toArray, List.set_cons_zero, List.set_cons_succ]
  refine heldO_step (v := ?_) rfl ?_ ?_
  rotate_left
  · intro W hS
    obtain ⟨k0, k1⟩ := hS
    go_simp
    try rfl
  simp only [Act.put, List.setIfInBounds_toArray, List.set_cons_zero, List.set_cons_succ]
  refine heldO_nil ?_
  refine tailO_step rfl (fun K hK => ?_)
  go_simp
  refine (HTA.out _ B_9.out.drew E1.out).mono ?_
  rintro e w10 h10
  obtain ⟨v10, rfl, b10, _, x10, _⟩ := h10.open
  have b10 : Below w9.heap.size w9 w10 := (Below.refl w9.heap.size w9).drew.trans b10
  have X_10 := Lib.hid x10
  have B_10 := Lib.hid (B_9.out.trans (b10.mono B_9.out.size))
  have P2_10 := Lib.hid (P2_9.out.below b10)
  have P3_10 := Lib.hid (P3_9.out.below b10)
  have W_10 := Lib.hid (ownsRow_below W_9.out b10)
  have XA_10 := Lib.hid (XA_9.out.below b10)
  have C6_10 := Lib.hid (C6_9.out.trans (b10.mono C6_9.out.size))
  have P8_10 := Lib.hid (P8_9.out.below b10)
  have XB_10 := Lib.hid (XB_9.out.below b10)
  have C7_10 := Lib.hid (C7_9.out.trans (b10.mono C7_9.out.size))
  have P9_10 := Lib.hid (P9_9.out.below b10)
  have G_10 := Lib.hid (ownsRow_below G_9.out b10)
  clear B_9 P2_9 P3_9 W_9 XA_9 C6_9 P8_9 XB_9 C7_9 P9_9 G_9 h10 b10 x10
  refine hK _ _ (.inr ⟨blkc1 P8_10.out, blkc1 P2_10.out⟩) ?_
  clear hK K
  refine tailO_step rfl (fun K hK => ?_)
  go_simp
  refine (eqProg_any w10 _ v10 fa XA_10.out X_10.out).mono ?_
  rintro e w11 ⟨rfl, b11⟩
  have B_11 := Lib.hid (B_10.out.trans (b11.mono B_10.out.size))
  have P2_11 := Lib.hid (P2_10.out.below b11)
  have P3_11 := Lib.hid (P3_10.out.below b11)
  have W_11 := Lib.hid (ownsRow_below W_10.out b11)
  have C6_11 := Lib.hid (C6_10.out.trans (b11.mono C6_10.out.size))
  have P8_11 := Lib.hid (P8_10.out.below b11)
  have XB_11 := Lib.hid (XB_10.out.below b11)
  have C7_11 := Lib.hid (C7_10.out.trans (b11.mono C7_10.out.size))
  have P9_11 := Lib.hid (P9_10.out.below b11)
  have G_11 := Lib.hid (ownsRow_below G_10.out b11)
  clear B_10 P2_10 P3_10 W_10 C6_10 P8_10 XB_10 C7_10 P9_10 G_10 XA_10 X_10 b11
  refine hK _ _ (.inr ⟨blkc1 P8_11.out, blkc1 P2_11.out⟩) ?_
  clear hK K
  refine tailO_step rfl (fun K hK => ?_)
  go_simp
  refine hK _ _ (.inl rfl) (tailO_nil ?_)
  clear hK K
  have cc0 := blkc1 P9_11.out
  have cc1 := blkc1 P3_11.out
  go_wp2_with (fail)
  refine wp_region_chain (fun W => W.cell? ⟨w7.heap.size, 0, none⟩ = some (.slice (some ⟨yg, 0, none⟩) nb2 nb2) ∧ W.cell? ⟨(P + 1), 0, none⟩ = some (.slice fvb nb fcb)) [(0, true), (1, true)] [2, 3, 4] 4 (by kernel_rfl) (by kernel_rfl) (fun d v c a w h => by cases d <;> exact h) ⟨cc0, cc1⟩ ?_
  clear cc0 cc1
  simp only [pickO, List.map_cons, List.map_nil, List.getD_cons_zero, List.getD_cons_succ]
  refine heldO_step (v := ?_) rfl ?_ ?_
  rotate_left
  · intro W hS
    obtain ⟨k0, k1⟩ := hS
    go_simp
    try rfl
  simp only [Act.put, List.setIfInBounds_toArray, List.set_cons_zero, List.set_cons_succ]
  refine heldO_step (v := ?_) rfl ?_ ?_
  rotate_left
  · intro W hS
    obtain ⟨k0, k1⟩ := hS
    go_simp
    try rfl
  simp only [Act.put, List.setIfInBounds_toArray, List.set_cons_zero, List.set_cons_succ]
  refine heldO_nil ?_
  refine tailO_step rfl (fun K hK => ?_)
  go_simp
  refine (HTB.out _ B_11.out.drew E2.out).mono ?_
  rintro e w12 h12
  obtain ⟨v12, rfl, b12, _, x12, _⟩ := h12.open
  have b12 : Below w11.heap.size w11 w12 := (Below.refl w11.heap.size w11).drew.trans b12
  have Y_12 := Lib.hid x12
  have B_12 := Lib.hid (B_11.out.trans (b12.mono B_11.out.size))
  have P2_12 := Lib.hid (P2_11.out.below b12)
  have P3_12 := Lib.hid (P3_11.out.below b12)
  have W_12 := Lib.hid (ownsRow_below W_11.out b12)
  have C6_12 := Lib.hid (C6_11.out.trans (b12.mono C6_11.out.size))
  have P8_12 := Lib.hid (P8_11.out.below b12)
  have XB_12 := Lib.hid (XB_11.out.below b12)
  have C7_12 := Lib.hid (C7_11.out.trans (b12.mono C7_11.out.size))
  have P9_12 := Lib.hid (P9_11.out.below b12)
  have G_12 := Lib.hid (ownsRow_below G_11.out b12)
  clear B_11 P2_11 P3_11 W_11 C6_11 P8_11 XB_11 C7_11 P9_11 G_11 h12 b12 x12
  refine hK _ _ (.inr ⟨blkc1 P9_12.out, blkc1 P3_12.out⟩) ?_
  clear hK K
  refine tailO_step rfl (fun K hK => ?_)
  go_simp
  refine (eqProg_any w12 _ v12 fb XB_12.out Y_12.out).mono ?_
  rintro e w13 ⟨rfl, b13⟩
  have B_13 := Lib.hid (B_12.out.trans (b13.mono B_12.out.size))
  have P2_13 := Lib.hid (P2_12.out.below b13)
  have P3_13 := Lib.hid (P3_12.out.below b13)
  have W_13 := Lib.hid (ownsRow_below W_12.out b13)
  have C6_13 := Lib.hid (C6_12.out.trans (b13.mono C6_12.out.size))
  have P8_13 := Lib.hid (P8_12.out.below b13)
  have C7_13 := Lib.hid (C7_12.out.trans (b13.mono C7_12.out.size))
  have P9_13 := Lib.hid (P9_12.out.below b13)
  have G_13 := Lib.hid (ownsRow_below G_12.out b13)
  clear B_12 P2_12 P3_12 W_12 C6_12 P8_12 C7_12 P9_12 G_12 XB_12 Y_12 b13
  refine hK _ _ (.inr ⟨blkc1 P9_13.out, blkc1 P3_13.out⟩) ?_
  clear hK K
  refine tailO_step rfl (fun K hK => ?_)
  go_simp
  refine hK _ _ (.inl rfl) (tailO_nil ?_)
  clear hK K
  have cc0 := blkc1 P8_13.out; have cl0 := P8_13.out.lt
  go_wp2_with (fail)
  go_at_call 11
  clear cc0 cl0
  refine (markProg_any OA.out w13 1 (fun q _ h2 => C6_13.out.block q h2) C6_13.out.size (by have := E1.out; have := HW1.out; omega)).mono ?_
  rintro e w14 ⟨k1, rfl, hk1, hk2, hm⟩
  have hs4 := S45.out; have hs5 := S56.out; have hs6b := S6b.out; have hs6 := S67.out; have hs7b := S7b.out; have hs7 := S78.out; have hsb := SB4.out
  have hc7 := C7_13.out.size
  have b14 : Below w.heap.size w13 w14 := hm.below (by omega) (B_13.out.size)
  have B_14 := Lib.hid (B_13.out.trans b14)
  have W_14 := Lib.hid (ownsRow_same W_13.out (fun k hk => hm.block k (World.ownsRow.lt W_13.out k hk).2 (fun hh => by have := (PW.out k hk).2; omega)))
  have G_14 := Lib.hid (ownsRow_same G_13.out (fun k hk => hm.block k (World.ownsRow.lt G_13.out k hk).2 (fun hh => by have := (PG.out k hk).1; omega)))
  have P2_14 := Lib.hid (P2_13.out.same (hm.block _ P2_13.out.lt (fun hh => by omega)))
  have P3_14 := Lib.hid (P3_13.out.same (hm.block _ P3_13.out.lt (fun hh => by omega)))
  have P9_14 := Lib.hid (P9_13.out.same (hm.block _ P9_13.out.lt (fun hh => by omega)))
  have HB14 : Hid (∀ q, w6b.heap.size ≤ q → q < w7.heap.size → w14.heap[q]? = w7.heap[q]?) := Lib.hid (fun q h1 h2 => (hm.block q (by omega) (fun hh => by omega)).trans (C7_13.out.block q h2))
  have S714 : Hid (w7.heap.size ≤ w14.heap.size) := Lib.hid (Nat.le_trans hc7 hm.size)
  have K1 : Hid (k1 ≤ 4000000) := Lib.hid (by have := E1.out; have := HW1.out; omega)
  clear hm hk1 hk2 hc7 b14 hs4 hs5 hs6b hs6 hs7b hs7 hsb
  clear B_13 P2_13 P3_13 W_13 C6_13 P8_13 C7_13 P9_13 G_13 
  have cc0 := blkc1 P9_14.out; have cl0 := P9_14.out.lt
  go_wp2_with (fail)
  go_at_call 11
  clear cc0 cl0
  refine (markProg_any OB.out w14 k1 HB14.out S714.out (by have := E2.out; have := HW2.out; have := K1.out; omega)).mono ?_
  rintro e w15 ⟨k2, rfl, hk1, hk2, hm⟩
  have hs4 := S45.out; have hs5 := S56.out; have hs6b := S6b.out; have hs6 := S67.out; have hs7b := S7b.out; have hs7 := S78.out; have hsb := SB4.out
  have b15 : Below w.heap.size w14 w15 := hm.below (by omega) (B_14.out.size)
  have B_15 := Lib.hid (B_14.out.trans b15)
  have W_15 := Lib.hid (ownsRow_same W_14.out (fun k hk => hm.block k (World.ownsRow.lt W_14.out k hk).2 (fun hh => by have := (PW.out k hk).2; omega)))
  have G_15 := Lib.hid (ownsRow_same G_14.out (fun k hk => hm.block k (World.ownsRow.lt G_14.out k hk).2 (fun hh => by have := (PG.out k hk).1; omega)))
  have P2_15 := Lib.hid (P2_14.out.same (hm.block _ P2_14.out.lt (fun hh => by omega)))
  have P3_15 := Lib.hid (P3_14.out.same (hm.block _ P3_14.out.lt (fun hh => by omega)))
  have q2 : (0 : Int) ≤ (k2 : Int) := by omega
  have q3 : ¬ (k2 : Int) < 0 := by omega
  clear hm hk1 hk2 b15 hs4 hs5 hs6b hs6 hs7b hs7 hsb
  clear B_14 W_14 G_14 P2_14 P3_14 P9_14 
  go_wp2_with (fail)
  go_at_call 9
  refine (eqInts (ints_of_own G_15.out HZN.out) (ints_of_own W_15.out HZN.out) (by have := HN3.out; have := HZN.out; omega)).mono ?_
  rintro e w16 ⟨rfl, b16⟩
  have B_16 := Lib.hid (B_15.out.trans (b16.mono B_15.out.size))
  have W_16 := Lib.hid (ownsRow_below W_15.out b16)
  have G_16 := Lib.hid (ownsRow_below G_15.out b16)
  have P2_16 := Lib.hid (P2_15.out.below b16)
  have P3_16 := Lib.hid (P3_15.out.below b16)
  clear B_15 W_15 G_15 P2_15 P3_15 b16
  go_wp2_with (fail)
  go_at_call 12
  refine (markIntS_any w16 _ _ n 1 _ G_16.out (by have := HN3.out; omega)).mono ?_
  rintro e w17 ⟨rfl, o17, b17⟩
  have hs4 := S45.out; have hs5 := S56.out; have hs6b := S6b.out; have hs6 := S67.out; have hs7b := S7b.out; have hs7 := S78.out; have hsb := SB4.out
  have IG_17 : Hid (IntsAt w17 (.slice ga n gc) (iota 1 n)) := Lib.hid (ints_of_own o17 (by rw [iota_length]))
  have B_17 := Lib.hid (B_16.out.trans (b17.mono (by omega)))
  have W_17 := Lib.hid (ownsRow_same W_16.out (fun k hk => b17.block k (by have := (PW.out k hk).2; omega)))
  have P2_17 := Lib.hid (P2_16.out.same (b17.block _ (by omega)))
  have P3_17 := Lib.hid (P3_16.out.same (b17.block _ (by omega)))
  obtain ⟨m, hm⟩ : ∃ m : Nat, 1 + n = m := ⟨_, rfl⟩
  rw [hm]
  have HM := Lib.hid hm
  have em : ((m : Int) != (m : Int)) = false := by simp
  have em2 : ((m : Int) == (m : Int)) = true := by simp
  have qm : ¬ (m : Int) < 0 := by omega
  clear b17 o17 hm hs4 hs5 hs6b hs6 hs7b hs7 hsb
  clear B_16 W_16 G_16 P2_16 P3_16 
  go_wp2_with (fail)
  go_at_call 13
  refine (heldIntS_any w17 _ n 1 IG_17.out (by have := HN3.out; omega)).mono ?_
  rw [HM.out]
  rintro e w18 ⟨rfl, rfl⟩
  have cc0 := blkc1 P2_17.out
  have cc1 := blkc1 P3_17.out
  have hs0 : (fun W : World => W.cell? ⟨P, 0, none⟩ = some (.slice fva na fca) ∧ W.cell? ⟨(P + 1), 0, none⟩ = some (.slice fvb nb fcb)) w17 := ⟨cc0, cc1⟩
  go_wp2_with (fail)
  go_region_held3 (fun W : World => W.cell? ⟨P, 0, none⟩ = some (.slice fva na fca) ∧ W.cell? ⟨(P + 1), 0, none⟩ = some (.slice fvb nb fcb)) (first | assumption | exact ⟨blkc1 P2_21.out, blkc1 P3_21.out⟩ | exact ⟨blkc1 P2_20.out, blkc1 P3_20.out⟩ | exact ⟨blkc1 P2_19.out, blkc1 P3_19.out⟩) ((first
    | (go_at_call 7; refine (HTA.out _ B_17.out.drew E1.out).mono ?_; rintro e w19 h19; obtain ⟨v19, rfl, b19, _, x19, k19⟩ := h19.open; have b19 : Below w17.heap.size w17 w19 := (Below.refl w17.heap.size w17).drew.trans b19; have X_19 := Lib.hid x19; have CX := Lib.hid k19; have B_19 := Lib.hid (B_17.out.trans (b19.mono B_17.out.size)); have W_19 := Lib.hid (ownsRow_below W_17.out b19); have IG_19 := Lib.hid (IG_17.out.below b19); have P2_19 := Lib.hid (P2_17.out.below b19); have P3_19 := Lib.hid (P3_17.out.below b19); clear h19 b19 x19 k19)
    | (go_at_call 7; refine (HTB.out w19 B_19.out E2.out).mono ?_; rintro e w20 h20; obtain ⟨v20, rfl, b20, _, x20, k20⟩ := h20.open; have Y_20 := Lib.hid x20; have CY := Lib.hid k20; have B_20 := Lib.hid (B_19.out.trans (b20.mono B_19.out.size)); have W_20 := Lib.hid (ownsRow_below W_19.out b20); have IG_20 := Lib.hid (IG_19.out.below b20); have P2_20 := Lib.hid (P2_19.out.below b20); have P3_20 := Lib.hid (P3_19.out.below b20); have X_20 := Lib.hid (X_19.out.below b20); clear h20 b20 x20 k20)
    | (go_at_call 8; refine (HIM.out w20 v19 v20 B_20.out CX.out CY.out X_20.out Y_20.out E1.out E2.out).mono ?_; rintro e w21 h21; obtain ⟨hv, rfl, b21, o21⟩ := HOP.out _ _ _ h21; have H21 := Lib.hid o21; have B_21 := Lib.hid (B_20.out.trans (b21.mono B_20.out.size)); have W_21 := Lib.hid (ownsRow_below W_20.out b21); have IG_21 := Lib.hid (IG_20.out.below b21); have P2_21 := Lib.hid (P2_20.out.below b21); have P3_21 := Lib.hid (P3_20.out.below b21); obtain ⟨ha, hc, rfl⟩ := rowForm H21.out; clear h21 b21 o21)))
  clear cc0 cc1 hs0
  clear B_17 W_17 IG_17 P2_17 P3_17 
  clear B_19 W_19 IG_19 P2_19 P3_19 X_19 
  clear B_20 W_20 IG_20 P2_20 P3_20 X_20 Y_20 
  go_wp2_with (fail)
  go_at_call 9
  refine (eqInts (ints_of_own H21.out HZN.out) (ints_of_own W_21.out HZN.out) (by have := HN3.out; have := HZN.out; omega)).mono ?_
  rintro e w22 ⟨rfl, b22⟩
  have B_22 := Lib.hid (B_21.out.trans (b22.mono B_21.out.size))
  have IG_22 := Lib.hid (IG_21.out.below b22)
  clear B_21 W_21 IG_21 P2_21 P3_21 b22 H21
  go_wp2_with (fail)
  go_at_call 13
  refine (heldIntS_any w22 _ n 1 IG_22.out (by have := HN3.out; omega)).mono ?_
  rw [HM.out]
  rintro e w23 ⟨rfl, rfl⟩
  go_wp2_with (fail)
  first | go_ret | skip
  exact HQ.out _ B_22.out
end Go.Proofs.YtpnliencahnmoaaGreatDoor

set_option linter.unusedVariables false
set_option linter.unusedSimpArgs false
set_option maxRecDepth 100000
namespace Go.Proofs.YtpnliencahnmoaaGreatDoor.Lv
open Go.ChangeShapes Go.WideShapes Go.ChangeAt Go.WideMaps Go.WideElems Go.RowKit Go.Deep
/-- The post of a law: one bool, true; the arguments and the named variables as they were. -/
theorem law_postv {H : Type} {enc : TypeId × Value → H} {P : Program} (hl : laidOutB P = true) {f : Func} {s : ChangeSpec} {W W' : World} {args : Array Value} {ds gs : List (DataW H)} {before : List MemPlace}
    (hvr : varsRowed P s.vars = true) (hr : ∀ t ∈ f.params.toList, P.readableRec t = true ∧ t < P.types.size) {tb : TypeId} (hres : f.resultTypes = #[tb]) (htb : P.underlying tb = some .bool)
    (hs : s.fn H (ds ++ gs) = { results := [.lit (.bool true)], args := ds, vars := gs })
    (hW : DataW.Whole enc P f.params.toList s.vars false W args.toList ds gs before) (hb : Below W.heap.size W W') :
    s.post enc P f false true false false W args (.bool true) W' := by
  have hW0 := hW
  obtain ⟨p, q, hA, hV, rfl, hz, hn⟩ := hW
  have hlt := hW0.lt
  refine ⟨ds, gs, p ++ q, [], p, q, hW0, ?_, ?_, ?_, hb.frame _, fun h => by cases h⟩
  · rw [hs, hres]
    exact ⟨[], [], shut_bool htb true, trodAll_mk0, rfl⟩
  · rw [hs]
    exact Lw.trodAll_below hl hb _ hr _ _ _ hA (fun x hx => hlt x (List.mem_append_left _ hx))
  · rw [hs]
    exact Below.trodVars hl hb hvr hV
theorem gs_three {H : Type} {enc : TypeId × Value → H} {P : Program} {W : World} {ts : List TypeId} {n1 n2 n3 : String} {vs : List Value} {ds gs : List (DataW H)} {before : List MemPlace} (hW : DataW.Whole enc P ts [n1, n2, n3] false W vs ds gs before) : ∃ d1 d2 d3, gs = [d1, d2, d3] := by
  obtain ⟨p, q, hA, hV, _⟩ := hW
  cases gs with
  | nil => simp [DataW.TrodVars] at hV
  | cons d r =>
    obtain ⟨_, _, _, _, _, _, _, _, _, _, hs, _⟩ := hV
    obtain ⟨_, _, _, _, d1, _, _, _, _, _, d2, _, rfl, _⟩ := trodVars_two hs
    exact ⟨d, d1, d2, rfl⟩
theorem list_of {α : Type} {P : Nat → α → Prop} : ∀ (n : Nat), (∀ i, i < n → ∃ x, P i x) → ∃ xs : List α, xs.length = n ∧ ∀ i x, xs[i]? = some x → P i x
  | 0, _ => ⟨[], rfl, fun i x h => by simp at h⟩
  | n + 1, h => by
    obtain ⟨xs, hl, hx⟩ := list_of n (fun i hi => h i (by omega))
    obtain ⟨x, hp⟩ := h n (by omega)
    refine ⟨xs ++ [x], by simp [hl], fun i y hy => ?_⟩
    rcases Nat.lt_or_ge i n with hi | hi
    · rw [List.getElem?_append_left (by omega)] at hy
      exact hx i y hy
    · rw [List.getElem?_append_right (by omega), hl] at hy
      have h0 : i - n = 0 := by
        rcases Nat.eq_zero_or_pos (i - n) with h0 | h0
        · exact h0
        · rw [List.getElem?_eq_none (by simp; omega)] at hy; cases hy
      rw [h0] at hy
      obtain rfl : x = y := by simpa using hy
      obtain rfl : i = n := by omega
      exact hp
theorem none_sp {w : World} {a : Addr} {v : Value} (h : w.cell? (a.add 0) = some v) : a = ⟨a.block, a.off, none⟩ := by
  obtain ⟨b, off, sp⟩ := a
  cases sp with
  | none => rfl
  | some x =>
    exfalso
    simp only [World.cell?, Addr.add] at h
    split at h <;> simp at h
/-- every weight is within reach -/
def Ok {H : Type} (P : Program) (t : TypeId) (d : DataW H) : Prop := ∀ n ∈ d.weights P t, n ≤ reachBytes
theorem weightsAll_mem {H : Type} {P : Program} {e : TypeId} {d : DataW H} {n : Nat} : ∀ {l : List (DataW H)}, d ∈ l → n ∈ d.weights P e → n ∈ DataW.weightsAll P e l
  | x :: r, hd, hn => by
    unfold DataW.weightsAll
    rcases List.mem_cons.1 hd with rfl | hd
    · exact List.mem_append_left _ hn
    · exact List.mem_append_right _ (weightsAll_mem hd hn)
theorem weightsEach_mem {H : Type} {P : Program} {t : TypeId} {d : DataW H} {n : Nat} : ∀ {ts : List TypeId} {l : List (DataW H)} {j : Nat}, ts[j]? = some t → l[j]? = some d → n ∈ d.weights P t → n ∈ DataW.weightsEach P ts l
  | [], _, j, ht, _, _ => by simp at ht
  | _ :: _, [], j, _, hd, _ => by simp at hd
  | u :: ts, x :: r, 0, ht, hd, hn => by
    unfold DataW.weightsEach
    simp at ht hd
    subst ht hd
    exact List.mem_append_left _ hn
  | u :: ts, x :: r, j + 1, ht, hd, hn => by
    unfold DataW.weightsEach
    simp at ht hd
    exact List.mem_append_right _ (weightsEach_mem ht hd hn)
theorem ok_at {H : Type} {P : Program} {t : TypeId} {d : DataW H} {ts : List TypeId} {ds : List (DataW H)} {j : Nat} (h : (DataW.weightsEach P ts ds).all (· ≤ reachBytes) = true) (ht : ts[j]? = some t) (hd : ds[j]? = some d) : Ok P t d := fun n hn => by
  have := List.all_eq_true.1 h n (weightsEach_mem ht hd hn)
  simpa using this
section
variable {H : Type} {enc : TypeId × Value → H} {P : Program} {w : World} {base : Nat} {spare : Nat → Bool} {held : Bool}
theorem open_structW {e : TypeId} {fs : Array Field} {fuel : Nat} {cs : List Value} {x : DataW H × List MemPlace} (he : P.underlying e = some (.struct fs)) (hone : oneCellFields P fs = true) (hC : P.cellsOf e = fs.size)
    (h : DataW.trod enc P w base spare held fuel e cs = some x) (hw : Ok P e x.1) : cs.length = fs.size ∧ ∃ n, n + 1 = fuel ∧ ∀ (j : Nat) (f : Field), fs[j]? = some f → ∃ (v : Value) (y : DataW H × List MemPlace), cs[j]? = some v ∧ DataW.trod enc P w base spare held n f.type [v] = some y ∧ Ok P f.type y.1 := by
  obtain ⟨ys, n', hn', hy, hlen, hyl, hf⟩ := DataW.trod_struct he h
  refine ⟨by rw [hlen, hC], n', hn'.symm, fun j f hj => ?_⟩
  obtain ⟨ho, hk⟩ := hone_of hone j f hj
  have hjl : j < fs.size := (Array.getElem?_eq_some_iff.1 hj).1
  have hv : cs[j]? = some (cs[j]'(by omega)) := List.getElem?_eq_getElem (by omega)
  have h1 := hf j f hj
  rw [ho, hk] at h1
  have hone' : (cs.drop j).take 1 = [cs[j]'(by omega)] := by
    rw [List.drop_eq_getElem_cons (by omega)]
    rfl
  rw [hone'] at h1
  have hys : ys[j]? = some (ys[j]'(by omega)) := List.getElem?_eq_getElem (by omega)
  refine ⟨_, _, hv, h1.trans hys, fun m hm => hw m ?_⟩
  rw [hy]
  unfold DataW.weights
  rw [he]
  refine weightsEach_mem (j := j) (t := f.type) (d := (ys[j]'(by omega)).1) ?_ ?_ hm
  · rw [List.getElem?_map, Array.getElem?_toList, hj]
    try rfl
  · rw [List.getElem?_map, hys]
    try rfl
theorem open_sliceA {t e : TypeId} {fuel : Nat} {v : Value} {x : DataW H × List MemPlace} (ht : P.underlying t = some (.slice e)) (hB : 0 < P.bytesOf e) (h : DataW.trod enc P w base spare held fuel t [v] = some x) (hw : Ok P t x.1) :
    (v = .slice none 0 0) ∨
    ∃ (a : Addr) (len cap : Nat), v = .slice (some a) len cap ∧ len ≤ cap ∧ cap ≤ maxLen ∧ len ≤ reachBytes ∧
      ∀ i, i < len → ∃ (n : Nat) (cs : List Value) (y : DataW H × List MemPlace), n + 1 = fuel ∧ cs.length = P.cellsOf e ∧ (∀ j, j < P.cellsOf e → w.cell? (a.add (i * P.cellsOf e + j)) = cs[j]?) ∧ DataW.trod enc P w base spare held n e cs = some y ∧ Ok P e y.1 := by
  rcases DataW.trod_slice ht h with h0 | ⟨a, len, cap, elems, rest, n, hn, hcs, hx, hb, hl, hm, hlen, hel, hsp, hns⟩
  · exact .inl (by simpa using h0.1)
  · have hv : v = .slice (some a) len cap := by simpa using hcs
    refine .inr ⟨a, len, cap, hv, hl, hm, ?_, fun i hi => ?_⟩
    · have := hw ((elems.length + rest.length) * P.bytesOf e) (by
        rw [hx]
        unfold DataW.weights
        rw [ht]
        simp)
      have h2 : (elems.length + rest.length) * 1 ≤ (elems.length + rest.length) * P.bytesOf e := Nat.mul_le_mul_left _ hB
      omega
    · have hei := hel i hi
      have hget : elems[i]? = some (elems[i]'(by omega)) := List.getElem?_eq_getElem (by omega)
      rw [hget] at hei
      cases hc : w.cells? base (a.add (i * P.cellsOf e)) (P.cellsOf e) with
      | none => rw [hc] at hei; cases hei
      | some cs =>
        rw [hc] at hei
        obtain ⟨_, hcl, hat⟩ := World.cells?_some hc
        refine ⟨n, cs, _, hn.symm, hcl, fun j hj => ?_, hei, fun m hmm => hw m ?_⟩
        · have hcell := hat j hj
          rw [← Go.Deep.add_add, hcell]
          try exact (List.getElem?_eq_getElem _).symm
        · rw [hx]
          unfold DataW.weights
          rw [ht]
          refine List.mem_cons_of_mem _ (List.mem_append_left _ (weightsAll_mem (d := (elems[i]'(by omega)).1) ?_ hmm))
          exact List.mem_map_of_mem (List.getElem_mem _)
theorem open_sliceW {t e : TypeId} {fs : Array Field} {fuel : Nat} {v : Value} {x : DataW H × List MemPlace} (ht : P.underlying t = some (.slice e)) (he : P.underlying e = some (.struct fs))
    (hone : oneCellFields P fs = true) (hC : P.cellsOf e = fs.size) (hB : 0 < P.bytesOf e) (h : DataW.trod enc P w base spare held fuel t [v] = some x) (hw : Ok P t x.1) :
    (v = .slice none 0 0) ∨
    ∃ (a : Addr) (len cap : Nat), v = .slice (some a) len cap ∧ len ≤ cap ∧ cap ≤ maxLen ∧ len ≤ reachBytes ∧
      ∀ i, i < len → ∃ (n : Nat), n + 2 = fuel ∧ ∀ (j : Nat) (f : Field), fs[j]? = some f → ∃ (u : Value) (y : DataW H × List MemPlace), w.cell? (a.add (i * fs.size + j)) = some u ∧ DataW.trod enc P w base spare held n f.type [u] = some y ∧ Ok P f.type y.1 := by
  rcases open_sliceA ht hB h hw with h0 | ⟨a, len, cap, hv, hl, hm, hr, hi⟩
  · exact .inl h0
  · refine .inr ⟨a, len, cap, hv, hl, hm, hr, fun i hil => ?_⟩
    obtain ⟨n, cs, y, hn, hcl, hat, ht', hok⟩ := hi i hil
    obtain ⟨_, n', hn', hf⟩ := open_structW he hone hC ht' hok
    refine ⟨n', by omega, fun j f hj => ?_⟩
    obtain ⟨u, z, h1, h2, h3⟩ := hf j f hj
    have hjl : j < fs.size := (Array.getElem?_eq_some_iff.1 hj).1
    refine ⟨u, z, ?_, h2, h3⟩
    have := hat j (by rw [hC]; exact hjl)
    rw [hC] at this
    rw [this, h1]
theorem strOk {t : TypeId} {n : Nat} {u : Value} {y : DataW H × List MemPlace} (ht : P.underlying t = some .string) (h : DataW.trod enc P w base spare held n t [u] = some y) (hw : Ok P t y.1) : ∃ s : ByteArray, u = .string s ∧ s.size ≤ reachBytes := by
  obtain ⟨s, e, hy, _⟩ := DataW.trod_string ht h
  refine ⟨s, by simpa using e, ?_⟩
  have := hw s.data.toList.length (by rw [hy]; unfold DataW.weights; simp)
  rw [Array.length_toList] at this
  exact this
theorem intOk {t : TypeId} {n : Nat} {u : Value} {y : DataW H × List MemPlace} (ht : P.underlying t = some (.int .i64)) (h : DataW.trod enc P w base spare held n t [u] = some y) : ∃ z : Int, u = .int .i64 z ∧ I64 z := by
  obtain ⟨z, e, _, hwf⟩ := DataW.trod_int ht h
  refine ⟨z, by simpa using e, ?_⟩
  unfold I64
  simp [Lit.wf, IntKind.min, IntKind.max, IntKind.signed, IntKind.bits] at hwf
  omega
end
section
variable {H : Type} {enc : TypeId × Value → H} {w : World} {base : Nat} {spare : Nat → Bool} {held : Bool}
theorem rb_big : reachBytes ≤ big := by decide
theorem open_strs {fuel : Nat} {v : Value} {x : DataW H × List MemPlace} (h : DataW.trod enc Tryz.prog w base spare held fuel 61 [v] = some x) (hw : Ok Tryz.prog 61 x.1) : ∃ ss, StrsAt w v ss := by
  rcases open_sliceA Tryz.underlying61 (by decide +kernel) h hw with rfl | ⟨a, len, cap, rfl, hl, hm, hr, hi⟩
  · exact ⟨[], none, 0, rfl, by simp, fun i s hi => by simp at hi⟩
  · have hc : Tryz.prog.cellsOf 9 = 1 := by kernel_rfl
    have key : ∀ i, i < len → ∃ s : ByteArray, w.cell? (a.add i) = some (.string s) ∧ s.size ≤ reachBytes := fun i hil => by
      obtain ⟨n, cs, y, _, hcl, hat, htr, hok⟩ := hi i hil
      rw [hc] at hcl hat
      match cs, hcl with
      | [u], _ =>
        obtain ⟨s, rfl, hs⟩ := strOk Tryz.underlying9 htr hok
        have := hat 0 (by decide)
        exact ⟨s, by simpa using this, hs⟩
    obtain ⟨ss, hsl, hss⟩ := list_of len key
    have := rb_big
    refine ⟨ss, some a, cap, by rw [hsl], by omega, fun i s hi => ?_⟩
    have h0 := hss 0 (ss[0]'(by have := idx_lt hi; omega)) (List.getElem?_eq_getElem _)
    have ha := none_sp h0.1
    have h1 := hss i s hi
    rw [ha] at h1
    simp only [Arg.add_eq] at h1
    exact ⟨by omega, a.block, a.off, by rw [← ha], h1.1⟩
/-- expressions, every number in a word -/
theorem open_exprs : ∀ (fuel : Nat) {v : Value} {x : DataW H × List MemPlace}, DataW.trod enc Tryz.prog w base spare held fuel 158 [v] = some x → Ok Tryz.prog 158 x.1 → ∃ es, ExsAt w v es ∧ ∀ e ∈ es, ExW e
  | fuel, v, x, h, hw => by
    rcases open_sliceW Tryz.underlying158 Tryz.underlying216 (by kernel_rfl) (by kernel_rfl) (by decide +kernel) h hw with rfl | ⟨a, len, cap, rfl, hl, hm, hr, hf⟩
    · exact ⟨[], .mk none 0 0 [] (fun _ => .bool true) rfl (by simp) (fun i e hi => by simp at hi) (fun i e hi => by simp at hi) (fun i e hi => by simp at hi), fun e he => by cases he⟩
    · have key : ∀ i, i < len → ∃ p : Ex × Value, w.cell? (a.add (i * 4)) = some (.int .i64 p.1.op) ∧ w.cell? (a.add (i * 4 + 1)) = some (.int .i64 p.1.n) ∧ w.cell? (a.add (i * 4 + 2)) = some (.string p.1.name) ∧ w.cell? (a.add (i * 4 + 3)) = some p.2 ∧ p.1.name.size ≤ reachBytes ∧ ExsAt w p.2 p.1.kids ∧ ExW p.1 := fun i hi => by
        obtain ⟨n, hn, hj⟩ := hf i hi
        obtain ⟨v0, y0, c0, t0, _⟩ := hj 0 _ rfl
        obtain ⟨v1, y1, c1, t1, _⟩ := hj 1 _ rfl
        obtain ⟨v2, y2, c2, t2, k2⟩ := hj 2 _ rfl
        obtain ⟨v3, y3, c3, t3, k3⟩ := hj 3 _ rfl
        obtain ⟨z0, rfl, w0⟩ := intOk Tryz.underlying3 t0
        obtain ⟨z1, rfl, w1⟩ := intOk Tryz.underlying3 t1
        obtain ⟨s, rfl, hs⟩ := strOk Tryz.underlying9 t2 k2
        obtain ⟨es, h1, h2⟩ := open_exprs n t3 k3
        exact ⟨(.mk z0 z1 s es, v3), c0, c1, c2, c3, hs, h1, .mk w0 h2⟩
      obtain ⟨ps, hpl, hps⟩ := list_of len key
      have hb := rb_big
      have get : ∀ (i : Nat) e, (ps.map (·.1))[i]? = some e → ∃ p : Ex × Value, ps[i]? = some p ∧ p.1 = e := fun i e hi => by
        rw [List.getElem?_map] at hi
        cases hp : ps[i]? with
        | none => rw [hp] at hi; cases hi
        | some p => rw [hp] at hi; exact ⟨p, rfl, by simpa using hi⟩
      refine ⟨ps.map (·.1), .mk (some a) len cap _ (fun i => (ps.getD i (.mk 0 0 ⟨#[]⟩ [], .bool true)).2) (by simp [hpl]) (by simp [hpl]; omega) (fun i e hi => ?_) (fun i e hi => ?_) (fun i e hi => ?_), fun e he => ?_⟩
      · obtain ⟨p, hp, rfl⟩ := get i e hi
        have := (hps i p hp).2.2.2.2.1
        omega
      · obtain ⟨p, hp, rfl⟩ := get i e hi
        have h0 := hps 0 (ps[0]'(by have := idx_lt hp; omega)) (List.getElem?_eq_getElem _)
        have ha := none_sp (by simpa using h0.1)
        obtain ⟨c0, c1, c2, c3, _⟩ := hps i p hp
        rw [ha] at c0 c1 c2 c3
        simp only [Arg.add_eq] at c0 c1 c2 c3
        have hg : (ps.getD i (.mk 0 0 ⟨#[]⟩ [], .bool true)) = p := by simp [List.getD_eq_getElem?_getD, hp]
        refine ⟨a.block, a.off, by rw [← ha], by simpa [Nat.add_assoc] using c0, by simpa [Nat.add_assoc] using c1, by simpa [Nat.add_assoc] using c2, ?_⟩
        rw [hg]
        simpa [Nat.add_assoc] using c3
      · obtain ⟨p, hp, rfl⟩ := get i e hi
        have hg : (ps.getD i (.mk 0 0 ⟨#[]⟩ [], .bool true)) = p := by simp [List.getD_eq_getElem?_getD, hp]
        rw [hg]
        exact (hps i p hp).2.2.2.2.2.1
      · obtain ⟨i, hi⟩ := List.getElem?_of_mem he
        obtain ⟨p, hp, rfl⟩ := get i e hi
        exact (hps i p hp).2.2.2.2.2.2
termination_by fuel => fuel
decreasing_by omega
/-- statements, every number in a word -/
theorem open_stmts : ∀ (fuel : Nat) {v : Value} {x : DataW H × List MemPlace}, DataW.trod enc Tryz.prog w base spare held fuel 77 [v] = some x → Ok Tryz.prog 77 x.1 → ∃ ss, StsAt w v ss ∧ ∀ s ∈ ss, StW s
  | fuel, v, x, h, hw => by
    rcases open_sliceW Tryz.underlying77 Tryz.underlying160 (by kernel_rfl) (by kernel_rfl) (by decide +kernel) h hw with rfl | ⟨a, len, cap, rfl, hl, hm, hr, hf⟩
    · exact ⟨[], .mk none 0 0 [] (fun _ => .bool true) (fun _ => .bool true) (fun _ => .bool true) rfl (by simp) (fun i e hi => by simp at hi) (fun i e hi => by simp at hi) (fun i e hi => by simp at hi) (fun i e hi => by simp at hi) (fun i e hi => by simp at hi), fun e he => by cases he⟩
    · have key : ∀ i, i < len → ∃ p : St × Value × Value × Value, w.cell? (a.add (i * 5)) = some (.int .i64 p.1.op) ∧ w.cell? (a.add (i * 5 + 1)) = some (.string p.1.name) ∧ w.cell? (a.add (i * 5 + 2)) = some p.2.1 ∧ w.cell? (a.add (i * 5 + 3)) = some p.2.2.1 ∧ w.cell? (a.add (i * 5 + 4)) = some p.2.2.2 ∧ p.1.name.size ≤ reachBytes ∧ ExsAt w p.2.1 p.1.args ∧ StsAt w p.2.2.1 p.1.body ∧ StsAt w p.2.2.2 p.1.els ∧ StW p.1 := fun i hi => by
        obtain ⟨n, hn, hj⟩ := hf i hi
        obtain ⟨v0, y0, c0, t0, _⟩ := hj 0 _ rfl
        obtain ⟨v1, y1, c1, t1, k1⟩ := hj 1 _ rfl
        obtain ⟨v2, y2, c2, t2, k2⟩ := hj 2 _ rfl
        obtain ⟨v3, y3, c3, t3, k3⟩ := hj 3 _ rfl
        obtain ⟨v4, y4, c4, t4, k4⟩ := hj 4 _ rfl
        obtain ⟨z0, rfl, w0⟩ := intOk Tryz.underlying3 t0
        obtain ⟨s, rfl, hs⟩ := strOk Tryz.underlying9 t1 k1
        obtain ⟨es, h1, h2⟩ := open_exprs n t2 k2
        obtain ⟨bs, h3, h4⟩ := open_stmts n t3 k3
        obtain ⟨ls, h5, h6⟩ := open_stmts n t4 k4
        exact ⟨(.mk z0 s es bs ls, v2, v3, v4), c0, c1, c2, c3, c4, hs, h1, h3, h5, .mk h2 h4 h6⟩
      obtain ⟨ps, hpl, hps⟩ := list_of len key
      have hb := rb_big
      have get : ∀ (i : Nat) e, (ps.map (·.1))[i]? = some e → ∃ p : St × Value × Value × Value, ps[i]? = some p ∧ p.1 = e := fun i e hi => by
        rw [List.getElem?_map] at hi
        cases hp : ps[i]? with
        | none => rw [hp] at hi; cases hi
        | some p => rw [hp] at hi; exact ⟨p, rfl, by simpa using hi⟩
      obtain ⟨D, hD⟩ : ∃ D : St × Value × Value × Value, D = (.mk 0 ⟨#[]⟩ [] [] [], .bool true, .bool true, .bool true) := ⟨_, rfl⟩
      refine ⟨ps.map (·.1), .mk (some a) len cap _ (fun i => (ps.getD i D).2.1) (fun i => (ps.getD i D).2.2.1) (fun i => (ps.getD i D).2.2.2) (by simp [hpl]) (by simp [hpl]; omega) (fun i e hi => ?_) (fun i e hi => ?_) (fun i e hi => ?_) (fun i e hi => ?_) (fun i e hi => ?_), fun e he => ?_⟩
      · obtain ⟨p, hp, rfl⟩ := get i e hi
        have := (hps i p hp).2.2.2.2.2.1
        omega
      · obtain ⟨p, hp, rfl⟩ := get i e hi
        have h0 := hps 0 (ps[0]'(by have := idx_lt hp; omega)) (List.getElem?_eq_getElem _)
        have ha := none_sp (by simpa using h0.1)
        obtain ⟨c0, c1, c2, c3, c4, _⟩ := hps i p hp
        rw [ha] at c0 c1 c2 c3 c4
        simp only [Arg.add_eq] at c0 c1 c2 c3 c4
        have hg : ps.getD i D = p := by simp [List.getD_eq_getElem?_getD, hp]
        refine ⟨a.block, a.off, by rw [← ha], by simpa [Nat.add_assoc] using c0, by simpa [Nat.add_assoc] using c1, ?_, ?_, ?_⟩
        all_goals rw [hg]
        · simpa [Nat.add_assoc] using c2
        · simpa [Nat.add_assoc] using c3
        · simpa [Nat.add_assoc] using c4
      · obtain ⟨p, hp, rfl⟩ := get i e hi
        have hg : ps.getD i D = p := by simp [List.getD_eq_getElem?_getD, hp]
        rw [hg]
        exact (hps i p hp).2.2.2.2.2.2.1
      · obtain ⟨p, hp, rfl⟩ := get i e hi
        have hg : ps.getD i D = p := by simp [List.getD_eq_getElem?_getD, hp]
        rw [hg]
        exact (hps i p hp).2.2.2.2.2.2.2.1
      · obtain ⟨p, hp, rfl⟩ := get i e hi
        have hg : ps.getD i D = p := by simp [List.getD_eq_getElem?_getD, hp]
        rw [hg]
        exact (hps i p hp).2.2.2.2.2.2.2.2.1
      · obtain ⟨i, hi⟩ := List.getElem?_of_mem he
        obtain ⟨p, hp, rfl⟩ := get i e hi
        exact (hps i p hp).2.2.2.2.2.2.2.2.2
termination_by fuel => fuel
decreasing_by all_goals omega
theorem open_fxs {fuel : Nat} {v : Value} {x : DataW H × List MemPlace} (h : DataW.trod enc Tryz.prog w base spare held fuel 22 [v] = some x) (hw : Ok Tryz.prog 22 x.1) : ∃ fs, FxsAt w v fs ∧ FxsW fs := by
  rcases open_sliceW Tryz.underlying22 Tryz.underlying79 (by kernel_rfl) (by kernel_rfl) (by decide +kernel) h hw with rfl | ⟨a, len, cap, rfl, hl, hm, hr, hf⟩
  · exact ⟨[], ⟨none, 0, rfl, by simp, fun i f hi => by simp at hi⟩, fun f hf => by cases hf⟩
  · have key : ∀ i, i < len → ∃ f : Fx, (∃ pv bv, w.cell? (a.add (i * 3)) = some (.string f.name) ∧ w.cell? (a.add (i * 3 + 1)) = some pv ∧ w.cell? (a.add (i * 3 + 2)) = some bv ∧ StrsAt w pv f.params ∧ StsAt w bv f.body) ∧ f.name.size ≤ reachBytes ∧ ∀ s ∈ f.body, StW s := fun i hi => by
      obtain ⟨n, hn, hj⟩ := hf i hi
      obtain ⟨v0, y0, c0, t0, k0⟩ := hj 0 _ rfl
      obtain ⟨v1, y1, c1, t1, k1⟩ := hj 1 _ rfl
      obtain ⟨v2, y2, c2, t2, k2⟩ := hj 2 _ rfl
      obtain ⟨s, rfl, hs⟩ := strOk Tryz.underlying9 t0 k0
      obtain ⟨ss, h1⟩ := open_strs t1 k1
      obtain ⟨bs, h3, h4⟩ := open_stmts n t2 k2
      exact ⟨⟨s, ss, bs⟩, ⟨v1, v2, c0, c1, c2, h1, h3⟩, hs, h4⟩
    obtain ⟨fs, hfl, hfs⟩ := list_of len key
    have hb := rb_big
    refine ⟨fs, ⟨some a, cap, by rw [hfl], by omega, fun i f hi => ?_⟩, fun f hm => ?_⟩
    · have h0 := hfs 0 (fs[0]'(by have := idx_lt hi; omega)) (List.getElem?_eq_getElem _)
      obtain ⟨_, _, h00, _⟩ := h0.1
      have ha := none_sp (by simpa using h00)
      obtain ⟨⟨pv, bv, c0, c1, c2, h1, h2⟩, h3, _⟩ := hfs i f hi
      rw [ha] at c0 c1 c2
      simp only [Arg.add_eq] at c0 c1 c2
      exact ⟨by omega, a.block, a.off, pv, bv, by rw [← ha], by simpa [Nat.add_assoc] using c0, by simpa [Nat.add_assoc] using c1, by simpa [Nat.add_assoc] using c2, h1, h2⟩
    · obtain ⟨i, hi⟩ := List.getElem?_of_mem hm
      exact (hfs i f hi).2.2
/-- a program, as an argument -/
theorem open_prog {W : World} {r : Reach} {b0 : Nat} {v : Value} {d : DataW H} {p : List MemPlace} (hv : Value.okWide Tryz.prog W r b0 24 v) (h : DataW.Trod enc Tryz.prog W base spare held 24 v d p) (hw : Ok Tryz.prog 24 d) :
    ∃ v0 fs, v = .agg #[v0] ∧ FxsAt W v0 fs ∧ FxsW fs := by
  obtain ⟨cs, rfl, hsz⟩ := okWide_struct Tryz.underlying24 hv
  obtain ⟨l⟩ := cs
  have hC : Tryz.prog.cellsOf 24 = 1 := by kernel_rfl
  match l, hsz.trans hC with
  | [c0], _ =>
    obtain ⟨fuel, hf⟩ := h
    obtain ⟨_, n, _, hg⟩ := open_structW Tryz.underlying24 (by kernel_rfl) (by kernel_rfl) hf hw
    obtain ⟨u, y, hu, ht, hok⟩ := hg 0 _ rfl
    obtain rfl : c0 = u := by simpa [Value.cells] using hu
    obtain ⟨fs, h2, h3⟩ := open_fxs ht hok
    exact ⟨c0, fs, rfl, h2, h3⟩
end
end Go.Proofs.YtpnliencahnmoaaGreatDoor.Lv
