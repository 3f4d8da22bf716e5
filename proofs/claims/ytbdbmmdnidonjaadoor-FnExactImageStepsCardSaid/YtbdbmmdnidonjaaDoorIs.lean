/- ImageSteps on both sides; the law of it, walked. Premises of the walk: the tables of forms and magic bytes read as laid (the card ties them). -/
import Derived.Test.YtbdbmmdnidonjaaDoorJx
import Derived.Test.YtbdbmmdnidonjaaDoorJm
import Derived.Test.YtbdbmmdnidonjaaDoorJl
set_option linter.unusedVariables false
set_option linter.unusedSimpArgs false
set_option maxRecDepth 100000
namespace Go.Proofs.YtbdbmmdnidonjaaDoor
open Go.RowKit

noncomputable def imgAns (b : List Nat) (zs : List Int) : Int := match readI b with | some r => stepsAns r.2 zs | none => -1
def StP (b : List Nat) (zs : List Int) (w : World) (e : Ending) (w' : World) : Prop := e = .returned (.int .i64 (imgAns b zs)) ∧ Below w.heap.size w w'
theorem readI_le {b : List Nat} {l : List Sec} {fs : List Mf} (h : readI b = some (l, fs)) : MfsLe fs ∧ 0 < fs.length := by
  obtain ⟨h1, h2, h3⟩ := readI_some h
  have hb : 3 ≤ b.length := by
    unfold headN at h1
    simp only [Bool.and_eq_true, decide_eq_true_eq] at h1
    exact h1.1.1
  obtain ⟨a1, a2, a3, a4⟩ := imF_le hb h2
  have := (imF_sec h2).2.1
  have h4 := h3.1
  refine ⟨⟨?_, fun f hf => by have := a4 f hf; omega⟩, ?_⟩
  · omega
  · omega
theorem inSrc_own {w : World} {B g n cap : Nat} {zs : List Int} (h : w.ownsRow B 3 1 (.slice (some ⟨g, 0, none⟩) n cap) n (ints zs)) (hn : n = zs.length) (hs : n ≤ 1048576) : InSrc w g 0 n cap zs :=
  ⟨hn.symm, (ownsRow_lt h).2.2, hs, fun i hi => by
    rw [Nat.zero_add, h.cellAt i (by omega)]
    simp [ints, List.getD_eq_getElem?_getD, List.getElem?_eq_getElem (show i < zs.length by omega)]⟩
theorem imgAns_no {b : List Nat} {zs : List Int} (h : readI b = none) : imgAns b zs = -1 := by unfold imgAns; rw [h]
theorem imgAns_yes {b : List Nat} {zs : List Int} {l : List Sec} {fs : List Mf} (h : readI b = some (l, fs)) : stepsAns fs zs = imgAns b zs := by unfold imgAns; rw [h]
/-- functions of the call's own that are some lie in a block -/
theorem OwnFns.some_form {B : Nat} {w : World} {fv : Value} {fs : List Mf} (h : OwnFns B w fv fs) (h0 : 0 < fs.length) : ∃ g c, fv = .slice (some ⟨g, 0, none⟩) fs.length c := by
  obtain ⟨ys, h1, _⟩ := h
  obtain ⟨g, c, rfl⟩ := own_form h1 h0
  exact ⟨g, c, rfl⟩


set_option maxHeartbeats 1000000 in
theorem specImageSteps_any (w : World) (v : Value) (b : List Nat) (h : CsC w v b) (hle : b.length ≤ 1048576) (ib n cap : Nat) (zs : List Int) (hi : InSrc w ib 0 n cap zs) :
    Calls Tryd.prog 41 #[v, .slice (some ⟨ib, 0, none⟩) n cap] w (StP b zs w) := by
  have HRD := Lib.hid (read_any w v b h hle)
  have HIN := Lib.hid hi
  skip
  obtain ⟨a, cp, rfl, _⟩ := h.2
  obtain ⟨L, hL⟩ : ∃ L, L = b.length := ⟨_, rfl⟩
  rw [← hL] at HRD ⊢
  obtain ⟨Q, hQ⟩ : ∃ Q, Q = StP b zs w := ⟨_, rfl⟩
  have HQ : Hid (∀ k w', k = imgAns b zs → Below w.heap.size w w' → Q (.returned (.int .i64 k)) w') := Lib.hid (fun k w' h1 h2 => by rw [hQ, h1]; exact ⟨rfl, h2⟩)
  rw [← hQ]
  clear hL hQ h hi
  go_enter Tryd.func41, Tryd.ntmps41
  go_wp2_with (fail)
  go_at_call 65
  refine HRD.out.mono ?_
  rintro e w5 ⟨fv, fs, ok, rfl, h1, h2, hof, hb⟩
  cases ok with
  | false =>
    have HX := Lib.hid (h2 rfl).1
    obtain ⟨fa, fc, rfl, _⟩ := hof.at
    have HB := Lib.hid hb
    have hs := hb.size
    clear h1 h2 hb hof
    go_wp2_with (fail)
    first | go_ret | skip
    refine HQ.out _ _ (imgAns_no HX.out).symm ?_
    first | exact HB.out.alloc hs _ | exact (HB.out.alloc hs _).setCell (p := ⟨w5.heap.size, 0, none⟩) hs _
  | true =>
    obtain ⟨l, hl⟩ := h1 rfl
    have HX := Lib.hid hl
    obtain ⟨hle2, h0⟩ := readI_le hl
    obtain ⟨fg, fc, rfl⟩ := hof.some_form h0
    have HM := Lib.hid hof.at
    have HB := Lib.hid hb
    have HLE := Lib.hid hle2
    have hs := hb.size
    obtain ⟨m, hm⟩ : ∃ m, m = fs.length := ⟨_, rfl⟩
    have HN := Lib.hid hm
    rw [← hm] at HM ⊢
    clear h1 h2 hb hof hl hle2 h0 hm
    go_wp2_with (fail)
    go_at_call 14
    generalize hw6 : w5.alloc _ = w6
    have hb6 : Below w5.heap.size w5 w6 := by rw [← hw6]; exact below1 _ _
    have hx6 := HM.out.below hb6
    have hi6 := (HIN.out.below HB.out).below hb6
    have hb6' := HB.out.trans (hb6.mono HB.out.size)
    refine (specMachSteps w6 fg 0 m fc fs zs hx6 HN.out HLE.out ib 0 n cap hi6).mono ?_
    rintro e w7 ⟨rfl, hb7⟩
    have HB7 := Lib.hid (hb6'.trans (hb7.mono hb6'.size))
    clear hb7 hb6 hx6 hi6 hb6' hw6
    go_wp2_with (fail)
    first | go_ret | skip
    exact HQ.out _ _ (imgAns_yes HX.out) HB7.out


set_option maxHeartbeats 1000000 in
theorem implImageSteps_any (w : World) (v : Value) (b : List Nat) (hF : Forms w) (hM : Magic w) (h : CsC w v b) (hle : b.length ≤ 1048576) (ib n cap : Nat) (zs : List Int) (hi : InSrc w ib 0 n cap zs) :
    Calls Tryd.prog 42 #[v, .slice (some ⟨ib, 0, none⟩) n cap] w (StP b zs w) := by
  have HRD := Lib.hid (iread_any w v b hF hM h hle)
  have HIN := Lib.hid hi
  have HFO := Lib.hid hF
  obtain ⟨a, cp, rfl, _⟩ := h.2
  obtain ⟨L, hL⟩ : ∃ L, L = b.length := ⟨_, rfl⟩
  rw [← hL] at HRD ⊢
  obtain ⟨Q, hQ⟩ : ∃ Q, Q = StP b zs w := ⟨_, rfl⟩
  have HQ : Hid (∀ k w', k = imgAns b zs → Below w.heap.size w w' → Q (.returned (.int .i64 k)) w') := Lib.hid (fun k w' h1 h2 => by rw [hQ, h1]; exact ⟨rfl, h2⟩)
  rw [← hQ]
  clear hL hQ h hi hF hM
  go_enter Tryd.func42, Tryd.ntmps42
  go_wp2_with (fail)
  go_at_call 66
  refine HRD.out.mono ?_
  rintro e w5 ⟨fv, fs, ok, rfl, h1, h2, hof, hb⟩
  cases ok with
  | false =>
    have HX := Lib.hid (h2 rfl).1
    obtain ⟨fa, fc, rfl, _⟩ := hof.at
    have HB := Lib.hid hb
    have hs := hb.size
    clear h1 h2 hb hof
    go_wp2_with (fail)
    first | go_ret | skip
    refine HQ.out _ _ (imgAns_no HX.out).symm ?_
    first | exact HB.out.alloc hs _ | exact (HB.out.alloc hs _).setCell (p := ⟨w5.heap.size, 0, none⟩) hs _
  | true =>
    obtain ⟨l, hl⟩ := h1 rfl
    have HX := Lib.hid hl
    obtain ⟨hle2, h0⟩ := readI_le hl
    obtain ⟨fg, fc, rfl⟩ := hof.some_form h0
    have HM := Lib.hid hof.at
    have HB := Lib.hid hb
    have HLE := Lib.hid hle2
    have hs := hb.size
    obtain ⟨m, hm⟩ : ∃ m, m = fs.length := ⟨_, rfl⟩
    have HN := Lib.hid hm
    rw [← hm] at HM ⊢
    clear h1 h2 hb hof hl hle2 h0 hm
    go_wp2_with (fail)
    go_at_call 13
    generalize hw6 : w5.alloc _ = w6
    have hb6 : Below w5.heap.size w5 w6 := by rw [← hw6]; exact below1 _ _
    have hx6 := HM.out.below hb6
    have hi6 := (HIN.out.below HB.out).below hb6
    have hb6' := HB.out.trans (hb6.mono HB.out.size)
    refine (machSteps13 w6 fg 0 m fc fs zs (HFO.out.below hb6') hx6 HN.out HLE.out ib 0 n cap hi6).mono ?_
    rintro e w7 ⟨rfl, hb7⟩
    have HB7 := Lib.hid (hb6'.trans (hb7.mono hb6'.size))
    clear hb7 hb6 hx6 hi6 hb6' hw6
    go_wp2_with (fail)
    first | go_ret | skip
    exact HQ.out _ _ (imgAns_yes HX.out) HB7.out


set_option maxHeartbeats 4000000 in
theorem imageStepsLaw (w : World) (v vi : Value) (b : List Nat) (zs : List Int) (hF : Forms w) (hM : Magic w) (h : CsAt w v b) (hle : b.length ≤ 1048576) (hi : IntsAt w vi zs) (hz : zs.length ≤ 1048576) : Calls Tryd.prog 9 #[v, vi] w (Yes w) := by
  have HCS := Lib.hid h; have HFO := Lib.hid hF; have HMG := Lib.hid hM
  have HLE := Lib.hid hle
  have HI := Lib.hid hi
  obtain ⟨a, cap, rfl, _, _⟩ := h
  obtain ⟨ia, icap, rfl, hic⟩ := hi
  obtain ⟨L, hL⟩ : ∃ L, L = b.length := ⟨_, rfl⟩
  obtain ⟨m, hm⟩ : ∃ m, m = zs.length := ⟨_, rfl⟩
  have hmb : b.length ≤ 1099511627776 := by omega
  have HTO := Lib.hid (fun w' h => toBytes (w := w') (v := .slice a b.length cap) (b := b) h hmb)
  have HTI := Lib.hid (fun w' (hb : Below w.heap.size w w') => toInts (HI.out.below hb) (by omega))
  unfold NewInts at HTI
  rw [← hL] at HCS HLE HTO ⊢
  rw [← hm] at HI HTI hz ⊢
  have HLN := Lib.hid hL
  have HMN := Lib.hid hm
  have g1 : (L : Int) ≤ 1048576 := by have := HLE.out; omega
  have g2 : (m : Int) ≤ 1048576 := by omega
  obtain ⟨Q, hQ⟩ : ∃ Q, Q = Yes w := ⟨_, rfl⟩
  have HQ : Hid (∀ w', Below w.heap.size w w' → Q (.returned (.bool true)) w') := Lib.hid (fun w' h2 => by rw [hQ]; exact ⟨rfl, h2⟩)
  rw [← hQ]
  obtain ⟨K, hK⟩ : ∃ K, K = imgAns b zs := ⟨_, rfl⟩
  have HK := Lib.hid hK
  clear hL hQ hF hM hmb hle hm hic hK
  go_enter Tryd.func9, Tryd.ntmps9
  go_wp2_with (fail)
  go_at_call 32
  refine (HTO.out w HCS.out).mono ?_
  rintro e w1 ⟨v1, rfl, h1, b1⟩
  have H1 := Lib.hid h1; have B1 := Lib.hid b1
  clear h1 b1
  go_wp2_with (fail)
  go_at_call 19
  refine (HTI.out w1 B1.out).mono ?_
  rintro e w2 ⟨p2, rfl, h2, b2⟩
  have H2 := Lib.hid (inSrc_own h2 HMN.out (by omega))
  have H1' := Lib.hid (H1.out.below b2)
  have B2 := Lib.hid (B1.out.trans (b2.mono B1.out.size))
  clear h2 b2 H1
  go_wp2_with (fail)
  go_at_call 41
  refine (specImageSteps_any w2 v1 b H1'.out (by rw [← HLN.out]; exact HLE.out) p2 m m zs H2.out).mono ?_
  rintro e w3 ⟨rfl, b3⟩
  rw [← HK.out]
  have B3 := Lib.hid (B2.out.trans (b3.mono B2.out.size))
  clear b3 H2 H1'
  go_wp2_with (fail)
  go_at_call 32
  refine (HTO.out w3 (HCS.out.below B3.out)).mono ?_
  rintro e w4 ⟨v4, rfl, h4, b4⟩
  have H4 := Lib.hid h4; have B4 := Lib.hid (B3.out.trans (b4.mono B3.out.size))
  clear h4 b4
  go_wp2_with (fail)
  go_at_call 19
  refine (HTI.out w4 B4.out).mono ?_
  rintro e w5 ⟨p5, rfl, h5, b5⟩
  have H5 := Lib.hid (inSrc_own h5 HMN.out (by omega))
  have H4' := Lib.hid (H4.out.below b5)
  have B5 := Lib.hid (B4.out.trans (b5.mono B4.out.size))
  clear h5 b5 H4
  go_wp2_with (fail)
  go_at_call 42
  refine (implImageSteps_any w5 v4 b (HFO.out.below B5.out) (HMG.out.below B5.out) H4'.out (by rw [← HLN.out]; exact HLE.out) p5 m m zs H5.out).mono ?_
  rintro e w6 ⟨rfl, b6⟩
  rw [← HK.out]
  have H6 := Lib.hid (H4'.out.below b6)
  have H7 := Lib.hid (H5.out.below b6)
  have B6 := Lib.hid (B5.out.trans (b6.mono B5.out.size))
  have e1 : (K != K) = false := by simp
  clear b6 H4' H5
  go_wp2_with (fail)
  go_at_call 32
  refine (HTO.out w6 (HCS.out.below B6.out)).mono ?_
  rintro e w7 ⟨v7, rfl, h7, b7⟩
  have HV := Lib.hid h7
  have H6' := Lib.hid (H6.out.below b7)
  have H7' := Lib.hid (H7.out.below b7)
  have B7 := Lib.hid (B6.out.trans (b7.mono B6.out.size))
  clear h7 b7 H6 H7
  go_wp2_with (fail)
  go_at_call 34
  refine (eqBytes H6'.out.1 HV.out.1 (by have := HLE.out; rw [← HLN.out]; omega)).mono ?_
  rintro e w8 ⟨rfl, b8⟩
  have B8 := Lib.hid (B7.out.trans (b8.mono B7.out.size))
  have H8 := Lib.hid (H7'.out.below b8)
  clear b8 H6' H7' HV
  go_wp2_with (fail)
  go_at_call 19
  refine (HTI.out w8 B8.out).mono ?_
  rintro e w9 ⟨p9, rfl, h9, b9⟩
  have H9 := Lib.hid (inSrc_own h9 HMN.out (by omega)).ints
  have H8' := Lib.hid (H8.out.below b9).ints
  have B9 := Lib.hid (B8.out.trans (b9.mono B8.out.size))
  clear h9 b9 H8
  go_wp2_with (fail)
  go_at_call 21
  refine (eqInts H8'.out H9.out (by rw [← HMN.out]; omega)).mono ?_
  rintro e w10 ⟨rfl, b10⟩
  have B10 := Lib.hid (B9.out.trans (b10.mono B9.out.size))
  clear b10
  go_wp2_with (fail)
  first | go_ret | skip
  exact HQ.out _ B10.out
set_option maxHeartbeats 1000000 in
theorem imageStepsBig (w : World) (a ia : Option Addr) (n cap m icap : Nat) (hn2 : n ≤ 9223372036854775807) (hm2 : m ≤ 9223372036854775807) (hb : 1048576 < n ∨ (n ≤ 1048576 ∧ 1048576 < m)) : Calls Tryd.prog 9 #[.slice a n cap, .slice ia m icap] w (Yes w) := by
  rcases hb with hn | ⟨hn, hm⟩
  · have g1 : (1048576 : Int) < n := by omega
    go_enter Tryd.func9, Tryd.ntmps9
    go_wp2_with (fail)
    go_ret
    exact ⟨rfl, Below.refl _ _⟩
  · have g1 : (n : Int) ≤ 1048576 := by omega
    have g2 : (1048576 : Int) < m := by omega
    go_enter Tryd.func9, Tryd.ntmps9
    go_wp2_with (fail)
    go_ret
    exact ⟨rfl, Below.refl _ _⟩

end Go.Proofs.YtbdbmmdnidonjaaDoor
