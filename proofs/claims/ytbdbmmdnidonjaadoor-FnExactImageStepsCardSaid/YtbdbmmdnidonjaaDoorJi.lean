/- A run of a function of the machine: impl's run, the walk. A run that ends by a panic of its own is caught: impl's caught. The outcome of a run of the machine: impl's outcome and its closures. The outcome of a run of the machine: impl's outcome. -/
import Derived.Test.YtbdbmmdnidonjaaDoorJg
import Derived.Test.YtbdbmmdnidonjaaDoorJh
import Derived.Test.YtbdbmmdnidonjaaDoorJd
import Derived.Test.YtbdbmmdnidonjaaDoorJc
import Derived.Recover
set_option linter.unusedVariables false
set_option linter.unusedSimpArgs false
set_option maxRecDepth 100000
namespace Go.Proofs.YtbdbmmdnidonjaaDoor
open Go.RowKit

theorem Ni.val_mi (op a b c n : Nat) : Mi.val (Ni.mi ⟨op, a, b, c, n⟩) = .agg #[.int .i64 (op : Int), .int .i64 (a : Int), .int .i64 (b : Int), .int .i64 (c : Int), .int .i64 (n : Int)] := rfl

theorem SrcAt.below {w w' : World} {b off n cap : Nat} {inp : List Nat} (h : SrcAt w b off n cap inp) (hb : Below w.heap.size w w') : SrcAt w' b off n cap inp :=
  ⟨h.len, h.cap, h.small, fun i hi => by rw [hb.cell (p := ⟨b, off + i, none⟩) (World.block_lt_of_cell? _ _ (h.cells i hi))]; exact h.cells i hi⟩

/-- the instructions of a row, by plain cells -/
theorem MisAt.gets {w : World} {v : Value} {xs : List Mi} (h : MisAt w v xs) (hne : 0 < xs.length) :
    ∃ b off cap, v = .slice (some ⟨b, off, none⟩) xs.length cap ∧ ∀ i x, xs[i]? = some x → b < w.heap.size ∧ w.cell? ⟨b, off + i * 5, none⟩ = some (.int .i64 x.op) ∧ w.cell? ⟨b, off + i * 5 + 1, none⟩ = some (.int .i64 x.a) ∧ w.cell? ⟨b, off + i * 5 + 2, none⟩ = some (.int .i64 x.b) ∧ w.cell? ⟨b, off + i * 5 + 3, none⟩ = some (.int .i64 x.c) ∧ w.cell? ⟨b, off + i * 5 + 4, none⟩ = some (.int .i64 x.n) := by
  obtain ⟨a, cap, hv, hc⟩ := h
  obtain ⟨b, off, ha, _⟩ := hc 0 xs[0] (List.getElem?_eq_getElem hne)
  refine ⟨b, off, cap, by rw [hv, ha], fun i x hi => ?_⟩
  obtain ⟨b2, off2, ha2, h0, h1⟩ := hc i x hi
  rw [ha] at ha2
  injection ha2 with ha2
  injection ha2 with e1 e2
  subst e1 e2
  exact ⟨World.block_lt_of_cell? _ _ h0, h0, h1⟩

abbrev KT : Nat → Prop := fun _ => True
def RunRel (P : Pg) (R : Rs) (B pm : Nat) (rest : List Value) (T k pc pl par slo len : Nat) (sv0 : Value) (w2 : World) (g : Nat) (atv : Value) (wr : World) : Prop :=
  ∃ g' a l s sv, g' ≤ g ∧ atv = .int .i64 ((a : Nat) : Int) ∧ a < len ∧ loop P g' k a l s = R ∧ s.left < g' ∧ MacAt B wr pm rest T s sv ∧ CallAt KT wr pm sv pc pl par l ∧ LcOk par slo l ∧ CmOk s ∧ Fr ([pm] ++ [pc, pl]) sv0 w2 sv wr ∧ s.said.length + s.left ≤ T

/-- the steps that are left, off the machine's block -/
def leftOf (T pm : Nat) (w : World) : Nat := T - (intOf ((w.cell? ⟨pm, 1, none⟩).getD (.int .i64 0))).toNat
theorem leftOf_at {B pm : Nat} {rest : List Value} {T : Nat} {s : Cm} {sv : Value} {w : World} (h : MacAt B w pm rest T s sv) : leftOf T pm w = s.left := by
  have h1 := h.left
  unfold leftOf
  rw [h.blk.cell]
  show T - (intOf (.int .i64 ((T - s.left : Nat) : Int))).toNat = _
  simp [intOf]
  omega

theorem MacAt.drewN {B : Nat} {w : World} {pm : Nat} {rest : List Value} {T : Nat} {s : Cm} {sv : Value} (h : MacAt B w pm rest T s sv) (n : Nat) : MacAt B (w.drewN n) pm rest T s sv := h.below (belowDr (Below.refl _ _) n)
theorem CallAt.drewN {K : Nat → Prop} {w : World} {pm : Nat} {sv : Value} {pc pl par : Nat} {l : Lc} (h : CallAt K w pm sv pc pl par l) (n : Nat) : CallAt K (w.drewN n) pm sv pc pl par l := h.below (belowDr (Below.refl _ _) n)

theorem runPost_of {B pm : Nat} {rest : List Value} {T : Nat} {sv sv' : Value} {w w2 wr : World} {pc pl : Nat} {s : Cm} (hb : Below w.heap.size w w2) (hF : Fr ([pm] ++ [pc, pl]) sv w2 sv' wr) (hpc : w.heap.size ≤ pc) (hpl : w.heap.size ≤ pl) (hM : MacAt B wr pm rest T s sv') :
    (∀ v, RunPost B pm rest T sv (.ret v s) w (.returned (.int .i64 (v : Int))) wr) ∧ (∀ en, RunPost B pm rest T sv (.stop en s) w (.panicked (endChain en)) wr) := by
  have hfr : Fr [pm] sv w sv' wr := (Fr.below hb : Fr [pm] sv w sv w2).transNew hF (fun x hx => by
    rcases List.mem_cons.1 hx with h | h
    · omega
    · have := List.mem_singleton.1 h; omega)
  exact ⟨fun v => ⟨sv', rfl, hM, hfr⟩, fun en => ⟨sv', rfl, hM, hfr⟩⟩

set_option maxHeartbeats 8000000 in
theorem run_any (W0 : World) (v : Value) (fs : List Mf) (hm : MfsAt W0 v fs) (hP : PgOk (machPg fs) fs.length) (hN : MfsNat fs) (hle : MfsLe fs) :
    ∀ g (w : World) (pm : Nat) (rest : List Value) (T : Nat) (s : Cm) (sv : Value) (k b off n cap : Nat) (inp : List Nat), s.left < g → k < fs.length → Below W0.heap.size W0 w → MacAt W0.heap.size w pm rest T s sv → CmOk s →
      SrcAt w b off n cap inp → Small inp → (machPg fs).par k ≤ n → s.said.length + s.left ≤ T → T ≤ 300000 →
    Calls Tryd.prog 78 #[.pointer (some ⟨pm, 0, none⟩), .agg #[v], .int .i64 (k : Int), .slice (some ⟨b, off, none⟩) n cap] w
      (RunPost W0.heap.size pm rest T sv (loop (machPg fs) g k 0 (newLc (machPg fs) k inp) s) w) := by
  intro g
  induction g using Nat.strongRecOn with
  | _ g ih =>
  intro w pm rest T s sv k b off n cap inp hg hk hB hM hs hsrc hin hpar hsd hT
  obtain ⟨f, hf⟩ : ∃ f, fs[k]? = some f := ⟨_, List.getElem?_eq_getElem hk⟩
  have hfm : f ∈ fs := List.mem_of_getElem? hf
  obtain ⟨vb, vo, vcap, iv, hv, hvb, c0, c1, c2, hmi⟩ := hm.get hf
  have hmf : mfAt fs k = f := by unfold mfAt; rw [hf]; rfl
  obtain ⟨par, hpr⟩ : ∃ par : Nat, f.params = par := ⟨f.params.toNat, by have := (hN.1 f hfm).1; omega⟩
  obtain ⟨slo, hsl⟩ : ∃ slo : Nat, f.slots = slo := ⟨f.slots.toNat, by have := (hN.1 f hfm).2; omega⟩
  have hpar' : (machPg fs).par k = par := by show (mfAt fs k).params.toNat = par; rw [hmf, hpr]; simp
  have hslo' : (machPg fs).slo k = slo := by show (mfAt fs k).slots.toNat = slo; rw [hmf, hsl]; simp
  have hslo64 : slo ≤ 64 := by rw [← hslo']; exact hP.slo k hk
  rw [hpar'] at hpar
  have hlen0 : 0 < f.ins.length := by have := hP.start k hk; show 0 < f.ins.length; rw [← hmf]; exact this
  have hil := hle.2 f hfm
  obtain ⟨ib, io, icap, hiv, hins⟩ := hmi.gets hlen0
  subst hiv
  obtain ⟨len, hlen⟩ : ∃ len, len = f.ins.length := ⟨_, rfl⟩
  rw [← hlen] at c2 hlen0 hil
  obtain ⟨fl, hfl⟩ : ∃ fl, fl = fs.length := ⟨_, rfl⟩
  rw [← hfl] at hv hk
  have hfl4 : fl ≤ 1048576 := by rw [hfl]; exact hle.1
  obtain ⟨R, hR⟩ : ∃ R, loop (machPg fs) g k 0 (newLc (machPg fs) k inp) s = R := ⟨_, rfl⟩
  rw [hR]
  have HINS : Hid (∀ W, Below W0.heap.size W0 W → ∀ i x, f.ins[i]? = some x → W.cell? ⟨ib, io + i * 5, none⟩ = some (.int .i64 x.op) ∧ W.cell? ⟨ib, io + i * 5 + 1, none⟩ = some (.int .i64 x.a) ∧ W.cell? ⟨ib, io + i * 5 + 2, none⟩ = some (.int .i64 x.b) ∧ W.cell? ⟨ib, io + i * 5 + 3, none⟩ = some (.int .i64 x.c) ∧ W.cell? ⟨ib, io + i * 5 + 4, none⟩ = some (.int .i64 x.n)) := Lib.hid fun W hW i x hi => by
    obtain ⟨hl, d0, d1, d2, d3, d4⟩ := hins i x hi
    rw [hW.cell (p := ⟨ib, io + i * 5, none⟩) hl, hW.cell (p := ⟨ib, io + i * 5 + 1, none⟩) hl, hW.cell (p := ⟨ib, io + i * 5 + 2, none⟩) hl, hW.cell (p := ⟨ib, io + i * 5 + 3, none⟩) hl, hW.cell (p := ⟨ib, io + i * 5 + 4, none⟩) hl]
    exact ⟨d0, d1, d2, d3, d4⟩
  have HNC : Hid (∀ w', Below w.heap.size w w' → Calls Tryd.prog 105 #[.pointer (some ⟨pm, 0, none⟩), .int .i64 (par : Int), .int .i64 (slo : Int), .slice (some ⟨b, off, none⟩) n cap] w' (NewPost pm par slo inp w')) :=
    Lib.hid fun w' hb => newCall_any w' pm par slo b off n cap inp (hsrc.below hb) hpar hslo64
  unfold NewPost at HNC
  have k0 : (0 : Int) ≤ k := by omega
  have k1 : (k : Int) < fl := by omega
  have d0 : w.cell? ⟨vb, vo + k * 3, none⟩ = some (.int .i64 (par : Int)) := by rw [hB.cell (p := ⟨vb, vo + k * 3, none⟩) hvb, c0, hpr]
  have d1 : w.cell? ⟨vb, vo + k * 3 + 1, none⟩ = some (.int .i64 (slo : Int)) := by rw [hB.cell (p := ⟨vb, vo + k * 3 + 1, none⟩) hvb, c1, hsl]
  have d2 : w.cell? ⟨vb, vo + k * 3 + 2, none⟩ = some (.slice (some ⟨ib, io, none⟩) len icap) := by rw [hB.cell (p := ⟨vb, vo + k * 3 + 2, none⟩) hvb]; exact c2
  have hvbw : vb < w.heap.size := Nat.lt_of_lt_of_le hvb hB.size
  obtain ⟨e0, e1, e2⟩ : (w.alloc (.cells #[.slice (some ⟨vb, vo, none⟩) fl vcap] 25)).cell? ⟨vb, vo + k * 3, none⟩ = some (.int .i64 (par : Int)) ∧ (w.alloc (.cells #[.slice (some ⟨vb, vo, none⟩) fl vcap] 25)).cell? ⟨vb, vo + k * 3 + 1, none⟩ = some (.int .i64 (slo : Int)) ∧ (w.alloc (.cells #[.slice (some ⟨vb, vo, none⟩) fl vcap] 25)).cell? ⟨vb, vo + k * 3 + 2, none⟩ = some (.slice (some ⟨ib, io, none⟩) len icap) := by
    rw [World.cell?_alloc_past _ _ _ hvbw, World.cell?_alloc_past _ _ _ hvbw, World.cell?_alloc_past _ _ _ hvbw]
    exact ⟨d0, d1, d2⟩
  have HFL := Lib.hid hfl; have HLEN := Lib.hid hlen; have HR := Lib.hid hR; have HM := Lib.hid hM; have HS := Lib.hid hs; have HP := Lib.hid hP; have HN := Lib.hid hN; have HMF := Lib.hid hmf; have HIH := Lib.hid ih; have HB := Lib.hid hB; have HSRC := Lib.hid hsrc; have HIN := Lib.hid hin; have HSD := Lib.hid hsd; have HMM := Lib.hid hm; have HFM := Lib.hid hfm; have HLEFT := Lib.hid hg
  have HSM := Lib.hid hM.said
  have HPAR := Lib.hid hpar'; have HSLO := Lib.hid hslo'
  subst hv
  clear hfl hlen hR hM hs hP hN hmf ih hB hsrc hin hsd hm hfm hg hle hpar' hslo' c0 c1 c2 d0 d1 d2 hins hmi hf hpr hsl
  go_enter Tryd.func78, Tryd.ntmps78
  go_wp2_with (fail)
  go_at_call 105
  refine (HNC.out _ (by (repeat' (first | exact Below.refl _ _ | assumption | (refine Below.setCell ?_ ?_ _) | (refine Below.alloc ?_ ?_ _) | (refine belowDrewN ?_ _) | omega | (simp; done) | (simp; omega))))).mono ?_
  rintro e w2 ⟨pc, pl, rfl, hpc, hpl, hb2, hcall⟩
  obtain ⟨hc, _⟩ := bcell hb2
  have p0 : w2.cell? ⟨w.heap.size, 0, none⟩ = some (.slice (some ⟨vb, vo, none⟩) fl vcap) := by rw [hc _ _ (by simp; omega)]; simp [go_sem]
  have p2 : w2.cell? ⟨w.heap.size + 1, 2, none⟩ = some (.slice (some ⟨ib, io, none⟩) len icap) := by rw [hc _ _ (by simp)]; simp [go_sem]
  simp at hpc hpl
  have hw2 : Below w.heap.size w w2 := Below.trans (by (repeat' (first | exact Below.refl _ _ | assumption | (refine Below.setCell ?_ ?_ _) | (refine Below.alloc ?_ ?_ _) | (refine belowDrewN ?_ _) | omega | (simp; done) | (simp; omega)))) (hb2.mono (by simp; omega))
  have hpm := HM.out.blk.lt
  have hsv : ∀ k, sv.ownBlock = some k → k < w.heap.size := fun k hk => (HSM.out.lt hk).2
  have hcall2 := hcall KT sv (by simp; omega) (fun k hk => by have := hsv k hk; simp; omega) (fun _ _ => trivial)
  have hsz2 : w.heap.size + 2 ≤ w2.heap.size := by have := hb2.size; simp at this; omega
  have HW2 := Lib.hid hw2
  have HM2 := Lib.hid (HM.out.below hw2)
  have HC2 := Lib.hid hcall2
  have HSV := Lib.hid hsv
  have HREL0 : Hid (RunRel (machPg fs) R W0.heap.size pm rest T k pc pl par slo len sv w2 g (.int .i64 0) w2) := by
    apply Lib.hid
    refine ⟨g, 0, _, s, sv, Nat.le_refl _, rfl, hlen0, HR.out, HLEFT.out, HM2.out, ?_, ?_, HS.out, Fr.refl _ _ _, HSD.out⟩
    · unfold newLc; rw [HSLO.out]; exact hcall2
    · rw [← HPAR.out, ← HSLO.out]; exact newLc_ok _ _ _ (by rw [HPAR.out, HSRC.out.len]; exact hpar) HIN.out
  have HFR : Hid (∀ sv' W, Fr ([pm] ++ [pc, pl]) sv w2 sv' W → W.cell? ⟨w.heap.size, 0, none⟩ = some (.slice (some ⟨vb, vo, none⟩) fl vcap) ∧ W.cell? ⟨w.heap.size + 1, 2, none⟩ = some (.slice (some ⟨ib, io, none⟩) len icap) ∧ Below W0.heap.size W0 W ∧ w2.heap.size ≤ W.heap.size) := by
    apply Lib.hid
    intro sv' W hF
    have q : ∀ b, w.heap.size ≤ b → b < w.heap.size + 2 → W.heap[b]? = w2.heap[b]? := fun b h1 h2 => hF.block (by omega) (by simp; omega) (fun e => by have := hsv b e; omega)
    refine ⟨?_, ?_, ?_, hF.size⟩
    · rw [World.cell?_of_block (w := w2) (a := ⟨w.heap.size, 0, none⟩) (q w.heap.size (Nat.le_refl _) (by omega))]; exact p0
    · rw [World.cell?_of_block (w := w2) (a := ⟨w.heap.size + 1, 2, none⟩) (q (w.heap.size + 1) (by omega) (by omega))]; exact p2
    · have hBw := HB.out.trans (hw2.mono HB.out.size)
      refine hBw.trans (hF.below_of hBw.size ?_ (fun k hk => (HSM.out.lt hk).1))
      intro x hx
      have h0 := HB.out.size
      have h1 := HM.out.ge
      simp at hx
      rcases hx with h | h | h <;> omega
  clear hb2 hc p0 p2 hw2 hcall hcall2 hsv HM2 HC2 e0 e1 e2 HNC HS HR HLEFT HSM
  go_wp2_with (fail)
  go_loopw [11] (fun at_ wr => RunRel (machPg fs) R W0.heap.size pm rest T k pc pl par slo len sv w2 g at_ wr) (fun _ wr => leftOf T pm wr)
  case atStart => exact HREL0.out
  case round =>
    obtain ⟨g1, a, l, s1, sv1, hg1, rfl, ha, hR1, hlt, hM1, hC1, hl1, hs1, hF1, hsd1⟩ := hrel
    obtain ⟨wo, rfl⟩ : ∃ wo : World, wo = wr := ⟨_, rfl⟩
    cases g1 with
    | zero => omega
    | succ g1 =>
    obtain ⟨hcl, t0, t1, t2, tf⟩ := macCells hM1 hs1.cells
    by_cases h0 : s1.left = 0
    · have hR0 : R = .stop 3 s1 := by rw [← hR1]; unfold loop; rw [if_pos h0]
      rw [h0] at t1
      have HT := Lib.hid (tick_no wo pm T t0 (by simpa using t1))
      have HE := Lib.hid (fun n => (runPost_of (s := s1) HW2.out (hF1.drewN n) (by omega) (by omega) (hM1.drewN n)).2 3)
      clear hcl t0 t1 t2 tf hR1 hM1 hC1 hl1 hs1 hF1
      go_wp2_with (fail)
      go_at_call 106
      refine HT.out.mono ?_
      rintro e _ ⟨rfl, n', rfl⟩
      go_wp2_with (fail)
      rw [hR0]
      exact ⟨rfl, HE.out n'⟩
    have hleft := hM1.left
    have HT := Lib.hid (tick_yes wo pm T (T - s1.left) (by omega) (by omega) t0 t1 (tf 1))
    have HM1 := Lib.hid hM1; have HC1 := Lib.hid hC1; have HL1 := Lib.hid hl1; have HS1 := Lib.hid hs1; have HF1 := Lib.hid hF1; have HR1 := Lib.hid hR1; have HSD1 := Lib.hid hsd1; have HLT := Lib.hid hlt
    clear hcl t0 t1 t2 tf hM1 hC1 hl1 hs1 hF1 hR1 hsd1 hlt
    obtain ⟨x, hxa⟩ : ∃ x, f.ins[a]? = some x := ⟨_, List.getElem?_eq_getElem (by rw [← HLEN.out]; exact ha)⟩
    obtain ⟨X, hX⟩ : ∃ X, x.ni = X := ⟨_, rfl⟩
    have hxX : x = X.mi := by rw [← hX]; exact (HN.out.2 f HFM.out x (List.mem_of_getElem? hxa)).symm
    have hgood : (machPg fs).good k a := by show a < (mfAt fs k).ins.length; rw [HMF.out, ← HLEN.out]; exact ha
    have hfet : (machPg fs).fet k a = X := by show (miAt fs k a).ni = X; unfold miAt; rw [HMF.out, hxa]; exact hX
    have hkf : k < fs.length := by rw [← HFL.out]; exact hk
    have hok := HP.out.ins k a hkf hgood
    have hjmp := HP.out.jump k a hkf hgood
    have hnxt := HP.out.next k a hkf hgood
    rw [HPAR.out, HSLO.out, hfet] at hok
    rw [hfet] at hjmp hnxt
    have hgd : ∀ j, (machPg fs).good k j ↔ j < len := fun j => by show j < (mfAt fs k).ins.length ↔ _; rw [HMF.out, ← HLEN.out]
    have hnx : (machPg fs).nxt k a = a + 1 := rfl
    rw [hnx] at hnxt
    simp only [hgd] at hjmp hnxt
    have hR2 := HR1.out
    unfold loop at hR2
    rw [if_neg h0, hfet] at hR2
    have ha0 : (0 : Int) ≤ a := by omega
    have ha1 : (a : Int) < len := by omega
    obtain ⟨op, xa, xb, xc, xn⟩ := X
    have HR2 := Lib.hid hR2; have HOK := Lib.hid hok; have HJ := Lib.hid hjmp; have HNX := Lib.hid hnxt; have HXX := Lib.hid hxX; have HXA := Lib.hid hxa
    have ho1 := hok.op; have hxa8 := hok.a
    simp only [] at ho1 hxa8
    clear hX hR2 hok hjmp hnxt hxX hxa hfet hgood hgd hnx HR1
    go_wp2_with (fail)
    go_at_call 106
    refine HT.out.mono ?_
    rintro e w3 ⟨rfl, n', hw3⟩
    have hM3 : MacAt W0.heap.size w3 pm rest T (s1.step ((machPg fs).base k + a)) sv1 := by rw [hw3]; exact (HM1.out.drewN n').tick h0 _
    have hC3 : CallAt KT w3 pm sv1 pc pl par l := by rw [hw3]; exact (HC1.out.drewN n').other _ _
    have hF3 : Fr ([pm] ++ [pc, pl]) sv w2 sv1 w3 := by rw [hw3]; exact (HF1.out.drewN n').setIn (by simp) _
    obtain ⟨p0, p2, hBW3, hsz3⟩ := HFR.out _ _ hF3
    obtain ⟨i0, i1, i2, i3, i4⟩ := HINS.out w3 hBW3 a x HXA.out
    rw [HXX.out] at i0 i1 i2 i3 i4
    simp only [Ni.mi] at i0 i1 i2 i3 i4
    have hs3 := HS1.out.step ((machPg fs).base k + a)
    have hl3 : (s1.step ((machPg fs).base k + a)).left + 1 = s1.left := by show s1.left - 1 + 1 = _; omega
    have hsd3 : (s1.step ((machPg fs).base k + a)).said.length + (s1.step ((machPg fs).base k + a)).left + 1 ≤ T := by
      have := HSD1.out
      rw [show (s1.step ((machPg fs).base k + a)).said = s1.said from rfl]; omega
    have HR3 := HR2.out
    generalize s1.step ((machPg fs).base k + a) = s2 at *
    have HM3 := Lib.hid hM3; have HC3 := Lib.hid hC3; have HF3 := Lib.hid hF3; have HBW3 := Lib.hid hBW3; have HS3 := Lib.hid hs3; have HL3 := Lib.hid hl3; have HSD3 := Lib.hid hsd3; have HR4 := Lib.hid HR3
    clear hw3 hM3 hC3 hF3 hBW3 hs3 hl3 hsd3 HR3 HR2
    have HL := Lib.hid (leftOf_at HM1.out)
    by_cases h22 : op = 22
    · subst h22
      have hR := HR4.out
      rw [if_pos rfl] at hR
      have HE := Lib.hid (fun w4 (hb : Below w3.heap.size w3 w4) => (runPost_of (s := s2) HW2.out (HF3.out.trans (Fr.below hb)) (by omega) (by omega) (HM3.out.below hb)).1 (l.reg xa))
      have HRR := Lib.hid hR
      clear hR HR4
      go_wp2_with (fail)
      generalize hw4 : w3.alloc _ = w4
      have x0 := boxed0 hw4
      obtain ⟨hb4, x1, x2, x3, x4⟩ := boxed hw4
      obtain ⟨hreg, _, _, _⟩ := callCells (HC3.out.below hb4) HL1.out.regs
      have y1 : ∀ m, (w4.drewN m).cell? ⟨w3.heap.size, 1, none⟩ = some (.int .i64 (xa : Int)) := fun _ => x1
      have ra : ∀ m, (w4.drewN m).cell? ⟨pc, 1 + xa, none⟩ = some (.int .i64 (l.reg xa : Int)) := fun _ => hreg xa hxa8
      have a0 : (0 : Int) ≤ xa := by omega
      have a1 : (xa : Int) < 8 := by omega
      have HB4 := Lib.hid hb4
      clear hw4 x0 x1 x2 x3 x4 hreg hb4
      go_wp2_with (fail)
      go_quiet (fail)
      go_wp2_with (fail)
      go_ret
      rw [← HRR.out]
      exact HE.out _ (belowDr HB4.out _)
    by_cases h20 : op = 20
    · subst h20
      have hR := HR4.out
      rw [if_neg (by decide), if_pos rfl] at hR
      have HRR := Lib.hid hR
      clear hR HR4
      have hxn := HJ.out (.inl rfl)
      go_wp2_with (fail)
      generalize hw4 : w3.alloc _ = w4
      have x0 := boxed0 hw4
      obtain ⟨hb4, x1, x2, x3, x4⟩ := boxed hw4
      have HB4 := Lib.hid hb4
      clear hw4 x0 x1 x2 x3 x4 hb4
      go_roundw
      case rel => exact ⟨g1, xn, l, s2, sv1, by omega, rfl, hxn, HRR.out, by have := HL3.out; have := HLT.out; omega, HM3.out.below HB4.out, HC3.out.below HB4.out, HL1.out, HS3.out, HF3.out.trans (Fr.below HB4.out), by have := HSD3.out; omega⟩
      case measure => rw [leftOf_at (HM3.out.below HB4.out), HL.out]; have := HL3.out; omega
    by_cases h21 : op = 21
    · subst h21
      have hR := HR4.out
      rw [if_neg (by decide), if_neg (by decide), if_pos rfl] at hR
      have HRR := Lib.hid hR
      clear hR HR4
      have hxn := HJ.out (.inr rfl)
      have hnx := HNX.out (by simp) (by simp)
      go_wp2_with (fail)
      generalize hw4 : w3.alloc _ = w4
      have x0 := boxed0 hw4
      obtain ⟨hb4, x1, x2, x3, x4⟩ := boxed hw4
      obtain ⟨hreg, _, _, _⟩ := callCells (HC3.out.below hb4) HL1.out.regs
      have y1 : ∀ m, (w4.drewN m).cell? ⟨w3.heap.size, 1, none⟩ = some (.int .i64 (xa : Int)) := fun _ => x1
      have y4 : ∀ m, (w4.drewN m).cell? ⟨w3.heap.size, 4, none⟩ = some (.int .i64 (xn : Int)) := fun _ => x4
      have ra : ∀ m, (w4.drewN m).cell? ⟨pc, 1 + xa, none⟩ = some (.int .i64 (l.reg xa : Int)) := fun _ => hreg xa hxa8
      have a0 : (0 : Int) ≤ xa := by omega
      have a1 : (xa : Int) < 8 := by omega
      have HB4 := Lib.hid hb4
      clear hw4 x0 x1 x2 x3 x4 hreg hb4
      go_quiet (fail)
      have HB5 := Lib.hid (belowDr HB4.out nq)
      by_cases hz : l.reg xa = 0
      · have z1 : (((l.reg xa : Nat) : Int) != 0) = false := by rw [hz]; rfl
        have HRZ := HRR.out
        rw [if_pos hz] at HRZ
        have HRZ := Lib.hid HRZ
        clear hz HRR
        go_wp2_with (fail)
        generalize w4.drewN nq = w5 at *
        go_roundw
        case rel => exact ⟨g1, a + 1, l, s2, sv1, by omega, by go_num, hnx, HRZ.out, by have := HL3.out; have := HLT.out; omega, HM3.out.below HB5.out, HC3.out.below HB5.out, HL1.out, HS3.out, HF3.out.trans (Fr.below HB5.out), by have := HSD3.out; omega⟩
        case measure => rw [leftOf_at (HM3.out.below HB5.out), HL.out]; have := HL3.out; omega
      · have z1 : (((l.reg xa : Nat) : Int) != 0) = true := by simp; omega
        have HRZ := HRR.out
        rw [if_neg hz] at HRZ
        have HRZ := Lib.hid HRZ
        clear hz HRR
        go_wp2_with (fail)
        generalize w4.drewN nq = w5 at *
        go_roundw
        case rel => exact ⟨g1, xn, l, s2, sv1, by omega, rfl, hxn, HRZ.out, by have := HL3.out; have := HLT.out; omega, HM3.out.below HB5.out, HC3.out.below HB5.out, HL1.out, HS3.out, HF3.out.trans (Fr.below HB5.out), by have := HSD3.out; omega⟩
        case measure => rw [leftOf_at (HM3.out.below HB5.out), HL.out]; have := HL3.out; omega
    by_cases h14 : op = 14
    · subst h14
      have hR := HR4.out
      rw [if_neg (by decide), if_neg (by decide), if_neg (by decide), if_pos rfl] at hR
      have hnx := HNX.out (by simp) (by simp)
      have hxk : xn < k := HOK.out.call rfl
      have hxf : xn < fs.length := by rw [← HFL.out]; omega
      have hp3 : (machPg fs).par xn ≤ 3 := HP.out.par xn hxf
      have hlok := loop_ok HP.out g1 xn 0 (newLc (machPg fs) xn l.gives) s2 hxf (HP.out.start _ hxf) (newLc_ok _ _ _ (by rw [HL1.out.gives]; exact hp3) HL1.out.givesS) HS3.out
      have hlsd := loop_said (P := machPg fs) g1 xn 0 (newLc (machPg fs) xn l.gives) s2
      have hcall : ∀ w5, Below w3.heap.size w3 w5 → Calls Tryd.prog 78 #[.pointer (some ⟨pm, 0, none⟩), .agg #[.slice (some ⟨vb, vo, none⟩) fl vcap], .int .i64 (xn : Int), .slice (some ⟨pc, 11, none⟩) 3 3] w5 (RunPost W0.heap.size pm rest T sv1 (loop (machPg fs) g1 xn 0 (newLc (machPg fs) xn l.gives) s2) w5) := fun w5 hb =>
        HIH.out g1 (by omega) w5 pm rest T s2 sv1 xn pc 11 3 3 l.gives (by have := HL3.out; have := HLT.out; omega) hxf (HBW3.out.trans (hb.mono HBW3.out.size)) (HM3.out.below hb) HS3.out
          ⟨HL1.out.gives, Nat.le_refl _, by omega, fun i hi => callGive (HC3.out.below hb) HL1.out.regs (by rw [HL1.out.gives]; exact hi)⟩ HL1.out.givesS hp3 (by have := HSD3.out; omega) hT
      obtain ⟨r, hr⟩ : ∃ r, loop (machPg fs) g1 xn 0 (newLc (machPg fs) xn l.gives) s2 = r := ⟨_, rfl⟩
      rw [hr] at hR hlok hlsd
      simp only [hr] at hcall
      have HCALL := Lib.hid hcall; have HRR := Lib.hid hR; have HLOK := Lib.hid hlok; have HLSD := Lib.hid hlsd
      clear hr hR HR4 hcall hlok hlsd HIH HMM hxk hp3
      go_wp2_with (fail)
      generalize hw4 : w3.alloc _ = w4
      obtain ⟨hb4, x1, x2, x3, x4⟩ := boxed hw4
      obtain ⟨q0, _, _, _⟩ := HFR.out sv1 w4 (HF3.out.trans (Fr.below hb4))
      have HB4 := Lib.hid hb4
      clear hw4 hb4 x1 x2 x3 i0 i1 i2 i3 i4 p0 p2
      refine wp_region_held (fun W => W.cell? ⟨w.heap.size, 0, none⟩ = some (.slice (some ⟨vb, vo, none⟩) fl vcap) ∧ W.cell? ⟨w3.heap.size, 4, none⟩ = some (.int .i64 (xn : Int))) [(0, false), (1, false), (2, true), (3, false), (4, true), (5, false), (6, false), (7, false), (8, false)] [9, 10, 11, 12] 12 (by kernel_rfl) (by kernel_rfl) (fun d v c a w h => by cases d <;> exact h) ⟨q0, x4⟩ ?_
      simp only [pickO, List.map_cons, List.map_nil, List.getD_cons_zero, List.getD_cons_succ]
      refine heldO_stepY (v := ?_) rfl ?_ ?_
      rotate_left
      · intro W
        go_simp
        try rfl
      simp only [Act.put, List.setIfInBounds_toArray, List.set_cons_zero, List.set_cons_succ]
      refine heldO_stepY (v := ?_) rfl ?_ ?_
      rotate_left
      · intro W
        go_simp
        try rfl
      simp only [Act.put, List.setIfInBounds_toArray, List.set_cons_zero, List.set_cons_succ]
      refine heldO_step (v := ?_) rfl ?_ ?_
      rotate_left
      · intro W hS
        obtain ⟨k1, k2⟩ := hS
        go_simp
        try rfl
      simp only [Act.put, List.setIfInBounds_toArray, List.set_cons_zero, List.set_cons_succ]
      refine heldO_stepY (v := ?_) rfl ?_ ?_
      rotate_left
      · intro W
        go_simp
        try rfl
      simp only [Act.put, List.setIfInBounds_toArray, List.set_cons_zero, List.set_cons_succ]
      refine heldO_step (v := ?_) rfl ?_ ?_
      rotate_left
      · intro W hS
        obtain ⟨k1, k2⟩ := hS
        go_simp
        try rfl
      simp only [Act.put, List.setIfInBounds_toArray, List.set_cons_zero, List.set_cons_succ]
      refine heldO_stepY (v := ?_) rfl ?_ ?_
      rotate_left
      · intro W
        go_simp
        try rfl
      simp only [Act.put, List.setIfInBounds_toArray, List.set_cons_zero, List.set_cons_succ]
      refine heldO_stepY (v := ?_) rfl ?_ ?_
      rotate_left
      · intro W
        go_simp
        try rfl
      simp only [Act.put, List.setIfInBounds_toArray, List.set_cons_zero, List.set_cons_succ]
      refine heldO_stepY (v := ?_) rfl ?_ ?_
      rotate_left
      · intro W
        go_simp
        try rfl
      simp only [Act.put, List.setIfInBounds_toArray, List.set_cons_zero, List.set_cons_succ]
      refine heldO_stepY (v := ?_) rfl ?_ ?_
      rotate_left
      · intro W
        go_simp
        try rfl
      simp only [Act.put, List.setIfInBounds_toArray, List.set_cons_zero, List.set_cons_succ]
      refine heldO_nil ?_
      refine tailO_step rfl (fun K hK => ?_)
      go_simp
      refine (HCALL.out _ HB4.out.drew).mono ?_
      rintro e w6 hpost
      unfold RunPost at hpost
      have hRR := HRR.out
      cases r with
      | ret v6 s6 =>
        obtain ⟨sv6, rfl, hM6, hF6⟩ := hpost
        have hlt3 : w3.heap.size < w4.drew.heap.size := World.block_lt_of_cell? _ _ x4
        have hne3 : w3.heap.size ≠ pm := by have := HM3.out.blk.lt; omega
        have hns3 : sv1.ownBlock ≠ some w3.heap.size := fun e => by have := (HM3.out.said.lt e).2; omega
        have hF7 : Fr ([pm] ++ [pc, pl]) sv w2 sv6 w6 := HF3.out.trans ((Fr.below HB4.out.drew).trans (hF6.mono (fun x hx => List.mem_append_left _ hx)))
        obtain ⟨r0, _, _, _⟩ := HFR.out sv6 w6 hF7
        have r4 : w6.cell? ⟨w3.heap.size, 4, none⟩ = some (.int .i64 (xn : Int)) := by
          rw [World.cell?_of_block (w := w4.drew) (a := ⟨w3.heap.size, 4, none⟩) (hF6.block hlt3 (by simpa using hne3) hns3)]; exact x4
        have hC6 := (HC3.out.below HB4.out.drew).keep hF6
        have u1 := callRes hC6 HL1.out.regs HL1.out.gives
        have u2 := (callCells hC6 HL1.out.regs).2.2.2 14
        have HM6 := Lib.hid hM6; have HC6 := Lib.hid hC6; have HF7 := Lib.hid hF7; have HRR2 := Lib.hid hRR
        refine hK _ _ (.inr ⟨r0, r4⟩) ?_
        clear hK K hM6 hF6 hF7 hC6 hRR HRR HCALL q0 x4 hlt3 hne3 hns3
        refine tailO_step rfl (fun K hK => ?_)
        go_simp
        refine hK _ _ (.inr ⟨r0, r4⟩) ?_
        clear hK K
        refine tailO_step rfl (fun K hK => ?_)
        go_simp
        refine hK _ _ (.inr ⟨r0, r4⟩) ?_
        clear hK K r0 r4
        refine tailO_step rfl (fun K hK => ?_)
        go_simp
        refine hK _ _ (.inl rfl) (tailO_nil ?_)
        clear hK K u1 u2
        obtain ⟨ho6, hv6, hle6⟩ := HLOK.out
        have hv6' : v6 < 256 := hv6
        have hle6' : s6.left ≤ s2.left := hle6
        have hsd6 : s6.said.length + s6.left ≤ s2.said.length + s2.left := HLSD.out
        have ho6' : CmOk s6 := ho6
        have HM7 := Lib.hid (HM6.out.other (a := ⟨pc, 14, none⟩) HC6.out.cm HC6.out.sc (.int .i64 (v6 : Int)))
        have HC7 := Lib.hid (HC6.out.setRes HL1.out.regs HL1.out.gives v6)
        have HF8 := Lib.hid (HF7.out.setIn (a := ⟨pc, 14, none⟩) (by simp) (.int .i64 (v6 : Int)))
        have HLC : Hid (LcOk par slo { l with res := v6 }) := Lib.hid ⟨HL1.out.regs, HL1.out.regsS, HL1.out.slots, HL1.out.slotsS, HL1.out.gives, HL1.out.givesS, HL1.out.args, HL1.out.argsS, hv6'⟩
        clear HM6 HC6 HF7 HLOK HLSD ho6 hv6 hle6 hv6'
        go_wp2_with (fail)
        go_roundw
        case rel => exact ⟨g1, a + 1, { l with res := v6 }, s6, sv6, by omega, by go_num, hnx, HRR2.out, by have := HL3.out; have := HLT.out; omega, HM7.out, HC7.out, HLC.out, ho6', HF8.out, by have := HSD3.out; omega⟩
        case measure => rw [leftOf_at HM7.out, HL.out]; have := HL3.out; omega
      | stop en s6 =>
        obtain ⟨sv6, rfl, hM6, hF6⟩ := hpost
        have hE := (runPost_of (s := s6) HW2.out (HF3.out.trans ((Fr.below HB4.out.drew).trans (hF6.mono (fun x hx => List.mem_append_left _ hx)))) (by omega) (by omega) hM6).2 en
        have hRR2 : Rs.stop en s6 = R := hRR
        rw [hRR2] at hE
        exact ⟨rfl, hE⟩
    have hR := HR4.out
    rw [if_neg h22, if_neg h20, if_neg h21, if_neg h14] at hR
    have HRR := Lib.hid hR
    have hnx := HNX.out h20 h22
    have e22 : ((op : Int) == 22) = false := by simp; omega
    have e20 : ((op : Int) == 20) = false := by simp; omega
    have e21 : ((op : Int) == 21) = false := by simp; omega
    have e14 : ((op : Int) == 14) = false := by simp; omega
    have HDO := Lib.hid (fun w4 (hb : Below w3.heap.size w3 w4) => do_any (slo := slo) w4 W0.heap.size pm rest T pc pl par k ⟨op, xa, xb, xc, xn⟩ l s2 sv1 (HM3.out.below hb) (HC3.out.below hb) HL1.out HS3.out HOK.out h14 (by simp only []; omega) (by have := HSD3.out; omega) (by have := HBW3.out.size; have := hb.size; omega))
    simp only [Ni.val_mi] at HDO
    clear hR HR4
    go_wp2_with (fail)
    generalize hw4 : w3.alloc _ = w4
    have x0 := boxed0 hw4
    obtain ⟨hb4, x1, x2, x3, x4⟩ := boxed hw4
    have HB4 := Lib.hid hb4
    clear hw4 hb4
    go_wp2_with (fail)
    go_at_call 107
    refine (HDO.out w4 HB4.out).mono ?_
    rintro e w5 hpost
    unfold DoPost at hpost
    have hRR := HRR.out
    cases hp : plainOp ⟨op, xa, xb, xc, xn⟩ l s2 with
    | inl ls =>
      obtain ⟨l5, s5⟩ := ls
      obtain ⟨hl5, hs5, hle5⟩ := plainOp_ok HL1.out HS3.out HOK.out hp
      have hsd5 := plainOp_said hp
      rw [hp] at hpost hRR
      obtain ⟨rfl, sv5, hM5, hC5, hF5⟩ := hpost
      have HRR2 := Lib.hid hRR
      have HM5 := Lib.hid hM5; have HC5 := Lib.hid hC5; have HF5 := Lib.hid (HF3.out.trans ((Fr.below HB4.out).trans hF5)); have HL5 := Lib.hid hl5; have HS5 := Lib.hid hs5; have HSD5 := Lib.hid hsd5
      clear hRR hM5 hC5 hF5 hl5 hs5 hle5 hsd5 hp HRR HDO
      go_wp2_with (fail)
      go_roundw
      case rel => exact ⟨g1, a + 1, l5, s5, sv5, by omega, by go_num, hnx, HRR2.out, by have := HL3.out; have := HLT.out; have := HSD5.out.2; omega, HM5.out, HC5.out, HL5.out, HS5.out, HF5.out, by have := HSD3.out; have := HSD5.out; omega⟩
      case measure => rw [leftOf_at HM5.out, HL.out]; have := HL3.out; have := HSD5.out.2; omega
    | inr en =>
      rw [hp] at hpost hRR
      obtain ⟨rfl, hM5, hF5⟩ := hpost
      have HE := Lib.hid ((runPost_of (s := s2) HW2.out (HF3.out.trans ((Fr.below HB4.out).trans (hF5.mono (fun x hx => List.mem_append_left _ hx)))) (by omega) (by omega) hM5).2 en)
      have HRR2 := Lib.hid hRR
      clear hRR hM5 hF5 hp HRR HDO
      go_wp2_with (fail)
      rw [← HRR2.out]
      exact ⟨rfl, HE.out⟩

end Go.Proofs.YtbdbmmdnidonjaaDoor

set_option maxRecDepth 100000
namespace Go.Proofs.YtbdbmmdnidonjaaDoor
open Go.RowKit

set_option maxHeartbeats 1000000 in
theorem catch_panicking (p : Addr) (x : Value) (n : Nat) (w : World) (hc : w.cell? p = some x) (hz : w.frozen? p = false) :
    CallsD Tryd.prog 126 #[.pointer (some p)] (.panicking (endChain n)) w fun e u' w' =>
      e = .returned (.tuple #[]) ∧ u' = .panicking [{ v := .iface 165 (.int .i64 (n : Int)), recovered := true }] ∧ w' = w.setCell p (.int .i64 (n : Int)) := by
  have hta : ∀ (v : Value) (w : World), (Instr.typeAssert (.iface 165 v) 20 165 true).run Tryd.prog w = .ok (.tuple #[v, .bool true]) w := fun v w => by kernel_rfl
  unfold endChain
  refine callsD_of_wpS Tryd.func126 rfl fun c₀ cs hu => ?_
  apply wpS_seq
  apply wpS_region
  simp [wpOpsS, go_sem, recoverD, hu, Tryd.ntmps126, Exit.thenS]
  refine wpS_of_wp ?_
  have ht : (#[Value.pointer (some p)] ++ ((Array.replicate 15 undef).setIfInBounds 3 (Value.iface 165 (.int .i64 (n : Int)))).setIfInBounds 0 (Value.iface 165 (.int .i64 (n : Int)))) = #[.pointer (some p), Value.iface 165 (.int .i64 (n : Int)), undef, undef, Value.iface 165 (.int .i64 (n : Int)), undef, undef, undef, undef, undef, undef, undef, undef, undef, undef, undef] := by simp [Array.replicate]
  rw [ht]
  go_wp2_with (fail)
  simp_all [bodyPostS, results, Tryd.results126]

set_option maxHeartbeats 1000000 in
theorem catch_idle (p : Addr) (w : World) :
    CallsD Tryd.prog 126 #[.pointer (some p)] .returning w fun e u' w' => e = .returned (.tuple #[]) ∧ u' = .returning ∧ w' = w := by
  refine callsD_of_wpS Tryd.func126 rfl fun c₀ cs hu => ?_
  apply wpS_seq
  apply wpS_region
  simp [wpOpsS, go_sem, recoverD, hu, Tryd.ntmps126, Exit.thenS]
  refine wpS_of_wp ?_
  have ht : (#[Value.pointer (some p)] ++ ((Array.replicate 15 undef).setIfInBounds 3 Value.nilIface).setIfInBounds 0 Value.nilIface) = #[.pointer (some p), Value.nilIface, undef, undef, Value.nilIface, undef, undef, undef, undef, undef, undef, undef, undef, undef, undef, undef] := by simp [Array.replicate]
  rw [ht]
  go_wp2_with (fail)
  cases c₀
  simp_all [bodyPostS, results, Tryd.results126]

set_option maxHeartbeats 1000000 in
theorem caught_ret (w : World) (cap : Array Value) (Q : World → Prop) (h : Calls Tryd.prog 103 cap (w.alloc (.cells #[.int .i64 0] 3)) (fun e w2 => e = .returned (.tuple #[]) ∧ Q w2))
    (hq : ∀ w2, Q w2 → w2.cell? ⟨w.heap.size, 0, none⟩ = some (.int .i64 0) ∧ w2.frozen? ⟨w.heap.size, 0, none⟩ = false) :
    Calls Tryd.prog 102 #[.func (.func 103) #[] cap] w fun e w' => e = .returned (.int .i64 0) ∧ ∃ w2, Q w2 ∧ w' = w2.setCell ⟨w.heap.size, 0, none⟩ (.int .i64 0) := by
  have hmf : ∀ (fn : Fn) (first cap : Array Value) (w : World), (Instr.makeFunc fn first cap).run Tryd.prog w = .ok (.func fn first cap) w := fun _ _ _ _ => rfl
  have HC := Lib.hid h
  have HQ := Lib.hid hq
  clear h hq
  go_enter_defers Tryd.func102, Tryd.ntmps102
  go_wp2_with (fail)
  refine HC.out.mono ?_
  rintro e w2 ⟨rfl, hq⟩
  obtain ⟨q1, q2⟩ := HQ.out w2 hq
  have HQ2 := Lib.hid hq
  clear HQ HC hq
  go_wp2_with (fail)
  refine leaves_cons (f := 126) (args := #[.pointer (some ⟨w.heap.size, 0, none⟩)]) (by simp) (by simp [go_sem]) ?_
  refine (catch_idle ⟨w.heap.size, 0, none⟩ _).mono ?_
  rintro e u' w'' ⟨rfl, rfl, rfl⟩
  simp [Leaves, settle, results, Tryd.results102, go_sem, q1]
  exact ⟨w2, HQ2.out, rfl⟩

set_option maxHeartbeats 1000000 in
theorem caught_stop (w : World) (n : Nat) (cap : Array Value) (Q : World → Prop) (h : Calls Tryd.prog 103 cap (w.alloc (.cells #[.int .i64 0] 3)) (fun e w2 => e = .panicked (endChain n) ∧ Q w2))
    (hq : ∀ w2, Q w2 → w2.cell? ⟨w.heap.size, 0, none⟩ = some (.int .i64 0) ∧ w2.frozen? ⟨w.heap.size, 0, none⟩ = false) :
    Calls Tryd.prog 102 #[.func (.func 103) #[] cap] w fun e w' => e = .returned (.int .i64 (n : Int)) ∧ ∃ w2, Q w2 ∧ w' = w2.setCell ⟨w.heap.size, 0, none⟩ (.int .i64 (n : Int)) := by
  have hmf : ∀ (fn : Fn) (first cap : Array Value) (w : World), (Instr.makeFunc fn first cap).run Tryd.prog w = .ok (.func fn first cap) w := fun _ _ _ _ => rfl
  have HC := Lib.hid h
  have HQ := Lib.hid hq
  clear h hq
  go_enter_defers Tryd.func102, Tryd.ntmps102
  go_wp2_with (fail)
  refine HC.out.mono ?_
  rintro e w2 ⟨rfl, hq⟩
  obtain ⟨q1, q2⟩ := HQ.out w2 hq
  have HQ2 := Lib.hid hq
  clear HQ HC hq
  go_wp2_with (fail)
  refine leaves_cons (f := 126) (args := #[.pointer (some ⟨w.heap.size, 0, none⟩)]) (by simp) (by simp [go_sem]) ?_
  refine (catch_panicking ⟨w.heap.size, 0, none⟩ _ n _ q1 q2).mono ?_
  rintro e u' w'' ⟨rfl, rfl, rfl⟩
  simp [Leaves, settle, results, Tryd.results102, go_sem, q1]
  exact ⟨w2, HQ2.out, rfl⟩

end Go.Proofs.YtbdbmmdnidonjaaDoor

set_option maxRecDepth 100000
namespace Go.Proofs.YtbdbmmdnidonjaaDoor
open Go.RowKit

set_option maxHeartbeats 1000000 in
/-- the closure of runMach -/
theorem rm1_any (W0 : World) (vb vo fl vcap : Nat) (fs : List Mf) (hm : MfsAt W0 (.slice (some ⟨vb, vo, none⟩) fl vcap) fs) (hfl : fl = fs.length) (h1 : 1 ≤ fl) (hP : PgOk (machPg fs) fs.length) (hN : MfsNat fs) (hle : MfsLe fs)
    (w : World) (pm : Nat) (rest : List Value) (T : Nat) (s : Cm) (sv : Value) (b off n cap : Nat) (inp : List Nat) (bm bp bi : Nat) (g : Nat) (hg : s.left < g) (hB : Below W0.heap.size W0 w) (hM : MacAt W0.heap.size w pm rest T s sv) (hs : CmOk s)
    (hsrc : SrcAt w b off n cap inp) (hin : Small inp) (hpar : (machPg fs).par (fl - 1) ≤ n) (hsd : s.said.length + s.left ≤ T) (hT : T ≤ 300000)
    (c0 : w.cell? ⟨bm, 0, none⟩ = some (.pointer (some ⟨pm, 0, none⟩))) (c1 : w.cell? ⟨bp, 0, none⟩ = some (.slice (some ⟨vb, vo, none⟩) fl vcap)) (c2 : w.cell? ⟨bi, 0, none⟩ = some (.slice (some ⟨b, off, none⟩) n cap)) :
    Calls Tryd.prog 77 #[.pointer (some ⟨bm, 0, none⟩), .pointer (some ⟨bp, 0, none⟩), .pointer (some ⟨bi, 0, none⟩)] w
      (RunPost W0.heap.size pm rest T sv (loop (machPg fs) g (fl - 1) 0 (newLc (machPg fs) (fl - 1) inp) s) w) := by
  have HR := Lib.hid (run_any W0 _ fs hm hP hN hle g w pm rest T s sv (fl - 1) b off n cap inp hg (by omega) hB hM hs hsrc hin hpar hsd hT)
  have hlm := hle.1
  generalize loop (machPg fs) g (fl - 1) 0 (newLc (machPg fs) (fl - 1) inp) s = r at *
  have hfl1 : (fl : Int) - 1 = ((fl - 1 : Nat) : Int) := by omega
  have hf0 : fl ≤ 1048576 := by omega
  have hf1 : (0 : Int) ≤ fl := by omega
  rw [← hfl1] at HR
  clear hm hP hN hle hg hB hM hs hsrc hin hpar hsd hT hfl hlm hfl1
  go_enter Tryd.func77, Tryd.ntmps77
  go_wp2_with (fail)
  go_at_call 78
  refine HR.out.mono ?_
  rintro e w2 hpost
  unfold RunPost at hpost ⊢
  cases r with
  | ret v s2 =>
    obtain ⟨sv', rfl, h⟩ := hpost
    have HH := Lib.hid h
    clear h HR
    go_wp2_with (fail)
    go_ret
    exact ⟨sv', rfl, HH.out⟩
  | stop en s2 =>
    obtain ⟨sv', rfl, h⟩ := hpost
    have HH := Lib.hid h
    clear h HR
    go_wp2_with (fail)
    exact ⟨rfl, rfl, sv', HH.out⟩

/-- what the closure of outcome leaves: the value lies in the outcome's block -/
def OcPost (B pm b5 : Nat) (rest : List Value) (T : Nat) (sv : Value) (r : Rs) (w : World) (e : Ending) (w' : World) : Prop :=
  match r with
  | .ret v s2 => e = .returned (.tuple #[]) ∧ ∃ sv' w2, w' = w2.setCell ⟨b5, 2, none⟩ (.int .i64 (v : Int)) ∧ MacAt B w2 pm rest T s2 sv' ∧ Fr [pm] sv w sv' w2
  | .stop en s2 => e = .panicked (endChain en) ∧ ∃ sv', MacAt B w' pm rest T s2 sv' ∧ Fr [pm] sv w sv' w'

set_option maxHeartbeats 1000000 in
theorem oc1_any (w : World) (B pm : Nat) (rest : List Value) (T : Nat) (sv : Value) (r : Rs) (bf b5 : Nat) (caps : Array Value) (y : Value)
    (hf : w.cell? ⟨bf, 0, none⟩ = some (.func (.func 77) #[] caps)) (hcl : Calls Tryd.prog 77 caps w (RunPost B pm rest T sv r w))
    (h5 : w.cell? ⟨b5, 2, none⟩ = some y) (hz : w.frozen? ⟨b5, 2, none⟩ = false) (hne : b5 ≠ pm) (hsn : sv.ownBlock ≠ some b5) :
    Calls Tryd.prog 103 #[.pointer (some ⟨bf, 0, none⟩), .pointer (some ⟨b5, 0, none⟩)] w (OcPost B pm b5 rest T sv r w) := by
  have HC := Lib.hid hcl
  have hl5 := World.block_lt_of_cell? _ _ h5
  clear hcl
  go_enter Tryd.func103, Tryd.ntmps103
  go_wp2_with (fail)
  go_at_call 77
  refine HC.out.mono ?_
  rintro e w2 hpost
  unfold RunPost at hpost
  unfold OcPost
  cases r with
  | ret v s2 =>
    obtain ⟨sv', rfl, hM2, hF⟩ := hpost
    have e5 : w2.cell? ⟨b5, 2, none⟩ = some y := by rw [World.cell?_of_block (w := w) (a := ⟨b5, 2, none⟩) (hF.block hl5 (by simpa using hne) hsn)]; exact h5
    have ez : w2.frozen? ⟨b5, 2, none⟩ = false := by rw [World.frozen?_of_block (w := w) (a := ⟨b5, 2, none⟩) (hF.block hl5 (by simpa using hne) hsn)]; exact hz
    have HM := Lib.hid hM2
    have HF := Lib.hid hF
    clear hM2 hF HC hf h5 hz
    go_wp2_with (fail)
    go_end0
    exact ⟨rfl, sv', w2, rfl, HM.out, HF.out⟩
  | stop en s2 =>
    obtain ⟨sv', rfl, hM2, hF⟩ := hpost
    have HM := Lib.hid hM2
    have HF := Lib.hid hF
    clear hM2 hF HC
    go_wp2_with (fail)
    exact ⟨rfl, rfl, sv', HM.out, HF.out⟩

end Go.Proofs.YtbdbmmdnidonjaaDoor

set_option maxRecDepth 100000
namespace Go.Proofs.YtbdbmmdnidonjaaDoor
open Go.RowKit

def Rs.en : Rs → Nat
  | .ret _ _ => 0
  | .stop e _ => e
def Rs.val : Rs → Nat
  | .ret v _ => v
  | .stop _ _ => 0

/-- two rows lie apart -/
def Apart2 (a b : Value) : Prop := ∀ k, a.ownBlock = some k → b.ownBlock ≠ some k

def OutPost (B pm : Nat) (rest : List Value) (T : Nat) (sv : Value) (r : Rs) (w : World) (e : Ending) (w' : World) : Prop :=
  ∃ sv' cv, e = .returned (.agg #[sv', .int .i64 (r.en : Int), .int .i64 (r.val : Int), cv]) ∧ MacAt B w' pm rest T r.cm sv' ∧ w'.ownsRow w.heap.size 3 1 cv 16 (nats r.cm.cells) ∧ Fr [pm] sv w sv' w' ∧ Apart2 cv sv'

theorem clone_full {w : World} {b off n cap : Nat} {xs : List Nat} (hn : xs.length = n) (hm : n ≤ 1048576) (hc : ∀ i, i < n → w.cell? ⟨b, off + i, none⟩ = some (.int .i64 ((xs.getD i 0 : Nat) : Int))) :
    Calls Tryd.prog 104 #[.slice (some ⟨b, off, none⟩) n cap] w (fun e w2 => ∃ a c, e = .returned (.slice a n c) ∧ w2.ownsRow w.heap.size 3 1 (.slice a n c) n (nats xs) ∧ Below w.heap.size w w2) :=
  (clone_some w b off n cap xs hn hm hc).mono fun e w2 ⟨v, he, hown, hb⟩ => by
    obtain ⟨a, c, rfl⟩ : ∃ a c, v = .slice a n c := by
      rcases hown.2 with ⟨h1, h2⟩ | ⟨g, cp, cur, h1, _⟩
      · exact ⟨none, 0, by rw [h1, ← h2, hn]⟩
      · exact ⟨_, cp, by rw [h1, hn]⟩
    exact ⟨a, c, he, by rw [hn] at hown; exact hown, hb⟩

theorem saidForm {w : World} {B : Nat} {sv : Value} {xs : List Nat} (h : Said w B sv xs) : ∃ a c, sv = .slice a xs.length c := by
  rcases h.2 with ⟨h1, h2⟩ | ⟨g, cp, cur, h1, _⟩
  · exact ⟨none, 0, by rw [h1, ← h2]⟩
  · exact ⟨_, cp, h1⟩

/-- what is known behind the caught call: the machine's end, the outcome's block -/
def MidAt (B pm b5 : Nat) (rest : List Value) (T : Nat) (sv : Value) (r : Rs) (w1 : World) (w' : World) : Prop :=
  ∃ sv', MacAt B w' pm rest T r.cm sv' ∧ Fr ([pm] ++ [b5]) sv w1 sv' w' ∧ Blk w' b5 [.slice none 0 0, .int .i64 0, .int .i64 (r.val : Int), .slice none 0 0]

theorem mid_of {B pm b5 : Nat} {rest : List Value} {T : Nat} {sv : Value} {r : Rs} {w1 wa w2 : World} {e : Ending} (hb : Below w1.heap.size w1 wa) (hne : b5 ≠ pm) (hsn : sv.ownBlock ≠ some b5) (hpm : pm < w1.heap.size) (hsv : ∀ k, sv.ownBlock = some k → k < w1.heap.size)
    (hblk : Blk wa b5 [.slice none 0 0, .int .i64 0, .int .i64 0, .slice none 0 0]) {bc : Nat} (hbc : w1.heap.size ≤ bc) (hbl : bc < wa.heap.size) (hb5 : b5 ≠ bc)
    (h : OcPost B pm b5 rest T sv r wa e w2) : (∀ u, MidAt B pm b5 rest T sv r w1 (w2.setCell ⟨bc, 0, none⟩ u)) ∧ w2.cell? ⟨bc, 0, none⟩ = wa.cell? ⟨bc, 0, none⟩ ∧ w2.frozen? ⟨bc, 0, none⟩ = wa.frozen? ⟨bc, 0, none⟩ := by
  have hnc : bc ≠ pm := by omega
  have hsc : sv.ownBlock ≠ some bc := fun e => by have := hsv _ e; omega
  have hm : ∀ x ∈ [pm], x ∈ [pm] ++ [b5] := fun x hx => List.mem_append_left _ hx
  cases r with
  | ret v s2 =>
    obtain ⟨_, sv', w3, rfl, hM, hF⟩ := h
    have hb3 : Blk w3 b5 [.slice none 0 0, .int .i64 0, .int .i64 0, .slice none 0 0] := hF.blk hblk (by simpa using hne) hsn
    have hs1 : sv'.ownBlock ≠ some b5 := hF.ne hblk.lt hsn
    have hs2 : sv'.ownBlock ≠ some bc := hF.ne hbl hsc
    have hbk : (w3.setCell ⟨b5, 2, none⟩ (.int .i64 (v : Int))).heap[bc]? = wa.heap[bc]? := by
      rw [Below.heap_setCell _ _ _ _ (fun e => hb5 e.symm)]; exact hF.block hbl (by simpa using hnc) hsc
    refine ⟨fun u => ⟨sv', (hM.other (a := ⟨b5, 2, none⟩) hne hs1 _).other (a := ⟨bc, 0, none⟩) hnc hs2 u, (((Fr.below hb : Fr ([pm] ++ [b5]) sv w1 sv wa).trans (hF.mono hm)).setIn (a := ⟨b5, 2, none⟩) (by simp) _).setNew (a := ⟨bc, 0, none⟩) hbc u, (hb3.set 2 (.int .i64 (v : Int))).other (a := ⟨bc, 0, none⟩) hb5 u⟩, World.cell?_of_block (a := ⟨bc, 0, none⟩) hbk, World.frozen?_of_block (a := ⟨bc, 0, none⟩) hbk⟩
  | stop en s2 =>
    obtain ⟨_, sv', hM, hF⟩ := h
    have hb3 : Blk w2 b5 [.slice none 0 0, .int .i64 0, .int .i64 0, .slice none 0 0] := hF.blk hblk (by simpa using hne) hsn
    have hs2 : sv'.ownBlock ≠ some bc := hF.ne hbl hsc
    have hbk : w2.heap[bc]? = wa.heap[bc]? := hF.block hbl (by simpa using hnc) hsc
    exact ⟨fun u => ⟨sv', hM.other (a := ⟨bc, 0, none⟩) hnc hs2 u, ((Fr.below hb : Fr ([pm] ++ [b5]) sv w1 sv wa).trans (hF.mono hm)).setNew (a := ⟨bc, 0, none⟩) hbc u, hb3.other (a := ⟨bc, 0, none⟩) hb5 u⟩, World.cell?_of_block (a := ⟨bc, 0, none⟩) hbk, World.frozen?_of_block (a := ⟨bc, 0, none⟩) hbk⟩

/-- the closure's run, caught -/
theorem caught_any (w1 : World) (B pm bf b5 : Nat) (rest : List Value) (T : Nat) (sv : Value) (r : Rs) (caps : Array Value) (hne : b5 ≠ pm) (hsn : sv.ownBlock ≠ some b5) (hpm : pm < w1.heap.size) (hsv : ∀ k, sv.ownBlock = some k → k < w1.heap.size)
    (hblk : Blk w1 b5 [.slice none 0 0, .int .i64 0, .int .i64 0, .slice none 0 0]) (hf : w1.cell? ⟨bf, 0, none⟩ = some (.func (.func 77) #[] caps))
    (hcl : ∀ w', Below w1.heap.size w1 w' → Calls Tryd.prog 77 caps w' (RunPost B pm rest T sv r w')) :
    Calls Tryd.prog 102 #[.func (.func 103) #[] #[.pointer (some ⟨bf, 0, none⟩), .pointer (some ⟨b5, 0, none⟩)]] w1 fun e w' => e = .returned (.int .i64 (r.en : Int)) ∧ MidAt B pm b5 rest T sv r w1 w' := by
  have hlt := hblk.lt
  have hA := below1 w1 (.cells #[.int .i64 0] 3)
  have hbA : Blk (w1.alloc (.cells #[.int .i64 0] 3)) b5 [.slice none 0 0, .int .i64 0, .int .i64 0, .slice none 0 0] := hblk.alloc _
  have hOC := oc1_any (w1.alloc (.cells #[.int .i64 0] 3)) B pm rest T sv r bf b5 caps (.int .i64 0) (by rw [World.cell?_alloc_past _ _ _ (World.block_lt_of_cell? _ _ hf)]; exact hf) (hcl _ hA) (by rw [hbA.cell]; rfl) (hbA.frozen 2) hne hsn
  have hcell : (w1.alloc (.cells #[.int .i64 0] 3)).cell? ⟨w1.heap.size, 0, none⟩ = some (.int .i64 0) := by rw [(Blk.new w1 #[.int .i64 0] 3).cell]; rfl
  have hfz : (w1.alloc (.cells #[.int .i64 0] 3)).frozen? ⟨w1.heap.size, 0, none⟩ = false := (Blk.new w1 #[.int .i64 0] 3).frozen 0
  have hmid : ∀ e w2, OcPost B pm b5 rest T sv r (w1.alloc (.cells #[.int .i64 0] 3)) e w2 → (∀ u, MidAt B pm b5 rest T sv r w1 (w2.setCell ⟨w1.heap.size, 0, none⟩ u)) ∧ w2.cell? ⟨w1.heap.size, 0, none⟩ = some (.int .i64 0) ∧ w2.frozen? ⟨w1.heap.size, 0, none⟩ = false := fun e w2 h => by
    obtain ⟨h1, h2, h3⟩ := mid_of (bc := w1.heap.size) hA hne hsn hpm hsv hbA (Nat.le_refl _) (by simp) (by omega) h
    exact ⟨h1, h2.trans hcell, h3.trans hfz⟩
  cases r with
  | ret v s2 =>
    refine (caught_ret w1 _ (fun w2 => OcPost B pm b5 rest T sv (.ret v s2) (w1.alloc (.cells #[.int .i64 0] 3)) (.returned (.tuple #[])) w2) (hOC.mono fun e w2 h => ⟨h.1, by have h1 := h.1; rw [h1] at h; exact h⟩) (fun w2 h => (hmid _ w2 h).2)).mono ?_
    rintro e w' ⟨rfl, w2, h, rfl⟩
    exact ⟨rfl, (hmid _ w2 h).1 _⟩
  | stop en s2 =>
    refine (caught_stop w1 en _ (fun w2 => OcPost B pm b5 rest T sv (.stop en s2) (w1.alloc (.cells #[.int .i64 0] 3)) (.panicked (endChain en)) w2) (hOC.mono fun e w2 h => ⟨h.1, by have h1 := h.1; rw [h1] at h; exact h⟩) (fun w2 h => (hmid _ w2 h).2)).mono ?_
    rintro e w' ⟨rfl, w2, h, rfl⟩
    exact ⟨rfl, (hmid _ w2 h).1 _⟩

set_option maxHeartbeats 2000000 in
theorem outcome_any (w : World) (B pm : Nat) (rest : List Value) (T : Nat) (sv : Value) (r : Rs) (caps : Array Value) (hpm : pm < w.heap.size) (hsv : ∀ k, sv.ownBlock = some k → k < w.heap.size) (hr : CmOk r.cm)
    (hcl : ∀ w', Below w.heap.size w w' → Calls Tryd.prog 77 caps w' (RunPost B pm rest T sv r w')) :
    Calls Tryd.prog 76 #[.pointer (some ⟨pm, 0, none⟩), .func (.func 77) #[] caps] w (OutPost B pm rest T sv r w) := by
  have HC := Lib.hid hcl
  have HSV := Lib.hid hsv
  have HR := Lib.hid hr
  have hmf : ∀ (fn : Fn) (first cap : Array Value) (w : World), (Instr.makeFunc fn first cap).run Tryd.prog w = .ok (.func fn first cap) w := fun _ _ _ _ => rfl
  clear hcl hsv hr
  go_enter Tryd.func76, Tryd.ntmps76
  go_wp2_with (fail)
  go_at_call 102
  have hsz := HSV.out
  refine (caught_any _ B pm w.heap.size (w.heap.size + 1 + 1) rest T sv r caps (by omega) (fun e => by have := hsz _ e; omega) (by simp; omega) (fun k hk => by have := hsz _ hk; simp; omega) ?_ (by simp [go_sem]) (fun w' hb => HC.out w' ((below3 w _ _ _).trans (hb.mono (by simp; omega))))).mono ?_
  · have h := Blk.new ((w.alloc (.cells #[.func (.func 77) #[] caps] 109)).alloc (.cells #[.slice none 0 0, .int .i64 0, .int .i64 0, .slice none 0 0] 31)) #[.slice none 0 0, .int .i64 0, .int .i64 0, .slice none 0 0] 31
    rw [show ((w.alloc (.cells #[.func (.func 77) #[] caps] 109)).alloc (.cells #[.slice none 0 0, .int .i64 0, .int .i64 0, .slice none 0 0] 31)).heap.size = w.heap.size + 1 + 1 by simp] at h
    exact h
  rintro e w4 ⟨rfl, sv', hM, hF, hB5⟩
  obtain ⟨sa, sc, hform⟩ := saidForm hM.said
  obtain ⟨sn, hsn⟩ : ∃ sn, sn = r.cm.said.length := ⟨_, rfl⟩
  rw [← hsn] at hform
  subst hform
  clear hsn
  have hB4 : Blk w4 (w.heap.size + 1) [.slice none 0 0, .int .i64 0, .int .i64 0, .slice none 0 0] := by
    have h := (Blk.new (w.alloc (.cells #[.func (.func 77) #[] caps] 109)) #[.slice none 0 0, .int .i64 0, .int .i64 0, .slice none 0 0] 31).alloc (.cells #[.slice none 0 0, .int .i64 0, .int .i64 0, .slice none 0 0] 31)
    rw [show (w.alloc (.cells #[.func (.func 77) #[] caps] 109)).heap.size = w.heap.size + 1 by simp] at h
    exact hF.blk h (by simp; omega) (fun e => by have := hsz _ e; omega)
  have hFr : Fr [pm] sv w (.slice sa sn sc) w4 := (Fr.below (below3 w _ _ _) : Fr [pm] sv w sv _).transNew hF (fun x hx => by have := List.mem_singleton.1 hx; omega)
  have hszw : w.heap.size + 3 ≤ w4.heap.size := by have := hF.size; simp at this; omega
  have hsn4 : Value.ownBlock (.slice sa sn sc) ≠ some (w.heap.size + 1) := hF.ne (by simp) (fun e => by have := hsz _ e; omega)
  have hsn5 : Value.ownBlock (.slice sa sn sc) ≠ some (w.heap.size + 1 + 1) := hF.ne (by simp) (fun e => by have := hsz _ e; omega)
  have y1 : w4.cell? ⟨w.heap.size + 1 + 1, 1, none⟩ = some (.int .i64 0) := by rw [hB5.cell]; rfl
  have z1 := hB5.frozen 1
  have HM := Lib.hid hM; have HF := Lib.hid hFr; have HB5 := Lib.hid hB5; have HB4 := Lib.hid hB4
  clear hM hF hFr hB5 hB4 HC
  go_wp2_with (fail)
  generalize hw5 : w4.setCell _ _ = w5
  have hM5 : MacAt B w5 pm rest T r.cm (.slice sa sn sc) := by rw [← hw5]; exact HM.out.other (a := ⟨w.heap.size + 1 + 1, 1, none⟩) (by simp only []; omega) hsn5 _
  have hF5 : Fr [pm] sv w (.slice sa sn sc) w5 := by rw [← hw5]; exact HF.out.setNew (a := ⟨w.heap.size + 1 + 1, 1, none⟩) (by simp only []; omega) _
  have hB5 : Blk w5 (w.heap.size + 1 + 1) [.slice none 0 0, .int .i64 (r.en : Int), .int .i64 (r.val : Int), .slice none 0 0] := by rw [← hw5]; exact HB5.out.set 1 _
  have hB4 : Blk w5 (w.heap.size + 1) [.slice none 0 0, .int .i64 0, .int .i64 0, .slice none 0 0] := by rw [← hw5]; exact HB4.out.other (by simp only []; omega) _
  have hsz5 : w.heap.size + 3 ≤ w5.heap.size := by rw [← hw5]; simpa using hszw
  have hsd : w5.cell? ⟨pm, 2, none⟩ = some (.slice sa sn sc) := (macCells hM5 HR.out.cells).2.2.2.1
  have HCL : Hid (∀ w', Below w5.heap.size w5 w' → Calls Tryd.prog 104 #[.slice (some ⟨pm, 3, none⟩) 16 16] w' (fun e w2 => ∃ a c, e = .returned (.slice a 16 c) ∧ w2.ownsRow w'.heap.size 3 1 (.slice a 16 c) 16 (nats r.cm.cells) ∧ Below w'.heap.size w' w2)) :=
    Lib.hid fun w' hb => clone_full HR.out.cells (by decide) (fun i hi => (macCells (hM5.below hb) HR.out.cells).1 i hi)
  have HM5 := Lib.hid hM5; have HF5 := Lib.hid hF5; have HB5' := Lib.hid hB5; have HB4' := Lib.hid hB4
  clear hM5 hF5 hB5 hB4 hw5 y1 z1 HM HF HB5 HB4 hszw
  refine wp_region_held (fun W => W.cell? ⟨pm, 2, none⟩ = some (.slice sa sn sc)) [(0, false), (1, false), (2, false), (3, true), (4, false), (5, false), (6, false), (7, false), (9, false)] [8, 10, 11, 12] 12 (by kernel_rfl) (by kernel_rfl) (fun d v c a w h => by cases d <;> exact h) hsd ?_
  simp only [pickO, List.map_cons, List.map_nil, List.getD_cons_zero, List.getD_cons_succ]
  refine heldO_stepY (v := ?_) rfl ?_ ?_
  rotate_left
  · intro W
    go_simp
    try rfl
  simp only [Act.put, List.setIfInBounds_toArray, List.set_cons_zero, List.set_cons_succ]
  refine heldO_stepY (v := ?_) rfl ?_ ?_
  rotate_left
  · intro W
    go_simp
    try rfl
  simp only [Act.put, List.setIfInBounds_toArray, List.set_cons_zero, List.set_cons_succ]
  refine heldO_stepY (v := ?_) rfl ?_ ?_
  rotate_left
  · intro W
    go_simp
    try rfl
  simp only [Act.put, List.setIfInBounds_toArray, List.set_cons_zero, List.set_cons_succ]
  refine heldO_step (v := ?_) rfl ?_ ?_
  rotate_left
  · intro W hS
    go_simp
    try rfl
  simp only [Act.put, List.setIfInBounds_toArray, List.set_cons_zero, List.set_cons_succ]
  refine heldO_stepY (v := ?_) rfl ?_ ?_
  rotate_left
  · intro W
    go_simp
    try rfl
  simp only [Act.put, List.setIfInBounds_toArray, List.set_cons_zero, List.set_cons_succ]
  refine heldO_stepY (v := ?_) rfl ?_ ?_
  rotate_left
  · intro W
    go_simp
    try rfl
  simp only [Act.put, List.setIfInBounds_toArray, List.set_cons_zero, List.set_cons_succ]
  refine heldO_stepY (v := ?_) rfl ?_ ?_
  rotate_left
  · intro W
    go_simp
    try rfl
  simp only [Act.put, List.setIfInBounds_toArray, List.set_cons_zero, List.set_cons_succ]
  refine heldO_stepY (v := ?_) rfl ?_ ?_
  rotate_left
  · intro W
    go_simp
    try rfl
  simp only [Act.put, List.setIfInBounds_toArray, List.set_cons_zero, List.set_cons_succ]
  refine heldO_stepY (v := ?_) rfl ?_ ?_
  rotate_left
  · intro W
    go_simp
    try rfl
  simp only [Act.put, List.setIfInBounds_toArray, List.set_cons_zero, List.set_cons_succ]
  refine heldO_nil ?_
  refine tailO_step rfl (fun K hK => ?_)
  go_simp
  refine (HCL.out _ (Below.refl _ _).drew).mono ?_
  rintro e w6 ⟨va, vc, rfl, hown, hb⟩
  have hb6 : Below w5.heap.size w5 w6 := (Below.refl w5.heap.size w5).drew.trans hb
  have hM6 := HM5.out.below hb6
  have hF6 : Fr [pm] sv w (.slice sa sn sc) w6 := HF5.out.trans (Fr.below hb6)
  have hB5 := HB5'.out.below hb6
  have hB4 := HB4'.out.below hb6
  have s6 : w6.cell? ⟨pm, 2, none⟩ = some (.slice sa sn sc) := (macCells hM6 HR.out.cells).2.2.2.1
  have u0 : w6.cell? ⟨w.heap.size + 1 + 1, 0, none⟩ = some (.slice none 0 0) := by rw [hB5.cell]; rfl
  have u3 : w6.cell? ⟨w.heap.size + 1 + 1, 3, none⟩ = some (.slice none 0 0) := by rw [hB5.cell]; rfl
  have u1 : w6.cell? ⟨w.heap.size + 1 + 1, 1, none⟩ = some (.int .i64 (r.en : Int)) := by rw [hB5.cell]; rfl
  have u2 : w6.cell? ⟨w.heap.size + 1 + 1, 2, none⟩ = some (.int .i64 (r.val : Int)) := by rw [hB5.cell]; rfl
  have g0 := hB5.frozen 0
  have g3 := hB5.frozen 3
  have t0 : w6.cell? ⟨w.heap.size + 1, 0, none⟩ = some (.slice none 0 0) := by rw [hB4.cell]; rfl
  have t1 : w6.cell? ⟨w.heap.size + 1, 1, none⟩ = some (.int .i64 0) := by rw [hB4.cell]; rfl
  have t2 : w6.cell? ⟨w.heap.size + 1, 2, none⟩ = some (.int .i64 0) := by rw [hB4.cell]; rfl
  have t3 : w6.cell? ⟨w.heap.size + 1, 3, none⟩ = some (.slice none 0 0) := by rw [hB4.cell]; rfl
  have f0 := hB4.frozen 0
  have f1 := hB4.frozen 1
  have f2 := hB4.frozen 2
  have f3 := hB4.frozen 3
  have hl45 : w.heap.size + 1 + 1 < w6.heap.size := hB5.lt
  have hown5 : ∀ k, Value.ownBlock (.slice va 16 vc) = some k → w5.heap.size ≤ k := fun k hk => (World.ownsRow.lt hown k hk).1
  have HO5 := Lib.hid hown5
  have hap : Apart2 (.slice va 16 vc) (.slice sa sn sc) := fun k hk e => by have h1 := hown5 k hk; have h2 := (HM5.out.said.lt e).2; omega
  have HAP := Lib.hid hap
  clear hap
  have HOW := Lib.hid hown; have HM6 := Lib.hid hM6; have HF6 := Lib.hid hF6
  refine hK _ _ (.inr s6) ?_
  clear hK K hown hb hb6 hM6 hF6 hB5 hB4 HM5 HF5 HB5' HB4' HCL hsd hown5
  refine tailO_step rfl (fun K hK => ?_)
  go_simp
  refine hK _ _ (.inr (by simp [go_sem, s6])) ?_
  clear hK K
  refine tailO_step rfl (fun K hK => ?_)
  go_simp
  refine hK _ _ (.inr (by simp [go_sem, s6])) ?_
  clear hK K
  refine tailO_step rfl (fun K hK => ?_)
  go_simp
  refine hK _ _ (.inl rfl) (tailO_nil ?_)
  clear hK K
  go_wp2_with (fail)
  refine bodyPost_ret (v := .agg #[.slice sa sn sc, .int .i64 (r.en : Int), .int .i64 (r.val : Int), .slice va 16 vc]) (by simp [results, Tryd.results76, go_sem, t0, t1, t2, t3]) rfl ?_
  have p5 : w.heap.size + 1 + 1 ≠ pm := by omega
  have p4 : w.heap.size + 1 ≠ pm := by omega
  refine ⟨_, _, rfl, ?_, ?_, ?_, HAP.out⟩
  · exact (((((HM6.out.other (a := ⟨w.heap.size + 1 + 1, 0, none⟩) p5 hsn5 _).other (a := ⟨w.heap.size + 1 + 1, 3, none⟩) p5 hsn5 _).other (a := ⟨w.heap.size + 1, 0, none⟩) p4 hsn4 _).other (a := ⟨w.heap.size + 1, 1, none⟩) p4 hsn4 _).other (a := ⟨w.heap.size + 1, 2, none⟩) p4 hsn4 _).other (a := ⟨w.heap.size + 1, 3, none⟩) p4 hsn4 _
  · refine ownsRow_mono (ownsRow_same HOW.out fun k hk => ?_) (by show w.heap.size ≤ w5.heap.size; omega)
    have := HO5.out k hk
    repeat rw [Below.heap_setCell _ _ _ _ (by simp only []; omega)]
  · exact (((((HF6.out.setNew (a := ⟨w.heap.size + 1 + 1, 0, none⟩) (by simp only []; omega) _).setNew (a := ⟨w.heap.size + 1 + 1, 3, none⟩) (by simp only []; omega) _).setNew (a := ⟨w.heap.size + 1, 0, none⟩) (by simp only []; omega) _).setNew (a := ⟨w.heap.size + 1, 1, none⟩) (by simp only []; omega) _).setNew (a := ⟨w.heap.size + 1, 2, none⟩) (by simp only []; omega) _).setNew (a := ⟨w.heap.size + 1, 3, none⟩) (by simp only []; omega) _

end Go.Proofs.YtbdbmmdnidonjaaDoor
