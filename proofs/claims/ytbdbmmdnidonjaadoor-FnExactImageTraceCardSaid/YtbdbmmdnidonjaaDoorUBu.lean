/- A run of an image over its bytes: impl's bytesRun.run, the walk. -/
import Derived.Test.YtbdbmmdnidonjaaDoorUBf
import Derived.Test.YtbdbmmdnidonjaaDoorUDi
import Derived.Test.YtbdbmmdnidonjaaDoorUJq
import Derived.Test.YtbdbmmdnidonjaaDoorUJd
import Derived.Deep.AppendLies
set_option linter.unusedVariables false
set_option linter.unusedSimpArgs false
set_option maxRecDepth 100000
namespace Go.Proofs.YtbdbmmdnidonjaaDoor
open Go.RowKit
def RunPost2 (B pm : Nat) (bv lv : Value) (T : Nat) (sv tv : Value) (r : Rs) (w : World) (e : Ending) (w' : World) : Prop :=
 ∃ sv' tv', (match r with | .ret v _ => e = .returned (.int .i64 (v : Int)) | .stop en _ => e = .panicked (endChain en)) ∧ MacAt B w' pm [bv, lv, tv'] T r.cm sv' ∧ TrAt B w' pm sv' tv' r.cm.trace ∧ Fr2 [pm] sv tv w sv' tv' w'
def RunRel2 (P : Pg) (R : Rs) (B pm : Nat) (bv lv : Value) (T k pc pl par slo : Nat) (sv0 tv0 : Value) (w2 : World) (g : Nat) (atv : Value) (wr : World) : Prop :=
 ∃ g' a l s sv tv, g' ≤ g ∧ atv = .int .i64 ((a : Nat) : Int) ∧ P.good k a ∧ loop P g' k a l s = R ∧ s.left < g' ∧ MacAt B wr pm [bv, lv, tv] T s sv ∧ TrAt B wr pm sv tv s.trace ∧ CallAt (KTr tv) wr pm sv pc pl par l ∧ LcOk par slo l ∧ CmOk s ∧ Fr2 ([pm] ++ [pc, pl]) sv0 tv0 w2 sv tv wr ∧ s.said.length + s.left ≤ T ∧ s.trace.length ≤ 500
def MidT (B pm : Nat) (bv lv : Value) (T pc pl par : Nat) (l : Lc) (s : Cm) (sv sv0 tv0 : Value) (w2 wx : World) : Prop :=
 ∃ tv, MacAt B wx pm [bv, lv, tv] T s sv ∧ TrAt B wx pm sv tv s.trace ∧ CallAt (KTr tv) wx pm sv pc pl par l ∧ Fr2 ([pm] ++ [pc, pl]) sv0 tv0 w2 sv tv wx
theorem runPost2_of {B pm : Nat} {bv lv : Value} {T : Nat} {sv tv sv' tv' : Value} {w w2 wr : World} {pc pl : Nat} {s : Cm} (hb : Below w.heap.size w w2) (hF : Fr2 ([pm] ++ [pc, pl]) sv tv w2 sv' tv' wr) (hpc : w.heap.size ≤ pc) (hpl : w.heap.size ≤ pl) (hM : MacAt B wr pm [bv, lv, tv'] T s sv') (hT : TrAt B wr pm sv' tv' s.trace) :
  (∀ v, RunPost2 B pm bv lv T sv tv (.ret v s) w (.returned (.int .i64 (v : Int))) wr) ∧ (∀ en, RunPost2 B pm bv lv T sv tv (.stop en s) w (.panicked (endChain en)) wr) := by
 have hfr : Fr2 [pm] sv tv w sv' tv' wr := (Fr2.below hb).transNew hF (fun x hx => by
  rcases List.mem_cons.1 hx with h | h
  ·omega
  ·have := List.mem_singleton.1 h; omega)
 exact ⟨fun v => ⟨sv', tv', rfl, hM, hT, hfr⟩, fun en => ⟨sv', tv', rfl, hM, hT, hfr⟩⟩
theorem step_trace (s : Cm) (p : Nat) : (s.step p).trace = if s.trace.length < 500 then s.trace ++ [p] else s.trace := rfl
/-- where a section's bytes lie -/
theorem img_code {b : List Nat} {l : List Sec} {fs : List Mf} (hr : readI b = some (l, fs)) {k : Nat} (hk : k < l.length) : ∃ s, l[k]? = some s ∧ secD l k = s ∧ s.beg + s.siz ≤ b.length ∧ (s.code b).length = s.siz := by
 obtain ⟨h1, h2, _⟩ := readI_some hr
 have hs := (imF_sec h2).1
 refine ⟨l[k], List.getElem?_eq_getElem hk, by simp [secD, List.getD_eq_getElem?_getD, hk], ?_⟩
 have := (secF_len hs).2.2.2 l[k] (List.getElem_mem _)
 exact ⟨this.2, cutN_len this.2⟩
theorem step_tr_len (s : Cm) (p : Nat) (h : s.trace.length ≤ 500) : (s.step p).trace.length ≤ 500 := by
 rw [step_trace]
 split
 ·rw [List.length_append]; show s.trace.length + 1 ≤ 500; omega
 ·exact h
theorem plainOp_trace {x : Ni} {l : Lc} {s : Cm} {l2 : Lc} {s2 : Cm} (h : plainOp x l s = .inl (l2, s2)) : s2.trace = s.trace := by
 unfold plainOp at h
 by_cases e1 : x.op = 1
 ·rw [if_pos e1] at h
  cases h; rfl
 rw [if_neg e1] at h
 by_cases e2 : x.op = 2
 ·rw [if_pos e2] at h
  cases h; rfl
 rw [if_neg e2] at h
 by_cases e10 : x.op = 10
 ·rw [if_pos e10] at h
  cases h; rfl
 rw [if_neg e10] at h
 by_cases e11 : x.op = 11
 ·rw [if_pos e11] at h
  by_cases q : 16 ≤ l.reg x.b
  ·rw [if_pos q] at h; cases h
  ·rw [if_neg q] at h; cases h; rfl
 rw [if_neg e11] at h
 by_cases e12 : x.op = 12
 ·rw [if_pos e12] at h
  by_cases q : 16 ≤ l.reg x.a
  ·rw [if_pos q] at h; cases h
  ·rw [if_neg q] at h; cases h; rfl
 rw [if_neg e12] at h
 by_cases e13 : x.op = 13
 ·rw [if_pos e13] at h
  cases h; rfl
 rw [if_neg e13] at h
 by_cases e15 : x.op = 15
 ·rw [if_pos e15] at h
  cases h; rfl
 rw [if_neg e15] at h
 by_cases e16 : x.op = 16
 ·rw [if_pos e16] at h
  cases h; rfl
 rw [if_neg e16] at h
 by_cases e17 : x.op = 17
 ·rw [if_pos e17] at h
  cases h; rfl
 rw [if_neg e17] at h
 by_cases e18 : x.op = 18
 ·rw [if_pos e18] at h
  cases h; rfl
 rw [if_neg e18] at h
 by_cases e19 : x.op = 19
 ·rw [if_pos e19] at h
  cases h; rfl
 rw [if_neg e19] at h
 cases q : arithN x.op (l.reg x.b) (l.reg x.c) with
 |none => rw [q] at h; cases h
 |some v => rw [q] at h; cases h; rfl
theorem loop_trace {P : Pg} : ∀ g k at_ l s, s.trace.length ≤ 500 → (loop P g k at_ l s).cm.trace.length ≤ 500 := by
 intro g
 induction g with
 |zero => intro k at_ l s h; exact h
 |succ g ih =>
  intro k at_ l s h
  unfold loop
  have hst' := step_tr_len s (P.base k + at_) h
  generalize P.fet k at_ = x at *
  generalize s.step (P.base k + at_) = s1 at *
  split
  ·exact h
  split
  ·exact hst'
  split
  ·exact ih _ _ _ _ hst'
  split
  ·exact ih _ _ _ _ hst'
  split
  ·have h1 := ih x.n 0 (newLc P x.n l.gives) s1 hst'
   generalize loop P g x.n 0 (newLc P x.n l.gives) s1 = r at *
   cases r with
   |ret v s2 => exact ih _ _ _ _ h1
   |stop e s2 => exact h1
  ·cases hp : plainOp x l s1 with
   |inl ls =>
    obtain ⟨l2, s2⟩ := ls
    exact ih _ _ _ _ (by rw [plainOp_trace hp]; exact hst')
   |inr e => exact hst'
theorem midT_app {B pm : Nat} {bv lv : Value} {T pc pl par : Nat} {lo : Lc} {s2 : Cm} {sv1 tv1 sv tv : Value} {w2 w3 wl w7 : World} {tr : List Nat} {q g7 c7 n : Nat} (hM : MacAt B w3 pm [bv, lv, tv1] T s2 sv1) (hT : TrAt B w3 pm sv1 tv1 tr) (hC : CallAt (KTr tv1) w3 pm sv1 pc pl par lo) (hF : Fr2 ([pm] ++ [pc, pl]) sv tv w2 sv1 tv1 w3)
  (hc : s2.cells.length = 16) (hst : s2.trace = tr ++ [q]) (hb : Below w3.heap.size w3 wl) (hn : n = tr.length) (ho : w7.ownsRow B 3 1 (.slice (some ⟨g7, 0, none⟩) (n + 1) c7) (n + 1) (nats tr ++ [.int .i64 (q : Int)])) (hg : wl.grownBy w7 tv1.ownBlock) (hat : tv1.ownBlock = some g7 ∨ g7 = wl.heap.size) :
  MidT B pm bv lv T pc pl par lo s2 sv1 sv tv w2 (w7.setCell ⟨pm, 21, none⟩ (.slice (some ⟨g7, 0, none⟩) (n + 1) c7)) ∧ (∃ y, w7.cell? ⟨pm, 21, none⟩ = some y) ∧ w7.frozen? ⟨pm, 21, none⟩ = false := by
 have hf : Fr [] tv1 w3 (.slice (some ⟨g7, 0, none⟩) (n + 1) c7) w7 := (Fr.below hb).trans (Fr.app hg (by
  rcases hat with h | h
  ·exact .inl h.symm
  ·exact .inr (by rw [h]; rfl)))
 have hM7 := hM.keepT hT hf
 have hlt := hM.blk.lt
 have hne : (Value.slice (some ⟨g7, 0, none⟩) (n + 1) c7).ownBlock ≠ some pm := hf.ne hlt hT.ne
 have hsd : Said w7 B (.slice (some ⟨g7, 0, none⟩) (n + 1) c7) s2.trace := by
  unfold Said
  rw [hst, List.length_append, ← hn]
  have e : nats (tr ++ [q]) = nats tr ++ [.int .i64 (q : Int)] := by simp [nats]
  rw [e]; exact ho
 have hf2 : Fr2 [pm] sv1 tv1 w3 sv1 (.slice (some ⟨g7, 0, none⟩) (n + 1) c7) w7 := (Fr2.of2 hf sv1).mono (by simp)
 refine ⟨⟨_, hM7.trace hc _, ⟨hsd.set hne _, hne, fun k hk => hf.ne (hM.said.lt hk).2 (hT.st k hk)⟩, (hC.keep2 hf2).other _ _, (hF.trans (hf2.mono (by simp))).setIn (by simp) _⟩, ⟨_, (hM7.rest hc).2.2⟩, hM7.blk.frozen 21⟩
set_option maxHeartbeats 16000000 in
theorem brun_any (W1 : World) (B pm bb bo bcap lb lc bn ln : Nat) (b : List Nat) (l : List Sec) (fs : List Mf) (hr : readI b = some (l, fs)) (hbl : b.length ≤ 1048576) (hbn : bn = b.length) (hln : ln = l.length)
  (hcs : CsC W1 (.slice (some ⟨bb, bo, none⟩) bn bcap) b) (hls : W1.ownsRow 0 87 4 (.slice (some ⟨lb, 0, none⟩) l.length lc) l.length (secCells l)) :
  ∀ g (w : World) (T : Nat) (s : Cm) (sv tv : Value) (k ib off n icap : Nat) (inp : List Nat), s.left < g → k < ln → StB W1 pm bb w sv tv → StB W1 pm lb w sv tv → MacAt B w pm [.slice (some ⟨bb, bo, none⟩) bn bcap, .slice (some ⟨lb, 0, none⟩) ln lc, tv] T s sv → TrAt B w pm sv tv s.trace → CmOk s →
   SrcAt w ib off n icap inp → Small inp → (imgPg b l).par k ≤ n → s.said.length + s.left ≤ T → T ≤ 300000 → s.trace.length ≤ 500 →
  Calls Tryd.prog 95 #[.pointer (some ⟨pm, 0, none⟩), .int .i64 (k : Int), .slice (some ⟨ib, off, none⟩) n icap] w
   (RunPost2 B pm (.slice (some ⟨bb, bo, none⟩) bn bcap) (.slice (some ⟨lb, 0, none⟩) ln lc) T sv tv (loop (imgPg b l) g k 0 (newLc (imgPg b l) k inp) s) w) := by
 obtain ⟨hP, hI⟩ := imgPg_ok hr
 have hCODE := fun k hk => img_code hr (k := k) hk
 generalize hPP : imgPg b l = P at *
 obtain ⟨i0, hi, hz0, hz1, hz2⟩ := info_parts info_int
 have HPar : Hid (∀ k, P.par k = (secD l k).par ∧ P.slo k = (secD l k).slo ∧ P.base k = (secD l k).beg) := Lib.hid (fun k => by rw [← hPP]; exact ⟨rfl, rfl, rfl⟩)
 obtain ⟨bv, hbv⟩ : ∃ bv : Value, bv = .slice (some ⟨bb, bo, none⟩) bn bcap := ⟨_, rfl⟩
 obtain ⟨lv, hlv⟩ : ∃ lv : Value, lv = .slice (some ⟨lb, 0, none⟩) ln lc := ⟨_, rfl⟩
 have HBV := Lib.hid hbv; have HLV := Lib.hid hlv
 rw [← hbv, ← hlv]
 have HP := Lib.hid hP; have HI := Lib.hid hI; have HCODE := Lib.hid hCODE; have HCS := Lib.hid hcs; have HLS := Lib.hid hls; have HLNN := Lib.hid hln; have HBN := Lib.hid hbn
 clear hP hI hCODE hcs hls hr hPP hbv hlv
 intro g
 induction g using Nat.strongRecOn with
 |_ g ih =>
 intro w T s sv tv k ib off n icap inp hg hk hSB hSL hM hTR hs hsrc hin hpar hsd hT htl
 obtain ⟨sc, hsk, hsd0, hse, hcl⟩ := HCODE.out k (by omega)
 obtain ⟨hp1, hp2, hp3⟩ := HPar.out k
 rw [hsd0] at hp1 hp2 hp3
 obtain ⟨par, slo, beg, siz⟩ := sc
 simp only at hp1 hp2 hp3 hse hcl
 have hslo64 : slo ≤ 64 := by rw [← hp2]; exact HP.out.slo k (by omega)
 rw [hp1] at hpar
 have HSECS := Lib.hid (fun (W : World) (he : W.heap[lb]? = W1.heap[lb]?) => secs_at HLS.out he hsk)
 obtain ⟨ca, cc, hcode, hslice⟩ := slice_at HCS.out (lo := beg) (n := siz) (by omega)
 obtain ⟨cs, hcs⟩ : ∃ cs, cs = Sec.code b ⟨par, slo, beg, siz⟩ := ⟨_, rfl⟩
 have HCODE2 : Hid (∀ W : World, W.heap[bb]? = W1.heap[bb]? → CsC W (.slice ca siz cc) cs) := Lib.hid (by rw [hcs]; exact hcode)
 have HCL : Hid (cs.length = siz) := Lib.hid (by rw [hcs]; exact hcl)
 have HIK : Hid (∀ p, P.good k p → ∃ n, oneN cs p = some ((P.fet k p).mi, n) ∧ P.nxt k p = p + n ∧ p + n ≤ siz ∧ p < siz) := Lib.hid (fun p hp => by
  obtain ⟨n, h1, h2, h3, h4⟩ := HI.out k p (by omega) hp
  rw [hsd0, ← hcs] at h1 h3 h4
  rw [HCL.out] at h3 h4
  exact ⟨n, h1, h2, h3, h4⟩)
 have hsl2 : ∀ w' : World, (Instr.slice 22 bv (some (.int .i64 (beg : Int))) (some (.int .i64 ((beg : Int) + siz))) none).run Tryd.prog w' = .ok (.slice ca siz cc) w' := fun w' => by
  rw [HBV.out]; exact hslice w' _ _ rfl (by omega)
 obtain ⟨R, hR⟩ : ∃ R, loop P g k 0 (newLc P k inp) s = R := ⟨_, rfl⟩
 rw [hR]
 have HNC : Hid (∀ w', Below w.heap.size w w' → Calls Tryd.prog 105 #[.pointer (some ⟨pm, 0, none⟩), .int .i64 (par : Int), .int .i64 (slo : Int), .slice (some ⟨ib, off, none⟩) n icap] w' (NewPost pm par slo inp w')) :=
  Lib.hid fun w' hb => newCall_any w' pm par slo ib off n icap inp (hsrc.below hb) hpar hslo64
 unfold NewPost at HNC
 have k0 : (0 : Int) ≤ k := by omega
 have k1 : (k : Int) < ln := by omega
 obtain ⟨m19, m20, m21⟩ := hM.rest hs.cells
 rw [HLV.out] at m20
 obtain ⟨c0, c1, c2, c3⟩ := HSECS.out w hSL.same
 have hpmlt := hM.blk.lt
 have hge := hM.ge
 have HR := Lib.hid hR; have HM := Lib.hid hM; have HTR := Lib.hid hTR; have HS := Lib.hid hs; have HIH := Lib.hid ih; have HSRC := Lib.hid hsrc; have HIN := Lib.hid hin; have HSD := Lib.hid hsd; have HLEFT := Lib.hid hg
 have HSB := Lib.hid hSB; have HSL := Lib.hid hSL; have HTL := Lib.hid htl
 have HP1 := Lib.hid hp1; have HP2 := Lib.hid hp2; have HP3 := Lib.hid hp3
 have hss : IntKind.i64.wrap ((beg : Int) + siz) = (beg : Int) + siz := IntWalk.i64_in _ (by omega)
 have HSE := Lib.hid hse
 clear hR hM hTR hs ih hsrc hin hsd hg hSB hSL htl hp1 hp2 hp3 hcs hcl hsd0 hsk hcode hslice hln hbn
 go_enter Tryd.func95, Tryd.ntmps95
 go_wp2_with (fail)
 generalize hwb : w.alloc _ = wb
 have hBb : Blk wb w.heap.size [.int .i64 (par : Int), .int .i64 (slo : Int), .int .i64 (beg : Int), .int .i64 (siz : Int)] := by rw [← hwb]; exact Blk.new _ _ _
 have hbb : Below w.heap.size w wb := by rw [← hwb]; exact below1 _ _
 have hsb : wb.heap.size = w.heap.size + 1 := by rw [← hwb]; simp
 have y19 : ∀ m, (wb.drewN m).cell? ⟨pm, 19, none⟩ = some bv := fun _ => cellB hbb m19
 have z0 : ∀ m, (wb.drewN m).cell? ⟨w.heap.size, 0, none⟩ = some (.int .i64 (par : Int)) := fun m => by rw [(hBb.drewN m).cell]; rfl
 have z1 : ∀ m, (wb.drewN m).cell? ⟨w.heap.size, 1, none⟩ = some (.int .i64 (slo : Int)) := fun m => by rw [(hBb.drewN m).cell]; rfl
 have z2 : ∀ m, (wb.drewN m).cell? ⟨w.heap.size, 2, none⟩ = some (.int .i64 (beg : Int)) := fun m => by rw [(hBb.drewN m).cell]; rfl
 have z3 : ∀ m, (wb.drewN m).cell? ⟨w.heap.size, 3, none⟩ = some (.int .i64 (siz : Int)) := fun m => by rw [(hBb.drewN m).cell]; rfl
 have HBB := Lib.hid (fun m => belowDrewN hbb m)
 have HBX := Lib.hid (fun m => hBb.drewN m)
 have HSX : Hid (∀ m, (wb.drewN m).heap.size = w.heap.size + 1) := Lib.hid (fun m => hsb)
 clear hwb hBb hbb hsb c0 c1 c2 c3 m19 m20 m21
 go_quiet (fail)
 have x0 := z0 nq; have x1 := z1 nq
 have HBB1 := Lib.hid (HBB.out nq); have HBX1 := Lib.hid (HBX.out nq); have HSX1 := Lib.hid (HSX.out nq)
 clear y19 z0 z1 z2 z3 HBB HBX HSX
 generalize wb.drewN nq = wc at *
 have x0' : wc.drew.cell? ⟨w.heap.size, 0, none⟩ = some (.int .i64 (par : Int)) := x0
 have x1' : wc.drew.cell? ⟨w.heap.size, 1, none⟩ = some (.int .i64 (slo : Int)) := x1
 go_wp2_with (fail)
 go_still_tail 8, (by kernel_rfl)
 change wpList _ _ _ _ _ wc.drew
 have HBD := Lib.hid HBB1.out.drew
 have HBXD := Lib.hid HBX1.out.drew
 have hszd : wc.drew.heap.size = w.heap.size + 1 := HSX1.out
 clear x0 x1 x0' x1' HBB1 HBX1 HSX1
 generalize wc.drew = wd at *
 go_wp2_with (fail)
 go_at_call 105
 refine (HNC.out _ HBD.out).mono ?_
 rintro e w2 ⟨pc, pl, rfl, hpc, hpl, hb2, hcall⟩
 have hw2 : Below w.heap.size w w2 := HBD.out.trans (hb2.mono (by omega))
 have hsvl : ∀ k, sv.ownBlock = some k → k < w.heap.size := fun k hk => (HM.out.said.lt hk).2
 have htvl : ∀ k, tv.ownBlock = some k → k < w.heap.size := fun k hk => (HTR.out.row.lt hk).2
 have hcall2 := hcall (KTr tv) sv (by omega) (fun k hk => by have := hsvl k hk; omega) (fun k hk e => by have := htvl k e; omega)
 have hsz2 : w.heap.size + 1 ≤ w2.heap.size := by have := hb2.size; omega
 have HW2 := Lib.hid hw2
 have HREL0 : Hid (RunRel2 P R B pm bv lv T k pc pl par slo sv tv w2 g (.int .i64 0) w2) := by
  apply Lib.hid
  refine ⟨g, 0, _, s, sv, tv, Nat.le_refl _, rfl, HP.out.start k (by have := HLNN.out; omega), HR.out, HLEFT.out, HM.out.below hw2, HTR.out.below hw2, ?_, ?_, HS.out, Fr2.refl _ _ _ _, HSD.out, HTL.out⟩
  ·unfold newLc; rw [HP2.out]; exact hcall2
  ·rw [← HP1.out, ← HP2.out]; exact newLc_ok _ _ _ (by rw [HP1.out, HSRC.out.len]; exact hpar) HIN.out
 have HXB := Lib.hid (HBXD.out.below (hb2.mono (Nat.le_refl _)))
 have hpc1 : w.heap.size + 1 ≤ pc := by omega
 have hpl1 : w.heap.size + 1 ≤ pl := by omega
 have HFR : Hid (∀ sv' tv' W, Fr2 ([pm] ++ [pc, pl]) sv tv w2 sv' tv' W → Blk W w.heap.size [.int .i64 (par : Int), .int .i64 (slo : Int), .int .i64 (beg : Int), .int .i64 (siz : Int)] ∧ StB W1 pm bb W sv' tv' ∧ StB W1 pm lb W sv' tv' ∧ w2.heap.size ≤ W.heap.size) := by
  apply Lib.hid
  intro sv' tv' W hF
  refine ⟨HXB.out.same (hF.block _ (by omega) (by simp; omega) (fun e => by have := hsvl _ e; omega) (fun e => by have := htvl _ e; omega)), ?_, ?_, hF.size⟩
  ·exact (HSB.out.keep (Fr2.below hw2)).keep3 hF (by have := HSB.out.lt; omega) (by have := HSB.out.lt; omega)
  ·exact (HSL.out.keep (Fr2.below hw2)).keep3 hF (by have := HSL.out.lt; omega) (by have := HSL.out.lt; omega)
 clear hb2 hw2 hcall hcall2 hsvl htvl HNC HS HR HLEFT HBD HBXD hszd HXB HM HTR hpc hpl
 go_wp2_with (fail)
 go_loopw [10] (fun at_ wr => RunRel2 P R B pm bv lv T k pc pl par slo sv tv w2 g at_ wr) (fun _ wr => leftOf T pm wr)
 case atStart => exact HREL0.out
 case round =>
  obtain ⟨g1, a, lo, s1, sv1, tv1, hg1, rfl, ha, hR1, hlt, hM1, hT1, hC1, hl1, hs1, hF1, hsd1, htl1⟩ := hrel
  obtain ⟨wo, rfl⟩ : ∃ wo : World, wo = wr := ⟨_, rfl⟩
  cases g1 with
  |zero => omega
  |succ g1 =>
  obtain ⟨hcl, t0, t1, t2, tf⟩ := macCells hM1 hs1.cells
  by_cases h0 : s1.left = 0
  ·have hR0 : R = .stop 3 s1 := by rw [← hR1]; unfold loop; rw [if_pos h0]
   rw [h0] at t1
   have HT := Lib.hid (tick_no wo pm T t0 (by simpa using t1))
   have HE := Lib.hid (fun n => (runPost2_of (s := s1) HW2.out (hF1.drewN n) (by omega) (by omega) (hM1.drewN n) (hT1.below (belowDr (Below.refl _ _) n))).2 3)
   clear hcl t0 t1 t2 tf hR1 hM1 hC1 hl1 hs1 hF1 hT1
   go_wp2_with (fail)
   go_at_call 106
   refine HT.out.mono ?_
   rintro e _ ⟨rfl, n', rfl⟩
   go_wp2_with (fail)
   rw [hR0]
   exact ⟨rfl, HE.out n'⟩
  have hleft := hM1.left
  have HT := Lib.hid (tick_yes wo pm T (T - s1.left) (by omega) (by omega) t0 t1 (tf 1))
  have HM1 := Lib.hid hM1; have HT1 := Lib.hid hT1; have HC1 := Lib.hid hC1; have HL1 := Lib.hid hl1; have HS1 := Lib.hid hs1; have HF1 := Lib.hid hF1; have HR1 := Lib.hid hR1; have HSD1 := Lib.hid hsd1; have HLT := Lib.hid hlt; have HTL1 := Lib.hid htl1
  clear hcl t0 t1 t2 tf hM1 hT1 hC1 hl1 hs1 hF1 hR1 hsd1 hlt htl1
  have hkl : k < l.length := by rw [← HLNN.out]; exact hk
  obtain ⟨nx, hone, hnxt0, hansz, hasz⟩ := HIK.out a ha
  obtain ⟨X, hX⟩ : ∃ X, P.fet k a = X := ⟨_, rfl⟩
  have hok := HP.out.ins k a hkl ha
  have hjmp := HP.out.jump k a hkl ha
  have hnxt := HP.out.next k a hkl ha
  rw [HP1.out, HP2.out, hX] at hok
  rw [hX] at hjmp hnxt hone
  rw [hnxt0] at hnxt
  have hR2 := HR1.out
  unfold loop at hR2
  rw [if_neg h0, hX, hnxt0] at hR2
  rw [HP3.out] at hR2
  have ha0 : (0 : Int) ≤ a := by omega
  obtain ⟨op, xa, xb, xc, xn⟩ := X
  have hn24 := oneN_size hone
  have HR2 := Lib.hid hR2; have HOK := Lib.hid hok; have HJ := Lib.hid hjmp; have HNX := Lib.hid hnxt; have HONE := Lib.hid hone
  have ho1 := hok.op; have hxa8 := hok.a
  simp only [] at ho1 hxa8
  have HAS := Lib.hid hasz
  have HNN := Lib.hid hn24
  clear hX hR2 hok hjmp hnxt hnxt0 hone HR1 hn24
  go_wp2_with (fail)
  go_at_call 106
  refine HT.out.mono ?_
  rintro e w3 ⟨rfl, n', hw3⟩
  have hM3 : MacAt B w3 pm [bv, lv, tv1] T (s1.step (beg + a)) sv1 := by rw [hw3]; exact (HM1.out.drewN n').tick h0 _
  have hT3 : TrAt B w3 pm sv1 tv1 s1.trace := by rw [hw3]; exact (HT1.out.below (belowDr (Below.refl _ _) n')).set HT1.out.ne _
  have hC3 : CallAt (KTr tv1) w3 pm sv1 pc pl par lo := by rw [hw3]; exact (HC1.out.drewN n').other _ _
  have hF3 : Fr2 ([pm] ++ [pc, pl]) sv tv w2 sv1 tv1 w3 := by rw [hw3]; exact (HF1.out.drewN n').setIn (by simp) _
  have hs3 := HS1.out.step (beg + a)
  have hl3 : (s1.step (beg + a)).left + 1 = s1.left := by show s1.left - 1 + 1 = _; omega
  have hsd3 : (s1.step (beg + a)).said.length + (s1.step (beg + a)).left + 1 ≤ T := by
   have := HSD1.out
   rw [show (s1.step (beg + a)).said = s1.said from rfl]; omega
  have hst := step_trace s1 (beg + a)
  have HR3 := HR2.out
  have HL := Lib.hid (leftOf_at HM1.out)
  generalize s1.step (beg + a) = s2 at *
  have htl2 : s2.trace.length ≤ 500 := by
   rw [hst]; have := HTL1.out
   split
   ·rw [List.length_append]; show s1.trace.length + 1 ≤ 500; omega
   ·exact this
  have HM3 := Lib.hid hM3; have HT3 := Lib.hid hT3; have HC3 := Lib.hid hC3; have HF3 := Lib.hid hF3; have HS3 := Lib.hid hs3; have HL3 := Lib.hid hl3; have HSD3 := Lib.hid hsd3; have HR4 := Lib.hid HR3
  have HST := Lib.hid hst; have HTL2 := Lib.hid htl2
  clear hw3 hM3 hT3 hC3 hF3 hs3 hl3 hsd3 HR3 HR2 hst htl2
  obtain ⟨ta, tc, htv⟩ := HT3.out.form
  obtain ⟨tl, htln⟩ : ∃ tl, tl = s1.trace.length := ⟨_, rfl⟩
  rw [← htln] at htv
  subst htv
  obtain ⟨_, _, m21⟩ := HM3.out.rest HS3.out.cells
  have hXB := (HFR.out _ _ _ HF3.out).1
  have x2 : w3.cell? ⟨w.heap.size, 2, none⟩ = some (.int .i64 (beg : Int)) := by rw [hXB.cell]; rfl
  have HTN := Lib.hid htln
  have hkl' : tl ≤ 500 := by have := HTL1.out; omega
  clear hXB htln hkl
  go_upto_if 50 with (fail)
  go_cut [10] from 41 to 115 (fun av wx => av = .int .i64 (a : Int) ∧ Hid (MidT B pm bv lv T pc pl par lo s2 sv1 sv tv w2 wx))
  case first =>
   by_cases hl5 : tl < 500
   ·have g5 : (tl : Int) < 500 := by omega
    have HS2 : Hid (s2.trace = s1.trace ++ [beg + a]) := Lib.hid (by rw [HST.out, if_pos (by rw [← HTN.out]; exact hl5)])
    have sP : IntKind.i64.wrap ((beg : Int) + a) = (((beg + a : Nat)) : Int) := by have := HSE.out; have := HAS.out; have := HBN.out; rw [IntWalk.i64_in _ (by omega)]; omega
    have HRW : Hid (w3.ownsRow B 3 1 (.slice ta tl tc) tl (nats s1.trace)) := Lib.hid (by have := HT3.out.row; unfold Said at this; rw [← HTN.out] at this; exact this)
    have hBle : B ≤ w3.heap.size := by have := HM3.out.blk.lt; omega
    clear hl5
    go_wp2_with (fail)
    refine wp_region_tree (fun W => W.cell? ⟨pm, 21, none⟩ = some (.slice ta tl tc) ∧ W.cell? ⟨w.heap.size, 2, none⟩ = some (.int .i64 (beg : Int))) [(0, false), (1, false), (2, false), (3, false), (4, true), (5, false), (6, true), (7, false), (8, false)] (.alt 9 (.alt 10 (.alt 11 (.alt 12 (.alt 13 .fin .none) .none) .none) .none) .none) 10 (by kernel_rfl) (by kernel_rfl) (fun d v c a w h => by cases d <;> exact h) (⟨m21, x2⟩) ?_
    simp only [pickO, List.map_cons, List.map_nil, List.getD_cons_zero, List.getD_cons_succ]
    refine heldO_stepY (v := ?_) rfl ?_ ?_
    rotate_left
    ·intro W
     go_simp
     try rfl
    simp only [Act.put, List.setIfInBounds_toArray, List.set_cons_zero, List.set_cons_succ]
    refine heldO_stepY (v := ?_) rfl ?_ ?_
    rotate_left
    ·intro W
     go_simp
     try rfl
    simp only [Act.put, List.setIfInBounds_toArray, List.set_cons_zero, List.set_cons_succ]
    refine heldO_stepY (v := ?_) rfl ?_ ?_
    rotate_left
    ·intro W
     go_simp
     try rfl
    simp only [Act.put, List.setIfInBounds_toArray, List.set_cons_zero, List.set_cons_succ]
    refine heldO_stepY (v := ?_) rfl ?_ ?_
    rotate_left
    ·intro W
     go_simp
     try rfl
    simp only [Act.put, List.setIfInBounds_toArray, List.set_cons_zero, List.set_cons_succ]
    refine heldO_step (v := ?_) rfl ?_ ?_
    rotate_left
    ·intro W hS
     obtain ⟨k0, k1⟩ := hS
     go_simp
     try rfl
    simp only [Act.put, List.setIfInBounds_toArray, List.set_cons_zero, List.set_cons_succ]
    refine heldO_stepY (v := ?_) rfl ?_ ?_
    rotate_left
    ·intro W
     go_simp
     try rfl
    simp only [Act.put, List.setIfInBounds_toArray, List.set_cons_zero, List.set_cons_succ]
    refine heldO_step (v := ?_) rfl ?_ ?_
    rotate_left
    ·intro W hS
     obtain ⟨k0, k1⟩ := hS
     go_simp
     try rfl
    simp only [Act.put, List.setIfInBounds_toArray, List.set_cons_zero, List.set_cons_succ]
    refine heldO_stepY (v := ?_) rfl ?_ ?_
    rotate_left
    ·intro W
     go_simp
     try rfl
    simp only [Act.put, List.setIfInBounds_toArray, List.set_cons_zero, List.set_cons_succ]
    refine heldO_stepY (v := ?_) rfl ?_ ?_
    rotate_left
    ·intro W
     go_simp
     try rfl
    simp only [Act.put, List.setIfInBounds_toArray, List.set_cons_zero, List.set_cons_succ]
    refine heldO_nil ?_
    have hb9 : Below w3.heap.size w3 (w3.drew.alloc (.cells #[.int .i64 ((beg + a : Nat) : Int)] 3)) := (Below.refl _ _).drew.alloc (by simp) _
    refine treeO_alt rfl rfl ?_ treeO_none
    intro K hK
    go_simp
    refine hK _ _ (fun _ => ⟨cellB (below1 w3.drew _) m21, cellB (below1 w3.drew _) x2⟩) ?_
    clear hK K
    refine treeO_alt rfl rfl ?_ treeO_none
    intro K hK
    refine lies_wp rfl ?_
    refine step_append_lies (E := False) _ rfl _ _ 26 (by rfl) B 3 i0 (.int .i64 0) 1 8 Tryd.underlying26 hi hz0 hz1 hz2 rfl (by decide) _ tl (nats s1.trace) (by rfl) (ownsRow_below HRW.out hb9) ⟨w3.heap.size, 0, none⟩ 1 1 [.int .i64 ((beg + a : Nat) : Int)] (by rfl) rfl (World.news_of_block (heap_alloc_new w3.drew _)) (by simp [Value.oneCell']) (by decide) (by unfold maxLen; omega) (by omega) (by simp; omega) _ rfl ?_
    intro g7 c7 w7 ho7 hg7 hat7 _
    obtain ⟨hmid, ⟨y, hy⟩, hfz⟩ := midT_app HM3.out HT3.out HC3.out HF3.out HS3.out.cells HS2.out hb9 HTN.out ho7 hg7 (by simpa using hat7)
    have HMID := Lib.hid hmid
    refine hK _ _ (fun h => absurd h (by decide)) ?_
    clear hK K ho7 hg7 hat7 hmid hb9
    refine treeO_alt rfl rfl ?_ treeO_none
    intro K hK
    go_simp
    refine hK _ _ (fun h => absurd h (by decide)) ?_
    clear hK K
    refine treeO_alt rfl rfl ?_ treeO_none
    intro K hK
    go_simp
    refine hK _ _ (fun h => absurd h (by decide)) ?_
    clear hK K
    refine treeO_alt rfl rfl ?_ treeO_none
    intro K hK
    go_simp
    refine hK _ _ (fun h => absurd h (by decide)) ?_
    clear hK K
    refine treeO_fin ?_
    go_wp2_with (fail)
    go_meet
    exact ⟨rfl, HMID⟩
   ·have g5 : decide ((tl : Int) < 500) = false := by simp; omega
    have g6 : ¬ ((tl : Int) < 500) := by omega
    have g7 : (500 : Int) ≤ tl := by omega
    have HS2 : Hid (s2.trace = s1.trace) := Lib.hid (by rw [HST.out, if_neg (by rw [← HTN.out]; exact hl5)])
    have HMID : Hid (MidT B pm bv lv T pc pl par lo s2 sv1 sv tv w2 w3) := Lib.hid ⟨_, HM3.out, by rw [HS2.out]; exact HT3.out, HC3.out, HF3.out⟩
    clear hl5
    go_wp2_with (fail)
    go_meet
    exact ⟨rfl, HMID⟩
  case rest =>
   obtain ⟨rfl, HMID⟩ := hcut
   obtain ⟨tv3, hM5, hT5, hC5, hF5⟩ := HMID.out
   obtain ⟨hXB, hSb, hSl, hszz⟩ := HFR.out _ _ _ hF5
   have HDE := Lib.hid (idec_any wc (.slice ca siz cc) cs a (HCODE2.out wc hSb.same) (by rw [HCL.out]; exact HAS.out) (by rw [HCL.out]; have := HBN.out; have := HSE.out; omega))
   have HM5 := Lib.hid hM5; have HT5 := Lib.hid hT5; have HC5 := Lib.hid hC5; have HF5 := Lib.hid hF5
   clear hM5 hT5 hC5 hF5 hXB hSb hSl HMID HM3 HT3 HC3 HF3
   go_wp2_with (fail)
   go_at_call 119
   refine HDE.out.mono ?_
   rintro e w3 ⟨zo, za, zb, zc, zz, n6, rfl, hone6, hb6⟩
   have hall : zo = (op : Int) ∧ za = (xa : Int) ∧ zb = (xb : Int) ∧ zc = (xc : Int) ∧ zz = (xn : Int) ∧ n6 = nx := by
    rcases hone6 with h | ⟨h, _⟩
    ·rw [HONE.out] at h
     injection h with h; injection h with h1 h2
     simp only [Ni.mi, Mi.mk.injEq] at h1
     obtain ⟨q1, q2, q3, q4, q5⟩ := h1
     exact ⟨q1.symm, q2.symm, q3.symm, q4.symm, q5.symm, h2.symm⟩
    ·rw [HONE.out] at h; cases h
   obtain ⟨rfl, rfl, rfl, rfl, rfl, rfl⟩ := hall
   have HM3 := Lib.hid (HM5.out.below hb6); have HT3 := Lib.hid (HT5.out.below hb6); have HC3 := Lib.hid (HC5.out.below hb6); have HF3 := Lib.hid (HF5.out.trans (Fr2.below hb6))
   have hsz3 : w2.heap.size ≤ w3.heap.size := Nat.le_trans hszz hb6.size
   have hBle : B ≤ w3.heap.size := by have := HM3.out.blk.lt; omega
   have sA : IntKind.i64.wrap ((a : Int) + n6) = (((a + n6 : Nat)) : Int) := by have := HSE.out; have := HBN.out; rw [IntWalk.i64_in _ (by omega)]; omega
   clear hone6 hb6 HM5 HT5 HC5 HF5 HDE hszz
   by_cases h22 : op = 22
   ·subst h22
    have hR := HR4.out
    rw [if_pos rfl] at hR
    have HE := Lib.hid (fun w4 (hb : Below w3.heap.size w3 w4) => (runPost2_of (s := s2) HW2.out (HF3.out.trans (Fr2.below hb)) (by omega) (by omega) (HM3.out.below hb) (HT3.out.below hb)).1 (lo.reg xa))
    have HRR := Lib.hid hR
    clear hR HR4
    go_wp2_with (fail)
    generalize hw4 : w3.alloc _ = w4
    have x0 := boxed0 hw4
    obtain ⟨hb4, x1, x2, x3, x4⟩ := boxed hw4
    obtain ⟨hreg, _, _, _⟩ := callCells (HC3.out.below hb4) HL1.out.regs
    have y1 : ∀ m, (w4.drewN m).cell? ⟨w3.heap.size, 1, none⟩ = some (.int .i64 (xa : Int)) := fun _ => x1
    have ra : ∀ m, (w4.drewN m).cell? ⟨pc, 1 + xa, none⟩ = some (.int .i64 (lo.reg xa : Int)) := fun _ => hreg xa hxa8
    have a0 : (0 : Int) ≤ xa := by omega
    have a1 : (xa : Int) < 8 := by omega
    have HB4 := Lib.hid hb4
    clear hw4 x1 x2 x3 x4 hreg hb4
    go_wp2_with (fail)
    go_quiet (fail)
    go_wp2_with (fail)
    go_ret
    rw [← HRR.out]
    exact HE.out _ (belowDr HB4.out _)
   by_cases h20 : op = 20
   ·subst h20
    have hR := HR4.out
    rw [if_neg (by decide), if_pos rfl] at hR
    have HRR := Lib.hid hR
    clear hR HR4
    have hxn := HJ.out (.inl rfl)
    go_wp2_with (fail)
    generalize hw4 : w3.alloc _ = w4
    have x0 := boxed0 hw4
    obtain ⟨hb4, x1, x2, x3, x4⟩ := boxed hw4
    have HB4 := Lib.hid hb4
    clear hw4 hb4
    go_wp2_with (fail)
    go_roundw
    case rel => exact ⟨g1, xn, lo, s2, sv1, tv3, by omega, rfl, hxn, HRR.out, by have := HL3.out; have := HLT.out; omega, HM3.out.below HB4.out, HT3.out.below HB4.out, HC3.out.below HB4.out, HL1.out, HS3.out, HF3.out.trans (Fr2.below HB4.out), by have := HSD3.out; omega, HTL2.out⟩
    case measure => rw [leftOf_at (HM3.out.below HB4.out), HL.out]; have := HL3.out; omega
   by_cases h21 : op = 21
   ·subst h21
    have hR := HR4.out
    rw [if_neg (by decide), if_neg (by decide), if_pos rfl] at hR
    have HRR := Lib.hid hR
    clear hR HR4
    have hxn := HJ.out (.inr rfl)
    have hnx := HNX.out (by simp) (by simp)
    go_wp2_with (fail)
    generalize hw4 : w3.alloc _ = w4
    have x0 := boxed0 hw4
    obtain ⟨hb4, x1, x2, x3, x4⟩ := boxed hw4
    obtain ⟨hreg, _, _, _⟩ := callCells (HC3.out.below hb4) HL1.out.regs
    have y1 : ∀ m, (w4.drewN m).cell? ⟨w3.heap.size, 1, none⟩ = some (.int .i64 (xa : Int)) := fun _ => x1
    have y4 : ∀ m, (w4.drewN m).cell? ⟨w3.heap.size, 4, none⟩ = some (.int .i64 (xn : Int)) := fun _ => x4
    have ra : ∀ m, (w4.drewN m).cell? ⟨pc, 1 + xa, none⟩ = some (.int .i64 (lo.reg xa : Int)) := fun _ => hreg xa hxa8
    have a0 : (0 : Int) ≤ xa := by omega
    have a1 : (xa : Int) < 8 := by omega
    have HB4 := Lib.hid hb4
    clear hw4 x1 x2 x3 x4 hreg hb4
    go_wp2_with (fail)
    go_quiet (fail)
    have HB5 := Lib.hid (belowDr HB4.out nq)
    by_cases hz : lo.reg xa = 0
    ·have z1 : (((lo.reg xa : Nat) : Int) != 0) = false := by rw [hz]; rfl
     have HRZ := HRR.out
     rw [if_pos hz] at HRZ
     have HRZ := Lib.hid HRZ
     clear hz HRR
     go_wp2_with (fail)
     generalize w4.drewN nq = w5 at *
     go_roundw
     case rel => exact ⟨g1, a + n6, lo, s2, sv1, tv3, by omega, by go_num, hnx, HRZ.out, by have := HL3.out; have := HLT.out; omega, HM3.out.below HB5.out, HT3.out.below HB5.out, HC3.out.below HB5.out, HL1.out, HS3.out, HF3.out.trans (Fr2.below HB5.out), by have := HSD3.out; omega, HTL2.out⟩
     case measure => rw [leftOf_at (HM3.out.below HB5.out), HL.out]; have := HL3.out; omega
    ·have z1 : (((lo.reg xa : Nat) : Int) != 0) = true := by simp; omega
     have HRZ := HRR.out
     rw [if_neg hz] at HRZ
     have HRZ := Lib.hid HRZ
     clear hz HRR
     go_wp2_with (fail)
     generalize w4.drewN nq = w5 at *
     go_roundw
     case rel => exact ⟨g1, xn, lo, s2, sv1, tv3, by omega, rfl, hxn, HRZ.out, by have := HL3.out; have := HLT.out; omega, HM3.out.below HB5.out, HT3.out.below HB5.out, HC3.out.below HB5.out, HL1.out, HS3.out, HF3.out.trans (Fr2.below HB5.out), by have := HSD3.out; omega, HTL2.out⟩
     case measure => rw [leftOf_at (HM3.out.below HB5.out), HL.out]; have := HL3.out; omega
   by_cases h14 : op = 14
   ·subst h14
    have hR := HR4.out
    rw [if_neg (by decide), if_neg (by decide), if_neg (by decide), if_pos rfl] at hR
    have hnx := HNX.out (by simp) (by simp)
    have hxk : xn < k := HOK.out.call rfl
    have hxl : xn < l.length := by rw [← HLNN.out]; omega
    have hp3 : P.par xn ≤ 3 := HP.out.par xn hxl
    have hlok := loop_ok HP.out g1 xn 0 (newLc P xn lo.gives) s2 hxl (HP.out.start _ hxl) (newLc_ok _ _ _ (by rw [HL1.out.gives]; exact hp3) HL1.out.givesS) HS3.out
    have hlsd := loop_said (P := P) g1 xn 0 (newLc P xn lo.gives) s2
    have hltr := loop_trace (P := P) g1 xn 0 (newLc P xn lo.gives) s2 HTL2.out
    have hcall : ∀ w5, Below w3.heap.size w3 w5 → Calls Tryd.prog 95 #[.pointer (some ⟨pm, 0, none⟩), .int .i64 (xn : Int), .slice (some ⟨pc, 11, none⟩) 3 3] w5 (RunPost2 B pm bv lv T sv1 tv3 (loop P g1 xn 0 (newLc P xn lo.gives) s2) w5) := fun w5 hb => by
     obtain ⟨_, hSb, hSl, _⟩ := HFR.out _ _ _ HF3.out
     exact HIH.out g1 (by omega) w5 T s2 sv1 tv3 xn pc 11 3 3 lo.gives (by have := HL3.out; have := HLT.out; omega) (by omega) (hSb.keep (Fr2.below hb)) (hSl.keep (Fr2.below hb)) (HM3.out.below hb) (HT3.out.below hb) HS3.out
      ⟨HL1.out.gives, Nat.le_refl _, by omega, fun i hi => callGive (HC3.out.below hb) HL1.out.regs (by rw [HL1.out.gives]; exact hi)⟩ HL1.out.givesS hp3 (by have := HSD3.out; omega) hT HTL2.out
    obtain ⟨r, hr⟩ : ∃ r, loop P g1 xn 0 (newLc P xn lo.gives) s2 = r := ⟨_, rfl⟩
    rw [hr] at hR hlok hlsd hltr
    simp only [hr] at hcall
    have HCALL := Lib.hid hcall; have HRR := Lib.hid hR; have HLOK := Lib.hid hlok; have HLSD := Lib.hid hlsd; have HLTR := Lib.hid hltr
    clear hr hR HR4 hcall hlok hlsd hltr HIH hxk hp3
    go_wp2_with (fail)
    generalize hw4 : w3.alloc _ = w4
    have x0 := boxed0 hw4
    obtain ⟨hb4, x1, x2, x3, x4⟩ := boxed hw4
    have HB4 := Lib.hid hb4
    clear hw4 hb4 x1 x2 x3
    go_wp2_with (fail)
    refine wp_region_held (fun W => W.cell? ⟨w3.heap.size, 4, none⟩ = some (.int .i64 (xn : Int))) [(0, false), (1, false), (2, false), (3, true), (4, false), (5, false), (6, false), (7, false)] [8, 9, 10, 11] 11 (by kernel_rfl) (by kernel_rfl) (fun d v c a w h => by cases d <;> exact h) x4 ?_
    simp only [pickO, List.map_cons, List.map_nil, List.getD_cons_zero, List.getD_cons_succ]
    refine heldO_stepY (v := ?_) rfl ?_ ?_
    rotate_left
    ·intro W
     go_simp
     try rfl
    simp only [Act.put, List.setIfInBounds_toArray, List.set_cons_zero, List.set_cons_succ]
    refine heldO_stepY (v := ?_) rfl ?_ ?_
    rotate_left
    ·intro W
     go_simp
     try rfl
    simp only [Act.put, List.setIfInBounds_toArray, List.set_cons_zero, List.set_cons_succ]
    refine heldO_stepY (v := ?_) rfl ?_ ?_
    rotate_left
    ·intro W
     go_simp
     try rfl
    simp only [Act.put, List.setIfInBounds_toArray, List.set_cons_zero, List.set_cons_succ]
    refine heldO_step (v := ?_) rfl ?_ ?_
    rotate_left
    ·intro W hS
     go_simp
     try rfl
    simp only [Act.put, List.setIfInBounds_toArray, List.set_cons_zero, List.set_cons_succ]
    refine heldO_stepY (v := ?_) rfl ?_ ?_
    rotate_left
    ·intro W
     go_simp
     try rfl
    simp only [Act.put, List.setIfInBounds_toArray, List.set_cons_zero, List.set_cons_succ]
    refine heldO_stepY (v := ?_) rfl ?_ ?_
    rotate_left
    ·intro W
     go_simp
     try rfl
    simp only [Act.put, List.setIfInBounds_toArray, List.set_cons_zero, List.set_cons_succ]
    refine heldO_stepY (v := ?_) rfl ?_ ?_
    rotate_left
    ·intro W
     go_simp
     try rfl
    simp only [Act.put, List.setIfInBounds_toArray, List.set_cons_zero, List.set_cons_succ]
    refine heldO_stepY (v := ?_) rfl ?_ ?_
    rotate_left
    ·intro W
     go_simp
     try rfl
    simp only [Act.put, List.setIfInBounds_toArray, List.set_cons_zero, List.set_cons_succ]
    refine heldO_nil ?_
    refine tailO_step rfl (fun K hK => ?_)
    go_simp
    refine (HCALL.out _ HB4.out.drew).mono ?_
    rintro e w6 hpost
    obtain ⟨sv6, tv6, he6, hM6, hT6, hF6⟩ := hpost
    have hRR := HRR.out
    cases r with
    |ret v6 s6 =>
     simp only at he6
     subst he6
     have hM6 : MacAt B w6 pm [bv, lv, tv6] T s6 sv6 := hM6
     have hT6 : TrAt B w6 pm sv6 tv6 s6.trace := hT6
     have hlt3 : w3.heap.size < w4.drew.heap.size := World.block_lt_of_cell? _ _ x4
     have hne3 : w3.heap.size ≠ pm := by have := HM3.out.blk.lt; omega
     have hns3 : sv1.ownBlock ≠ some w3.heap.size := fun e => by have := (HM3.out.said.lt e).2; omega
     have hnt3 : tv3.ownBlock ≠ some w3.heap.size := fun e => by have := (HT3.out.row.lt e).2; omega
     have hF7 : Fr2 ([pm] ++ [pc, pl]) sv tv w2 sv6 tv6 w6 := HF3.out.trans ((Fr2.below HB4.out.drew).trans (hF6.mono (fun x hx => List.mem_append_left _ hx)))
     have r4 : w6.cell? ⟨w3.heap.size, 4, none⟩ = some (.int .i64 (xn : Int)) := by
      rw [World.cell?_of_block (w := w4.drew) (a := ⟨w3.heap.size, 4, none⟩) (hF6.block _ hlt3 (by simpa using hne3) hns3 hnt3)]; exact x4
     have hC6 := (HC3.out.below HB4.out.drew).keep2 hF6
     have u1 := callRes hC6 HL1.out.regs HL1.out.gives
     have u2 := (callCells hC6 HL1.out.regs).2.2.2 14
     have HM6 := Lib.hid hM6; have HC6 := Lib.hid hC6; have HF7 := Lib.hid hF7; have HRR2 := Lib.hid hRR; have HT6 := Lib.hid hT6
     refine hK _ _ (.inr r4) ?_
     clear hK K hM6 hF6 hF7 hC6 hRR HRR HCALL x4 hlt3 hne3 hns3 hnt3 hT6
     refine tailO_step rfl (fun K hK => ?_)
     go_simp
     refine hK _ _ (.inr r4) ?_
     clear hK K
     refine tailO_step rfl (fun K hK => ?_)
     go_simp
     refine hK _ _ (.inr r4) ?_
     clear hK K r4
     refine tailO_step rfl (fun K hK => ?_)
     go_simp
     refine hK _ _ (.inl rfl) (tailO_nil ?_)
     clear hK K u1 u2
     obtain ⟨ho6, hv6, hle6⟩ := HLOK.out
     have hv6' : v6 < 256 := hv6
     have hle6' : s6.left ≤ s2.left := hle6
     have hsd6 : s6.said.length + s6.left ≤ s2.said.length + s2.left := HLSD.out
     have ho6' : CmOk s6 := ho6
     have htl6 : s6.trace.length ≤ 500 := HLTR.out
     have HM7 := Lib.hid (HM6.out.other (a := ⟨pc, 14, none⟩) HC6.out.cm HC6.out.sc (.int .i64 (v6 : Int)))
     have HT7 := Lib.hid (HT6.out.set (a := ⟨pc, 14, none⟩) HC6.out.kc (.int .i64 (v6 : Int)))
     have HC7 := Lib.hid (HC6.out.setRes HL1.out.regs HL1.out.gives v6)
     have HF8 := Lib.hid (HF7.out.setIn (a := ⟨pc, 14, none⟩) (by simp) (.int .i64 (v6 : Int)))
     have HLC : Hid (LcOk par slo { lo with res := v6 }) := Lib.hid ⟨HL1.out.regs, HL1.out.regsS, HL1.out.slots, HL1.out.slotsS, HL1.out.gives, HL1.out.givesS, HL1.out.args, HL1.out.argsS, hv6'⟩
     clear HM6 HT6 HC6 HF7 HLOK HLSD HLTR ho6 hv6 hle6 hv6'
     go_wp2_with (fail)
     go_roundw
     case rel => exact ⟨g1, a + n6, { lo with res := v6 }, s6, sv6, tv6, by omega, by go_num, hnx, HRR2.out, by have := HL3.out; have := HLT.out; omega, HM7.out, HT7.out, HC7.out, HLC.out, ho6', HF8.out, by have := HSD3.out; omega, htl6⟩
     case measure => rw [leftOf_at HM7.out, HL.out]; have := HL3.out; omega
    |stop en s6 =>
     simp only at he6
     subst he6
     have hE := (runPost2_of (s := s6) HW2.out (HF3.out.trans ((Fr2.below HB4.out.drew).trans (hF6.mono (fun x hx => List.mem_append_left _ hx)))) (by omega) (by omega) hM6 hT6).2 en
     have hRR2 : Rs.stop en s6 = R := hRR
     rw [hRR2] at hE
     exact ⟨rfl, hE⟩
   have hR := HR4.out
   rw [if_neg h22, if_neg h20, if_neg h21, if_neg h14] at hR
   have HRR := Lib.hid hR
   have hnx := HNX.out h20 h22
   have e22 : ((op : Int) == 22) = false := by simp; omega
   have e20 : ((op : Int) == 20) = false := by simp; omega
   have e21 : ((op : Int) == 21) = false := by simp; omega
   have e14 : ((op : Int) == 14) = false := by simp; omega
   have HDO := Lib.hid (fun w4 (hb : Below w3.heap.size w3 w4) => do_any (K := KTr tv3) (slo := slo) w4 B pm [bv, lv, tv3] T pc pl par k ⟨op, xa, xb, xc, xn⟩ lo s2 sv1 (HM3.out.below hb) (HC3.out.below hb) HL1.out HS3.out HOK.out h14 (by simp only []; omega) (by have := HSD3.out; omega) (by have := hb.size; omega))
   simp only [Ni.val_mi] at HDO
   clear hR HR4
   go_wp2_with (fail)
   generalize hw4 : w3.alloc _ = w4
   have x0 := boxed0 hw4
   obtain ⟨hb4, x1, x2, x3, x4⟩ := boxed hw4
   have HB4 := Lib.hid hb4
   clear hw4 hb4
   go_wp2_with (fail)
   go_at_call 107
   refine (HDO.out w4 HB4.out).mono ?_
   rintro e w5 hpost
   unfold DoPost at hpost
   have hRR := HRR.out
   have hkc := HC3.out.kc
   have hkl2 := HC3.out.kl
   cases hp : plainOp ⟨op, xa, xb, xc, xn⟩ lo s2 with
   |inl ls =>
    obtain ⟨l5, s5⟩ := ls
    obtain ⟨hl5, hs5, hle5⟩ := plainOp_ok HL1.out HS3.out HOK.out hp
    have hsd5 := plainOp_said hp
    have htr5 := plainOp_trace hp
    rw [hp] at hpost hRR
    obtain ⟨rfl, sv5, hM5, hC5, hF5⟩ := hpost
    have hTr : TrAt B w5 pm sv5 tv3 s5.trace := by
     rw [htr5]
     exact (HT3.out.below HB4.out).keep hF5 (fun x hx => by
      simp at hx
      rcases hx with rfl | rfl | rfl
      ·exact HT3.out.ne
      ·exact hkc
      ·exact hkl2)
    have htl5 : s5.trace.length ≤ 500 := by rw [htr5]; exact HTL2.out
    have HRR2 := Lib.hid hRR
    have HM5 := Lib.hid hM5; have HC5 := Lib.hid hC5; have HF5 := Lib.hid (HF3.out.trans ((Fr2.below HB4.out).trans (Fr2.of1 hF5 tv3))); have HL5 := Lib.hid hl5; have HS5 := Lib.hid hs5; have HSD5 := Lib.hid hsd5; have HT5 := Lib.hid hTr; have HTL5 := Lib.hid htl5
    clear hRR hM5 hC5 hF5 hl5 hs5 hle5 hsd5 hp HRR HDO hTr htl5 htr5 hkc hkl2
    go_wp2_with (fail)
    go_roundw
    case rel => exact ⟨g1, a + n6, l5, s5, sv5, tv3, by omega, by go_num, hnx, HRR2.out, by have := HL3.out; have := HLT.out; have := HSD5.out.2; omega, HM5.out, HT5.out, HC5.out, HL5.out, HS5.out, HF5.out, by have := HSD3.out; have := HSD5.out; omega, HTL5.out⟩
    case measure => rw [leftOf_at HM5.out, HL.out]; have := HL3.out; have := HSD5.out.2; omega
   |inr en =>
    rw [hp] at hpost hRR
    obtain ⟨rfl, hM5, hF5⟩ := hpost
    have hTr : TrAt B w5 pm sv1 tv3 s2.trace := (HT3.out.below HB4.out).keep hF5 (fun x hx => by rw [List.mem_singleton.1 hx]; exact HT3.out.ne)
    have HE := Lib.hid ((runPost2_of (s := s2) HW2.out (HF3.out.trans ((Fr2.below HB4.out).trans ((Fr2.of1 hF5 tv3).mono (fun x hx => List.mem_append_left _ hx)))) (by omega) (by omega) hM5 hTr).2 en)
    have HRR2 := Lib.hid hRR
    clear hRR hM5 hF5 hp HRR HDO hTr hkc hkl2
    go_wp2_with (fail)
    rw [← HRR2.out]
    exact ⟨rfl, HE.out⟩
end Go.Proofs.YtbdbmmdnidonjaaDoor
