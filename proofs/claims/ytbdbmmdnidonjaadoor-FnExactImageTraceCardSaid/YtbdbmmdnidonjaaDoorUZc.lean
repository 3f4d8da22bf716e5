/- A run of an image in spec: l27Run.call, the walk. -/
import Derived.Test.YtbdbmmdnidonjaaDoorUZf
import Derived.Test.YtbdbmmdnidonjaaDoorUBu
import Derived.Test.YtbdbmmdnidonjaaDoorUJr
import Derived.Test.YtbdbmmdnidonjaaDoorUJf
import Derived.Test.YtbdbmmdnidonjaaDoorUJd
import Derived.Deep.AppendLies
import Derived.Deep.RegionLaw
set_option linter.unusedVariables false
set_option linter.unusedSimpArgs false
set_option maxRecDepth 100000
namespace Go.Proofs.YtbdbmmdnidonjaaDoor
open Go.RowKit
set_option maxHeartbeats 16000000 in
theorem icall_any (W1 : World) (B0 B pq pr cb bb bo bcap tb tc bn ln : Nat) (b : List Nat) (l : List Sec) (fs : List Mf) (gs : List Nat) (hr : readI b = some (l, fs)) (hbl : b.length ≤ 1048576) (hbn : bn = b.length) (hln : ln = l.length) (hll : ln ≤ 1048576)
  (hcs : CsC W1 (.slice (some ⟨bb, bo, none⟩) bn bcap) b) (htb : TabG B0 W1 (.slice (some ⟨tb, 0, none⟩) ln tc) ((secRows l).map ints) gs) :
  ∀ g (w : World) (T : Nat) (s : Cm) (sv tv : Value) (k ib off n icap : Nat) (inp : List Nat), s.left < g → k < ln → StS W1 [pq, pr, cb] (fun q => q = bb ∨ q = tb ∨ q ∈ gs) w sv tv → ImAt B w pq pr cb (.slice (some ⟨bb, bo, none⟩) bn bcap) (.slice (some ⟨tb, 0, none⟩) ln tc) none s sv tv s.trace → CmOk s →
   SrcAt w ib off n icap inp → Small inp → (imgPg b l).par k ≤ n → n ≤ 3 → s.said.length + s.left ≤ T → T ≤ 300000 → s.trace.length ≤ 500 →
  Calls Tryd.prog 93 #[.pointer (some ⟨pq, 0, none⟩), .int .i64 (k : Int), .slice (some ⟨ib, off, none⟩) n icap] w
   (ImPost B pq pr cb (.slice (some ⟨bb, bo, none⟩) bn bcap) (.slice (some ⟨tb, 0, none⟩) ln tc) sv tv (loop (imgPg b l) g k 0 (newLc (imgPg b l) k inp) s) w) := by
 obtain ⟨hP, hI⟩ := imgPg_ok hr
 have hCODE := fun k hk => img_code hr (k := k) hk
 generalize hPP : imgPg b l = P at *
 obtain ⟨i0, hi, hz0, hz1, hz2⟩ := info_parts info_int
 have hmk : ∀ (w : World) (m : Nat), m ≤ 64 → (Instr.makeSlice 26 (.int .i64 (m : Int)) (.int .i64 (m : Int))).run Tryd.prog w = .ok (.slice (some ⟨w.heap.size, 0, none⟩) m m) (w.alloc (.cells (madeCells (Value.int .i64 0).cells m) 3)) := fun w m hm => by
  have h := run_make (P := Tryd.prog) w 26 3 i0 (.int .i64 0) Tryd.underlying26 hi hz0 .i64 .i64 (m : Int) (m : Int) (by omega) (by omega) (by rw [hz2]; omega) (by omega)
  rw [hz1, Nat.mul_one] at h
  simpa using h
 have hmk8 : ∀ w : World, (Instr.makeSlice 26 (.int .i64 8) (.int .i64 8)).run Tryd.prog w = .ok (.slice (some ⟨w.heap.size, 0, none⟩) 8 8) (w.alloc (.cells (madeCells (Value.int .i64 0).cells 8) 3)) := fun w => hmk w 8 (by omega)
 have hmk3 : ∀ w : World, (Instr.makeSlice 26 (.int .i64 3) (.int .i64 3)).run Tryd.prog w = .ok (.slice (some ⟨w.heap.size, 0, none⟩) 3 3) (w.alloc (.cells (madeCells (Value.int .i64 0).cells 3) 3)) := fun w => hmk w 3 (by omega)
 have HPar : Hid (∀ k, P.par k = (secD l k).par ∧ P.slo k = (secD l k).slo ∧ P.base k = (secD l k).beg) := Lib.hid (fun k => by rw [← hPP]; exact ⟨rfl, rfl, rfl⟩)
 obtain ⟨bv, hbv⟩ : ∃ bv : Value, bv = .slice (some ⟨bb, bo, none⟩) bn bcap := ⟨_, rfl⟩
 obtain ⟨xv, hxv⟩ : ∃ xv : Value, xv = .slice (some ⟨tb, 0, none⟩) ln tc := ⟨_, rfl⟩
 have HBV := Lib.hid hbv; have HXV := Lib.hid hxv
 rw [← hbv, ← hxv]
 have hgl : gs.length = l.length := by have := htb.len; rw [List.length_map, secRows_len] at this; exact this
 have HTAB := Lib.hid (fun (W : World) (k g : Nat) (s : Sec) (h1 : l[k]? = some s) (h2 : gs[k]? = some g) (h3 : W.heap[tb]? = W1.heap[tb]?) (h4 : W.heap[g]? = W1.heap[g]?) => tabRow_at htb hln h1 h2 h3 h4)
 have HP := Lib.hid hP; have HI := Lib.hid hI; have HCODE := Lib.hid hCODE; have HCS := Lib.hid hcs; have HLNN := Lib.hid hln; have HBN := Lib.hid hbn; have HGL := Lib.hid hgl; have HMK := Lib.hid hmk
 obtain ⟨S, hS⟩ : ∃ S : Nat → Prop, S = fun q => q = bb ∨ q = tb ∨ q ∈ gs := ⟨_, rfl⟩
 rw [← hS]
 have HS : Hid (S bb ∧ S tb ∧ ∀ q, q ∈ gs → S q) := Lib.hid (by rw [hS]; exact ⟨.inl rfl, .inr (.inl rfl), fun q h => .inr (.inr h)⟩)
 clear hP hI hCODE hcs htb hln hr hPP hbv hxv hS hgl hmk hbn
 intro g
 induction g using Nat.strongRecOn with
 |_ g ih =>
 intro w T s sv tv k ib off n icap inp hg hk hST hM hs hsrc hin hpar hn3 hsd hT htl
 obtain ⟨sc, hsk, hsd0, hse, hcl⟩ := HCODE.out k (by have := HLNN.out; omega)
 obtain ⟨gk, hgk⟩ : ∃ gk, gs[k]? = some gk := ⟨_, List.getElem?_eq_getElem (by have := HGL.out; have := HLNN.out; omega)⟩
 have hgm : gk ∈ gs := List.mem_of_getElem? hgk
 obtain ⟨hp1, hp2, hp3⟩ := HPar.out k
 rw [hsd0] at hp1 hp2 hp3
 obtain ⟨par, slo, beg, siz⟩ := sc
 simp only at hp1 hp2 hp3 hse hcl
 have hslo64 : slo ≤ 64 := by rw [← hp2]; exact HP.out.slo k (by have := HLNN.out; omega)
 have hpar3 : par ≤ 3 := by rw [← hp1]; exact HP.out.par k (by have := HLNN.out; omega)
 have hbegle : beg ≤ 1048576 := by omega
 rw [hp1] at hpar
 have HROW : Hid (∀ (W : World), W.heap[tb]? = W1.heap[tb]? → W.heap[gk]? = W1.heap[gk]? → W.cell? ⟨tb, k, none⟩ = some (.slice (some ⟨gk, 0, none⟩) 4 4) ∧ W.cell? ⟨gk, 1, none⟩ = some (.int .i64 (slo : Int)) ∧ W.cell? ⟨gk, 2, none⟩ = some (.int .i64 (beg : Int)) ∧ W.cell? ⟨gk, 3, none⟩ = some (.int .i64 (siz : Int))) := Lib.hid (fun W h1 h2 => by
  obtain ⟨a1, _, a2, a3, a4⟩ := HTAB.out W k gk _ hsk hgk h1 h2
  exact ⟨a1, a2, a3, a4⟩)
 obtain ⟨ca, cc, hcode, hslice⟩ := slice_at HCS.out (lo := beg) (n := siz) (by have := HBN.out; omega)
 obtain ⟨cs, hcs⟩ : ∃ cs, cs = Sec.code b ⟨par, slo, beg, siz⟩ := ⟨_, rfl⟩
 have HCODE2 : Hid (∀ W : World, W.heap[bb]? = W1.heap[bb]? → CsC W (.slice ca siz cc) cs) := Lib.hid (by rw [hcs]; exact hcode)
 have HCL : Hid (cs.length = siz) := Lib.hid (by rw [hcs]; exact hcl)
 have HIK : Hid (∀ p, P.good k p → ∃ n, oneN cs p = some ((P.fet k p).mi, n) ∧ P.nxt k p = p + n ∧ p + n ≤ siz ∧ p < siz) := Lib.hid (fun p hp => by
  obtain ⟨n, h1, h2, h3, h4⟩ := HI.out k p (by have := HLNN.out; omega) hp
  rw [hsd0, ← hcs] at h1 h3 h4
  rw [HCL.out] at h3 h4
  exact ⟨n, h1, h2, h3, h4⟩)
 have hsl2 : ∀ w' : World, (Instr.slice 22 bv (some (.int .i64 (beg : Int))) (some (.int .i64 ((beg : Int) + siz))) none).run Tryd.prog w' = .ok (.slice ca siz cc) w' := fun w' => by
  rw [HBV.out]; exact hslice w' _ _ rfl (by omega)
 obtain ⟨R, hR⟩ : ∃ R, loop P g k 0 (newLc P k inp) s = R := ⟨_, rfl⟩
 rw [hR]
 have hmks : ∀ w : World, (Instr.makeSlice 26 (.int .i64 (slo : Int)) (.int .i64 (slo : Int))).run Tryd.prog w = .ok (.slice (some ⟨w.heap.size, 0, none⟩) slo slo) (w.alloc (.cells (madeCells (Value.int .i64 0).cells slo) 3)) := fun w => HMK.out w slo hslo64
 have k0 : (0 : Int) ≤ k := by omega
 have k1 : (k : Int) < ln := by omega
 obtain ⟨m0, m1, m2, m3, _⟩ := imCells hM
 rw [HXV.out] at m1
 obtain ⟨d0, d1, d2, d3⟩ := HROW.out w (hST.same _ HS.out.2.1) (hST.same _ (HS.out.2.2 _ hgm))
 have hgkl := hST.lt _ (HS.out.2.2 _ hgm)
 have y0 : ∀ m, (w.drewN m).cell? ⟨pq, 0, none⟩ = some bv := fun _ => m0
 have y2 : ∀ m, (w.drewN m).cell? ⟨gk, 2, none⟩ = some (.int .i64 (beg : Int)) := fun _ => d2
 have y3 : ∀ m, (w.drewN m).cell? ⟨gk, 3, none⟩ = some (.int .i64 (siz : Int)) := fun _ => d3
 have hss : IntKind.i64.wrap ((beg : Int) + siz) = (beg : Int) + siz := IntWalk.i64_in _ (by omega)
 have HR := Lib.hid hR; have HM := Lib.hid hM; have HS1 := Lib.hid hs; have HIH := Lib.hid ih; have HSRC := Lib.hid hsrc; have HIN := Lib.hid hin; have HSD := Lib.hid hsd; have HLEFT := Lib.hid hg; have HST := Lib.hid hST; have HTL := Lib.hid htl
 have HP1 := Lib.hid hp1; have HP2 := Lib.hid hp2; have HP3 := Lib.hid hp3; have HGM := Lib.hid hgm
 have HSE := Lib.hid hse
 have HSL2 := Lib.hid hsl2
 clear hR hM hs ih hsrc hin hsd hg hST htl hp1 hp2 hp3 hcs hcl hsd0 hsk hcode hslice hgm hgk hse
 go_enter Tryd.func93, Tryd.ntmps93
 go_wp2_with (fail)
 go_quiet (fail)
 have hbf : Below w.heap.size w (w.drewN nq) := belowDrewN (Below.refl _ _) nq
 have p1 : (w.drewN nq).cell? ⟨gk, 1, none⟩ = some (.int .i64 (slo : Int)) := d1
 have HSZF : Hid ((w.drewN nq).heap.size = w.heap.size) := Lib.hid rfl
 have hgkf : gk < (w.drewN nq).heap.size := hgkl
 have hgkf1 : gk < (w.drewN nq).heap.size + 1 := Nat.lt_succ_of_lt hgkf
 have hgkf2 : gk < (w.drewN nq).heap.size + 1 + 1 := Nat.lt_succ_of_lt hgkf1
 have hgkf3 : gk < (w.drewN nq).heap.size + 1 + 1 + 1 := Nat.lt_succ_of_lt hgkf2
 have HBF := Lib.hid hbf
 clear y0 y2 y3 m0 m1 m2 m3 d0 d1 d2 d3 hbf
 generalize w.drewN nq = wf at *
 go_upto_region 3 with (fail)
 go_cut [9] from 36 to 44 (fun a wx => ∃ p, a = Value.pointer (some ⟨Ps.p0 p, 0, none⟩) ∧ SNew wf slo p wx)
 case first =>
  clear HROW HCODE2 HCL HIK HR HM HS1 HIH HSRC HIN HSD HLEFT HST HTL HP1 HP2 HP3 HGM HSE HSL2 HBF k0 k1 hT hn3 hpar hpar3 hss HP HI HCODE HCS HLNN HBN HGL HMK HS HTAB HPar HBV HXV
  go_region_law (first | fail)
  all_goals go_wp2_with (fail)
  all_goals go_meet
  all_goals refine snew_of ?_ ?_ ?_ ?_ ?_ ?_ ?_ ?_ ?_ ?_ ?_
  all_goals first
   |omega
   |(simp; done)
   |(simp; omega)
   |((repeat (first | exact Blk.newAt (by first | omega | (simp; done) | (simp; omega)) (made_nats _) | refine Blk.alloc ?_ _)); done)
   |((repeat' (first | exact Below.refl _ _ | assumption | (refine Below.setCell ?_ ?_ _) | (refine Below.alloc ?_ ?_ _) | (refine belowDrewN ?_ _) | omega | (simp; done) | (simp; omega))); done)
 case rest =>
  obtain ⟨p, rfl, hbx, hge, hap, b0, b1, b2, b3, b4⟩ := hcut
  have hszf := HSZF.out
  have s3 : wc.cell? ⟨p.p0, 3, none⟩ = some (.slice (some ⟨p.p4, 0, none⟩) 3 3) := by rw [b0.cell]; rfl
  have hbwc : Below w.heap.size w wc := HBF.out.trans (hbx.mono (by omega))
  have hsrcx := HSRC.out.below hbwc
  have HSRCX : Hid (∀ j v, (nats inp)[j]? = some v → wc.cell? ((⟨ib, off, none⟩ : Addr).add j) = some v) := by
   apply Lib.hid
   intro j u hu
   have hj : j < inp.length := by
    rcases Nat.lt_or_ge j inp.length with h | h
    ·exact h
    ·rw [List.getElem?_eq_none (by rw [nats_len]; exact h)] at hu; cases hu
   rw [nats_get hj] at hu
   rw [Arg.add_eq, hsrcx.cells j (by rw [← hsrcx.len]; exact hj)]
   exact hu
  have hinl := HSRC.out.len
  have HBX := Lib.hid hbx; have HGE := Lib.hid hge; have HAP := Lib.hid hap; have HB0 := Lib.hid b0; have HB1 := Lib.hid b1; have HB2 := Lib.hid b2; have HB3 := Lib.hid b3; have HB4 := Lib.hid b4; have HBWC := Lib.hid hbwc
  clear hbx hge hap b0 b1 b2 b3 b4 hbwc hsrcx
  go_wp2_with (refine wpList_copy_row rfl _ _ 26 26 (by rfl) 3 Tryd.underlying26 (by kernel_rfl) p.p4 3 3 ⟨ib, off, none⟩ n icap (by rfl) (by rfl) _ HB4.out (nats inp) (by rw [nats_len, hinl]; exact (Nat.min_eq_left hn3).symm) HSRCX.out (by rw [nats_len, nats_len, hinl]; simpa using hn3) (by simp [nats, Value.oneCell']) ?_; intro wd hbd hod; have HBD := Lib.hid hbd; have HOD := Lib.hid hod; clear hbd hod)
  have hszc : w.heap.size ≤ wc.heap.size := by have := HBX.out.size; omega
  have hge1 : ∀ q, p.has q → w.heap.size ≤ q := fun q hq => by have := HGE.out q hq; omega
  have hge4 := hge1 p.p4 (.inr (.inr (.inr (.inr rfl))))
  have hbd : Below w.heap.size w wd := Only.below HBWC.out HOD.out (by omega) (fun q hq => by have := List.mem_singleton.1 hq; omega)
  have hszd : wc.heap.size ≤ wd.heap.size := HOD.out.size
  have hsv : ∀ k, sv.ownBlock = some k → k < w.heap.size := fun k hk => (HM.out.run.said.lt hk).2
  have htv : ∀ k, tv.ownBlock = some k → k < w.heap.size := fun k hk => (HM.out.tr.lt hk).2
  have hM2 := HM.out.below hbd
  have hsame : ∀ q, q < wc.heap.size → q ≠ p.p4 → wd.heap[q]? = wc.heap[q]? := fun q h1 h2 => HOD.out.block q h1 (by simpa using h2)
  have hSC : CaS wd pq pr cb sv tv p par (newLc P k inp) := by
   have hap := HAP.out
   have hcbl := HM.out.run.cells.lt
   have hprl := HM.out.run.blk.lt
   have hpql := HM.out.blk.lt
   refine ⟨⟨?_, HB1.out.same (hsame _ HB1.out.lt hap.a14), ?_, HB3.out.same (hsame _ HB3.out.lt hap.a34), ⟨inp ++ (List.replicate 3 0).drop inp.length, ?_, by simp; omega, ?_⟩, hap, fun q hq => ?_⟩, fun q hq => ?_⟩
   ·have h := HB0.out.same (hsame _ HB0.out.lt hap.a04)
    unfold newLc; rw [HP2.out]; simpa using h
   ·have h := HB2.out.same (hsame _ HB2.out.lt hap.a24)
    unfold newLc; rw [HP2.out]; exact h
   ·have h := HBD.out
    rw [show nats (inp ++ (List.replicate 3 0).drop inp.length) = nats inp ++ (nats (List.replicate 3 0)).drop (nats inp).length by simp [nats]]
    exact h
   ·intro j hj
    show _ = inp.getD j 0
    rw [List.getD_eq_getElem?_getD, List.getElem?_append_left (by omega), ← List.getD_eq_getElem?_getD]
   ·have := hge1 q hq
    exact ⟨by omega, by omega, fun e => by have := hsv q e; omega⟩
   ·have := hge1 q hq
    exact ⟨by omega, fun e => by have := htv q e; omega⟩
  have HREL0 : Hid (ImRel P R B pq pr cb bv xv T k p par slo sv tv wd g (.int .i64 0) wd) := by
   apply Lib.hid
   refine .inl ⟨g, 0, _, s, sv, tv, Nat.le_refl _, rfl, HP.out.start k (by have := HLNN.out; omega), HR.out, HLEFT.out, hM2, hSC, ?_, HS1.out, Fr2.refl _ _ _ _, HSD.out, HTL.out⟩
   rw [← HP1.out, ← HP2.out]; exact newLc_ok _ _ _ (by rw [HP1.out, hinl]; exact hpar) HIN.out
  have HFR : Hid (∀ sv' tv' W, Fr2 ([pq, pr, cb] ++ [p.p0, p.p1, p.p2, p.p3]) sv tv wd sv' tv' W → StS W1 [pq, pr, cb] S W sv' tv' ∧ wd.heap.size ≤ W.heap.size) := by
   apply Lib.hid
   intro sv' tv' W hF
   refine ⟨(HST.out.keep0 (Fr2.below hbd)).keep hF (fun q hq hm => ?_), hF.size⟩
   have e1 := HST.out.lt q hq
   have e2 := hge1 q (ps4_has hm)
   omega
  have HHAS := Lib.hid (fun q hq => hge1 q hq)
  have HBDW := Lib.hid hbd
  clear hbd hM2 hsame hSC hge1 hge4 hsv htv s3 HBX HGE HAP HB0 HB1 HB2 HB3 HB4 HBWC HBD HOD HSRCX p1 hmks HLEFT HS1 hszf hgkf hgkf1 hgkf2 hgkf3 HBF HSZF
  go_loopw [10] (fun at_ wr => ImRel P R B pq pr cb bv xv T k p par slo sv tv wd g at_ wr) (fun _ wr => sleft pr wr)
  case atStart => exact HREL0.out
  case round =>
   obtain ⟨wo, rfl⟩ : ∃ wo : World, wo = wr := ⟨_, rfl⟩
   rcases hrel with ⟨g1, a, lo, s1, sv1, tv1, hg1, rfl, ha, hR1, hlt, hM1, hC1, hl1, hs1, hF1, hsd1, htl1⟩ | ⟨a, en, s1, sv1, tv1, rfl, hR1, hM1, hF1⟩
   case inr =>
    obtain ⟨_, _, _, _, _, _, q6, _⟩ := runCells hM1.run
    obtain ⟨_, _, n2, _, _⟩ := imCells hM1
    have HE := Lib.hid ((imPost_of (s := s1) HBDW.out hF1 HHAS.out).2 en hM1)
    have HRR := Lib.hid hR1
    simp only [Option.isSome_some] at q6
    clear hR1 hM1 hF1 HIH HFR
    go_wp2_with (fail)
    go_ret
    rw [HRR.out]
    exact HE.out
   cases g1 with
   |zero => omega
   |succ g1 =>
   obtain ⟨q0, q1, q2, q3, q4, q5, q6, qf⟩ := runCells hM1.run
   obtain ⟨_, _, n2, n3, _⟩ := imCells hM1
   simp only [Option.isSome_none] at q6
   by_cases h0 : s1.left = 0
   ·have hR0 : R = .stop 3 s1 := by rw [← hR1]; unfold loop; rw [if_pos h0]
    rw [h0] at q5
    have HST2 := Lib.hid (sstop_any wo pr 3 _ q2 q6 qf)
    have HE := Lib.hid ((imPost_of (s := s1) HBDW.out ((hF1.setIn (a := ⟨pr, 2, none⟩) (by simp) (.int .i64 ((3 : Nat) : Int))).setIn (a := ⟨pr, 6, none⟩) (by simp) (.bool true)) HHAS.out).2 3 (hM1.stop 3))
    have HRR := Lib.hid hR0
    clear hR1 hM1 hC1 hl1 hs1 hF1 HIH HFR hR0 h0 n3
    go_wp2_with (fail)
    go_at_call 109
    refine HST2.out.mono ?_
    rintro e w2 ⟨rfl, hw2⟩
    have hE := HE.out
    rw [← hw2] at hE
    have HE2 := Lib.hid hE
    clear hw2 hE HE HST2
    go_wp2_with (fail)
    go_ret
    rw [HRR.out]
    exact HE2.out
   have hkl : k < l.length := by rw [← HLNN.out]; exact hk
   obtain ⟨nx, hone, hnxt0, hansz, hasz⟩ := HIK.out a ha
   obtain ⟨X, hX⟩ : ∃ X, P.fet k a = X := ⟨_, rfl⟩
   have hok := HP.out.ins k a hkl ha
   have hjmp := HP.out.jump k a hkl ha
   have hnxt := HP.out.next k a hkl ha
   rw [HP1.out, HP2.out, hX] at hok
   rw [hX] at hjmp hnxt hone
   rw [hnxt0] at hnxt
   have hR2 := hR1
   unfold loop at hR2
   rw [if_neg h0, hX, hnxt0] at hR2
   rw [HP3.out] at hR2
   have ha0 : (0 : Int) ≤ a := by omega
   have hM3 := (hM1.below (Below.refl _ _).drew).tick (beg + a)
   have hC3 : CaS (wo.drew.setCell ⟨pr, 5, none⟩ (.int .i64 ((s1.left - 1 : Nat) : Int))) pq pr cb sv1 tv1 p par lo := (hC1.below (Below.refl _ _).drew).keep ((Fr2.refl _ _ _ _).setIn (by simp) _)
   have hF3 := (hF1.trans (Fr2.below (Below.refl _ _).drew)).setIn (a := ⟨pr, 5, none⟩) (by simp) (.int .i64 ((s1.left - 1 : Nat) : Int))
   have hs3 := hs1.step (beg + a)
   have hl3 : (s1.step (beg + a)).left + 1 = s1.left := by show s1.left - 1 + 1 = _; omega
   have hsd3 : (s1.step (beg + a)).said.length + (s1.step (beg + a)).left + 1 ≤ T := by
    rw [show (s1.step (beg + a)).said = s1.said from rfl]; omega
   have hml := sleft_at hM1.run
   have hst := step_trace s1 (beg + a)
   have htl2 := step_tr_len s1 (beg + a) htl1
   generalize s1.step (beg + a) = s2 at *
   have hnn : ((s1.left : Nat) : Int) - 1 = ((s1.left - 1 : Nat) : Int) := by omega
   have hlz : (((s1.left : Nat) : Int) == 0) = false := by simp; omega
   have hpl : pr < wo.heap.size := hM1.run.blk.lt
   have qf5 : wo.drew.frozen? ⟨pr, 5, none⟩ = false := qf 5
   have q5' : wo.drew.cell? ⟨pr, 5, none⟩ = some (.int .i64 (s1.left : Int)) := q5
   have hlb : s1.left ≤ 300000 := by omega
   obtain ⟨op, xa, xb, xc, xn⟩ := X
   have hn24 := oneN_size hone
   have HR2 := Lib.hid hR2; have HOK := Lib.hid hok; have HJ := Lib.hid hjmp; have HNX := Lib.hid hnxt; have HONE := Lib.hid hone
   have ho1 := hok.op; have hxa8 := hok.a
   simp only [] at ho1 hxa8
   have HAS := Lib.hid hasz; have HNN := Lib.hid hn24
   have HM3 := Lib.hid hM3; have HC3 := Lib.hid hC3; have HF3 := Lib.hid hF3; have HS3 := Lib.hid hs3; have HL3 := Lib.hid hl3; have HSD3 := Lib.hid hsd3; have HML := Lib.hid hml; have HL1 := Lib.hid hl1; have HLT := Lib.hid hlt; have HSTP := Lib.hid hst; have HTL2 := Lib.hid htl2; have HTL1 := Lib.hid htl1
   clear hX hR2 hok hjmp hnxt hnxt0 hone hn24 hR1 hM1 hC1 hF1 hs1 hl1 hM3 hC3 hF3 hs3 hl3 hsd3 hml hlt q0 q1 q2 q3 q4 hsd1 hst htl2 htl1 hkl
   obtain ⟨ta, tc2, htv⟩ := HM3.out.form
   obtain ⟨tl, htln⟩ : ∃ tl, tl = s1.trace.length := ⟨_, rfl⟩
   rw [← htln] at htv
   subst htv
   have hqp : ¬ pq = pr := HM3.out.q1
   have hpq : ¬ pr = pq := fun e => hqp e.symm
   have n3' : wo.drew.cell? ⟨pq, 3, none⟩ = some (.slice ta tl tc2) := n3
   have HTN := Lib.hid htln
   have hkl' : tl ≤ 500 := by have := HTL1.out; omega
   clear htln
   go_wp2_with (fail)
   go_still_tail 14, (by kernel_rfl)
   change wpList _ _ _ _ _ wo.drew
   clear q5 q6 qf n2 n3
   generalize wo.drew = wv at *
   go_upto_if 91 with (fail)
   generalize hw3 : wv.setCell _ _ = w3 at *
   clear hw3 q5' qf5 n3'
   obtain ⟨_, _, _, m3, _⟩ := imCells HM3.out
   obtain ⟨hST3, hsz3⟩ := HFR.out _ _ _ HF3.out
   obtain ⟨_, _, x2, _⟩ := HROW.out w3 (hST3.same _ HS.out.2.1) (hST3.same _ (HS.out.2.2 _ HGM.out))
   clear hST3
   go_cut [10] from 51 to 173 (fun av wx => av = .int .i64 (a : Int) ∧ Hid (MidI B pq pr cb bv xv p par lo s2 sv1 sv tv wd wx))
   case first =>
    by_cases hl5 : tl < 500
    ·have g5 : (tl : Int) < 500 := by omega
     have HS2 : Hid (s2.trace = s1.trace ++ [beg + a]) := Lib.hid (by rw [HSTP.out, if_pos (by rw [← HTN.out]; exact hl5)])
     have sP : IntKind.i64.wrap ((beg : Int) + a) = (((beg + a : Nat)) : Int) := by have := HSE.out; have := HAS.out; have := HBN.out; rw [IntWalk.i64_in _ (by omega)]; omega
     have HRW : Hid (w3.ownsRow B 3 1 (.slice ta tl tc2) tl (nats s1.trace)) := Lib.hid (by have := HM3.out.tr; unfold Said at this; rw [← HTN.out] at this; exact this)
     have hBle : B ≤ w3.heap.size := by have := HM3.out.blk.lt; have := HM3.out.gq; omega
     clear hl5
     go_wp2_with (fail)
     refine wp_region_tree (fun W => W.cell? ⟨pq, 3, none⟩ = some (.slice ta tl tc2) ∧ W.cell? ⟨gk, 2, none⟩ = some (.int .i64 (beg : Int))) [(0, false), (1, false), (2, false), (3, false), (4, true), (5, false), (6, false), (7, true), (8, false), (9, false)] (.alt 10 (.alt 11 (.alt 12 (.alt 13 (.alt 14 .fin .none) .none) .none) .none) .none) 11 (by kernel_rfl) (by kernel_rfl) (fun d v c a w h => by cases d <;> exact h) (⟨m3, x2⟩) ?_
     simp only [pickO, List.map_cons, List.map_nil, List.getD_cons_zero, List.getD_cons_succ]
     refine heldO_stepY (v := ?_) rfl ?_ ?_
     rotate_left
     ·intro W
      go_simp
      try rfl
     simp only [Act.put, List.setIfInBounds_toArray, List.set_cons_zero, List.set_cons_succ]
     refine heldO_stepY (v := ?_) rfl ?_ ?_
     rotate_left
     ·intro W
      go_simp
      try rfl
     simp only [Act.put, List.setIfInBounds_toArray, List.set_cons_zero, List.set_cons_succ]
     refine heldO_stepY (v := ?_) rfl ?_ ?_
     rotate_left
     ·intro W
      go_simp
      try rfl
     simp only [Act.put, List.setIfInBounds_toArray, List.set_cons_zero, List.set_cons_succ]
     refine heldO_stepY (v := ?_) rfl ?_ ?_
     rotate_left
     ·intro W
      go_simp
      try rfl
     simp only [Act.put, List.setIfInBounds_toArray, List.set_cons_zero, List.set_cons_succ]
     refine heldO_step (v := ?_) rfl ?_ ?_
     rotate_left
     ·intro W hS
      obtain ⟨k1, k2⟩ := hS
      go_simp
      try rfl
     simp only [Act.put, List.setIfInBounds_toArray, List.set_cons_zero, List.set_cons_succ]
     refine heldO_stepY (v := ?_) rfl ?_ ?_
     rotate_left
     ·intro W
      go_simp
      try rfl
     simp only [Act.put, List.setIfInBounds_toArray, List.set_cons_zero, List.set_cons_succ]
     refine heldO_stepY (v := ?_) rfl ?_ ?_
     rotate_left
     ·intro W
      go_simp
      try rfl
     simp only [Act.put, List.setIfInBounds_toArray, List.set_cons_zero, List.set_cons_succ]
     refine heldO_step (v := ?_) rfl ?_ ?_
     rotate_left
     ·intro W hS
      obtain ⟨k1, k2⟩ := hS
      go_simp
      try rfl
     simp only [Act.put, List.setIfInBounds_toArray, List.set_cons_zero, List.set_cons_succ]
     refine heldO_stepY (v := ?_) rfl ?_ ?_
     rotate_left
     ·intro W
      go_simp
      try rfl
     simp only [Act.put, List.setIfInBounds_toArray, List.set_cons_zero, List.set_cons_succ]
     refine heldO_stepY (v := ?_) rfl ?_ ?_
     rotate_left
     ·intro W
      go_simp
      try rfl
     simp only [Act.put, List.setIfInBounds_toArray, List.set_cons_zero, List.set_cons_succ]
     refine heldO_nil ?_
     have hb9 : Below w3.heap.size w3 (w3.drew.alloc (.cells #[.int .i64 ((beg + a : Nat) : Int)] 3)) := (Below.refl _ _).drew.alloc (by simp) _
     refine treeO_alt rfl rfl ?_ treeO_none
     intro K hK
     go_simp
     refine hK _ _ (fun _ => ⟨cellB (below1 w3.drew _) m3, cellB (below1 w3.drew _) x2⟩) ?_
     clear hK K
     refine treeO_alt rfl rfl ?_ treeO_none
     intro K hK
     refine lies_wp rfl ?_
     refine step_append_lies (E := False) _ rfl _ _ 26 (by rfl) B 3 i0 (.int .i64 0) 1 8 Tryd.underlying26 hi hz0 hz1 hz2 rfl (by decide) _ tl (nats s1.trace) (by rfl) (ownsRow_below HRW.out hb9) ⟨w3.heap.size, 0, none⟩ 1 1 [.int .i64 ((beg + a : Nat) : Int)] (by rfl) rfl (World.news_of_block (heap_alloc_new w3.drew _)) (by simp [Value.oneCell']) (by decide) (by unfold maxLen; omega) (by omega) (by simp; omega) _ rfl ?_
     intro g7 c7 w7 ho7 hg7 hat7 _
     obtain ⟨hmid, ⟨y, hy⟩, hfz⟩ := midI_app HM3.out HC3.out HF3.out HS2.out hb9 HTN.out ho7 hg7 (by simpa using hat7)
     have HMID := Lib.hid hmid
     refine hK _ _ (fun h => absurd h (by decide)) ?_
     clear hK K ho7 hg7 hat7 hmid hb9
     refine treeO_alt rfl rfl ?_ treeO_none
     intro K hK
     go_simp
     refine hK _ _ (fun h => absurd h (by decide)) ?_
     clear hK K
     refine treeO_alt rfl rfl ?_ treeO_none
     intro K hK
     go_simp
     refine hK _ _ (fun h => absurd h (by decide)) ?_
     clear hK K
     refine treeO_alt rfl rfl ?_ treeO_none
     intro K hK
     go_simp
     refine hK _ _ (fun h => absurd h (by decide)) ?_
     clear hK K
     refine treeO_fin ?_
     go_wp2_with (fail)
     go_meet
     exact ⟨rfl, HMID⟩
    ·have g5 : decide ((tl : Int) < 500) = false := by simp; omega
     have g6 : ¬ ((tl : Int) < 500) := by omega
     have g7 : (500 : Int) ≤ tl := by omega
     have HS2 : Hid (s2.trace = s1.trace) := Lib.hid (by rw [HSTP.out, if_neg (by rw [← HTN.out]; exact hl5)])
     have HMID : Hid (MidI B pq pr cb bv xv p par lo s2 sv1 sv tv wd w3) := Lib.hid ⟨_, by rw [HS2.out]; exact HM3.out, HC3.out, HF3.out⟩
     clear hl5
     go_wp2_with (fail)
     go_meet
     exact ⟨rfl, HMID⟩
   case rest =>
    obtain ⟨rfl, HMID⟩ := hcut
    obtain ⟨tv3, hM5, hC5, hF5⟩ := HMID.out
    obtain ⟨hST5, hszz⟩ := HFR.out _ _ _ hF5
    have HDE := Lib.hid (one_any wc (.slice ca siz cc) cs a (HCODE2.out wc (hST5.same _ HS.out.1)).1 (by rw [HCL.out]; exact HAS.out) (by rw [HCL.out]; have := HBN.out; have := HSE.out; omega))
    have HM5 := Lib.hid hM5; have HC5 := Lib.hid hC5; have HF5 := Lib.hid hF5
    clear hM5 hC5 hF5 hST5 HMID HM3 HC3 HF3 x2 m3 hsz3
    go_wp2_with (fail)
    go_at_call 115
    refine HDE.out.mono ?_
    rintro e w3' ⟨z, n6, okb, rfl, hone6, hone7, hb6⟩
    have hall : z = (⟨(op : Int), (xa : Int), (xb : Int), (xc : Int), (xn : Int)⟩ : Mi) ∧ n6 = nx ∧ okb = true := by
     cases okb with
     |false => have := hone7 rfl; rw [HONE.out] at this; cases this
     |true =>
      have h := hone6 rfl
      rw [HONE.out] at h
      injection h with h; injection h with h1 h2
      exact ⟨h1.symm, h2.symm, rfl⟩
    obtain ⟨rfl, rfl, rfl⟩ := hall
    have HM4 := Lib.hid (HM5.out.below hb6); have HC4 := Lib.hid (HC5.out.below hb6); have HF4 := Lib.hid (HF5.out.trans (Fr2.below hb6))
    have hsz4 : wd.heap.size ≤ w3'.heap.size := Nat.le_trans hszz hb6.size
    have hBle : B ≤ w3'.heap.size := by have := HM4.out.blk.lt; have := HM4.out.gq; omega
    have sA : IntKind.i64.wrap ((a : Int) + n6) = (((a + n6 : Nat)) : Int) := by have := HSE.out; have := HBN.out; rw [IntWalk.i64_in _ (by omega)]; omega
    clear hone6 hone7 hb6 HM5 HC5 HF5 HDE hszz
    generalize w3' = w3 at *
    simp only [Mi.val]
    by_cases h20 : op = 20
    ·subst h20
     have hR := HR2.out
     rw [if_neg (by simp), if_pos rfl] at hR
     have HRR := Lib.hid hR
     have hxn := HJ.out (.inl rfl)
     clear hR HR2
     go_wp2_with (fail)
     generalize hw4 : w3.alloc _ = w4 at *
     have hb4 : Below w3.heap.size w3 w4 := by rw [← hw4]; exact below1 _ _
     have HB4 := Lib.hid hb4
     clear hw4 hb4
     go_roundw
     case rel => exact .inl ⟨g1, xn, lo, s2, sv1, tv3, by omega, rfl, hxn, HRR.out, by have := HL3.out; have := HLT.out; omega, HM4.out.below HB4.out, HC4.out.below HB4.out, HL1.out, HS3.out, HF4.out.trans (Fr2.below HB4.out), by have := HSD3.out; omega, HTL2.out⟩
     case measure => rw [sleft_at (HM4.out.below HB4.out).run, HML.out]; have := HL3.out; simp; omega
    by_cases h21 : op = 21
    ·subst h21
     have hR := HR2.out
     rw [if_neg (by simp), if_neg (by simp), if_pos rfl] at hR
     have HRR := Lib.hid hR
     have hxn := HJ.out (.inr rfl)
     have hnx := HNX.out (by simp) (by simp)
     clear hR HR2
     go_wp2_with (fail)
     generalize hw4 : w3.alloc _ = w4 at *
     have x0 := boxed0 hw4
     obtain ⟨hb4, x1, x2, x3, x4⟩ := boxed hw4
     obtain ⟨s0, _, _, _, _⟩ := scCells (HC4.out.below hb4).sc
     have hreg := (sregs (HC4.out.below hb4).sc HL1.out.regs).1 xa hxa8
     have y0 : ∀ m, (w4.drewN m).cell? ⟨w3.heap.size, 0, none⟩ = some (.int .i64 21) := fun _ => x0
     have y1 : ∀ m, (w4.drewN m).cell? ⟨w3.heap.size, 1, none⟩ = some (.int .i64 (xa : Int)) := fun _ => x1
     have y4 : ∀ m, (w4.drewN m).cell? ⟨w3.heap.size, 4, none⟩ = some (.int .i64 (xn : Int)) := fun _ => x4
     have ys : ∀ m, (w4.drewN m).cell? ⟨p.p0, 0, none⟩ = some (.slice (some ⟨p.p1, 0, none⟩) 8 8) := fun _ => s0
     have ra : ∀ m, (w4.drewN m).cell? ⟨p.p1, xa, none⟩ = some (.int .i64 (lo.reg xa : Int)) := fun _ => hreg
     have a0 : (0 : Int) ≤ xa := by omega
     have a1 : (xa : Int) < 8 := by omega
     have HB4 := Lib.hid hb4
     clear hw4 x0 x1 x2 x3 x4 hreg s0 hb4
     by_cases hz : lo.reg xa = 0
     ·have z1 : (((lo.reg xa : Nat) : Int) != 0) = false := by rw [hz]; rfl
      have HRZ := HRR.out
      rw [if_pos hz] at HRZ
      have HRZ := Lib.hid HRZ
      clear hz HRR
      go_quiet (fail)
      have HB5 := Lib.hid (belowDr HB4.out nq)
      go_wp2_with (fail)
      generalize w4.drewN nq = w5 at *
      go_roundw
      case rel => exact .inl ⟨g1, a + n6, lo, s2, sv1, tv3, by omega, by go_num, hnx, HRZ.out, by have := HL3.out; have := HLT.out; omega, HM4.out.below HB5.out, HC4.out.below HB5.out, HL1.out, HS3.out, HF4.out.trans (Fr2.below HB5.out), by have := HSD3.out; omega, HTL2.out⟩
      case measure => rw [sleft_at (HM4.out.below HB5.out).run, HML.out]; have := HL3.out; simp; omega
     ·have z1 : (((lo.reg xa : Nat) : Int) != 0) = true := by simp; omega
      have HRZ := HRR.out
      rw [if_neg hz] at HRZ
      have HRZ := Lib.hid HRZ
      clear hz HRR
      go_quiet (fail)
      have HB5 := Lib.hid (belowDr HB4.out nq)
      go_wp2_with (fail)
      generalize w4.drewN nq = w5 at *
      go_roundw
      case rel => exact .inl ⟨g1, xn, lo, s2, sv1, tv3, by omega, rfl, hxn, HRZ.out, by have := HL3.out; have := HLT.out; omega, HM4.out.below HB5.out, HC4.out.below HB5.out, HL1.out, HS3.out, HF4.out.trans (Fr2.below HB5.out), by have := HSD3.out; omega, HTL2.out⟩
      case measure => rw [sleft_at (HM4.out.below HB5.out).run, HML.out]; have := HL3.out; simp; omega
    by_cases h22 : op = 22
    ·subst h22
     have hR := HR2.out
     rw [if_pos rfl] at hR
     have HRR := Lib.hid hR
     have HE := Lib.hid (fun w4 (hb : Below w3.heap.size w3 w4) => (imPost_of (s := s2) HBDW.out (HF4.out.trans (Fr2.below hb)) HHAS.out).1 (lo.reg xa) (HM4.out.below hb))
     clear hR HR2
     go_wp2_with (fail)
     generalize hw4 : w3.alloc _ = w4 at *
     have x0 := boxed0 hw4
     obtain ⟨hb4, x1, x2, x3, x4⟩ := boxed hw4
     obtain ⟨s0, _, _, _, _⟩ := scCells (HC4.out.below hb4).sc
     have hreg := (sregs (HC4.out.below hb4).sc HL1.out.regs).1 xa hxa8
     have y0 : ∀ m, (w4.drewN m).cell? ⟨w3.heap.size, 0, none⟩ = some (.int .i64 22) := fun _ => x0
     have HB4 := Lib.hid hb4
     have y1 : ∀ m, (w4.drewN m).cell? ⟨w3.heap.size, 1, none⟩ = some (.int .i64 (xa : Int)) := fun _ => x1
     have a0 : (0 : Int) ≤ xa := by omega
     have a1 : (xa : Int) < 8 := by omega
     clear hw4 x0 x1 x2 x3 x4 hb4
     go_quiet (fail)
     have HB5 := Lib.hid (belowDr HB4.out nq)
     have z0 := y0 nq
     have z1 := y1 nq
     have zs : ∀ m, ((w4.drewN nq).drewN m).cell? ⟨p.p0, 0, none⟩ = some (.slice (some ⟨p.p1, 0, none⟩) 8 8) := fun _ => s0
     have zr : ∀ m, ((w4.drewN nq).drewN m).cell? ⟨p.p1, xa, none⟩ = some (.int .i64 (lo.reg xa : Int)) := fun _ => hreg
     have zb : ∀ m, ((w4.drewN nq).drewN m).cell? ⟨w3.heap.size, 1, none⟩ = some (.int .i64 (xa : Int)) := fun _ => y1 nq
     clear y0 y1 s0 hreg
     generalize w4.drewN nq = w5 at *
     go_wp2_with (fail)
     go_quiet (fail)
     go_wp2_with (fail)
     go_ret
     rw [← HRR.out]
     exact HE.out _ (belowDr HB5.out _)
    by_cases h14 : op = 14
    ·subst h14
     have hR := HR2.out
     rw [if_neg (by simp), if_neg (by simp), if_neg (by simp), if_pos rfl] at hR
     have hnx := HNX.out (by simp) (by simp)
     have hxk : xn < k := HOK.out.call rfl
     have hxl : xn < l.length := by rw [← HLNN.out]; omega
     have hp3 : P.par xn ≤ 3 := HP.out.par xn hxl
     have hlok := loop_ok HP.out g1 xn 0 (newLc P xn lo.gives) s2 hxl (HP.out.start _ hxl) (newLc_ok _ _ _ (by rw [HL1.out.gives]; exact hp3) HL1.out.givesS) HS3.out
     have hlsd := loop_said (P := P) g1 xn 0 (newLc P xn lo.gives) s2
     have hltr := loop_trace (P := P) g1 xn 0 (newLc P xn lo.gives) s2 HTL2.out
     have hcall : ∀ w5, Below w3.heap.size w3 w5 → Calls Tryd.prog 93 #[.pointer (some ⟨pq, 0, none⟩), .int .i64 (xn : Int), .slice (some ⟨p.p3, 0, none⟩) 3 3] w5 (ImPost B pq pr cb bv xv sv1 tv3 (loop P g1 xn 0 (newLc P xn lo.gives) s2) w5) := fun w5 hb => by
      obtain ⟨hSt, _⟩ := HFR.out _ _ _ HF4.out
      exact HIH.out g1 (by omega) w5 T s2 sv1 tv3 xn p.p3 0 3 3 lo.gives (by have := HL3.out; have := HLT.out; omega) (by omega) (hSt.keep0 (Fr2.below hb)) (HM4.out.below hb) HS3.out
       ⟨HL1.out.gives, Nat.le_refl _, by omega, fun i hi => by rw [Nat.zero_add]; exact sgives (HC4.out.below hb).sc (by rw [HL1.out.gives]; exact hi)⟩ HL1.out.givesS hp3 (Nat.le_refl _) (by have := HSD3.out; omega) hT HTL2.out
     obtain ⟨r, hr⟩ : ∃ r, loop P g1 xn 0 (newLc P xn lo.gives) s2 = r := ⟨_, rfl⟩
     rw [hr] at hR hlok hlsd hltr
     simp only [hr] at hcall
     have HCALL := Lib.hid hcall; have HRR := Lib.hid hR; have HLOK := Lib.hid hlok; have HLSD := Lib.hid hlsd; have HLTR := Lib.hid hltr
     clear hr hR HR2 hcall hlok hlsd hltr HIH hxk hp3 hxl
     go_wp2_with (fail)
     generalize hw4 : w3.alloc _ = w4 at *
     have x0 := boxed0 hw4
     obtain ⟨hb4, x1, x2, x3, x4⟩ := boxed hw4
     have y0 : ∀ m, (w4.drewN m).cell? ⟨w3.heap.size, 0, none⟩ = some (.int .i64 14) := fun _ => x0
     have HB4 := Lib.hid hb4
     clear hw4 hb4 x1 x2 x3
     go_quiet (fail)
     have HB5 := Lib.hid (belowDr HB4.out nq)
     have z0 := y0 nq
     have z4 : (w4.drewN nq).cell? ⟨w3.heap.size, 4, none⟩ = some (.int .i64 (xn : Int)) := x4
     clear y0 x0 x4 HB4
     generalize w4.drewN nq = w5 at *
     go_wp2_with (fail)
     have hC5 := HC4.out.below HB5.out
     obtain ⟨_, _, s2', _, _⟩ := scCells hC5.sc
     clear hC5
     refine wp_region_held (fun W => W.cell? ⟨w3.heap.size, 4, none⟩ = some (.int .i64 (xn : Int)) ∧ W.cell? ⟨p.p0, 2, none⟩ = some (.slice (some ⟨p.p3, 0, none⟩) 3 3)) [(0, false), (1, false), (2, false), (3, true), (4, false), (5, false), (6, false), (7, true)] [8, 9, 10, 11] 11 (by kernel_rfl) (by kernel_rfl) (fun d v c a w h => by cases d <;> exact h) ⟨z4, s2'⟩ ?_
     simp only [pickO, List.map_cons, List.map_nil, List.getD_cons_zero, List.getD_cons_succ]
     refine heldO_stepY (v := ?_) rfl ?_ ?_
     rotate_left
     ·intro W
      go_simp
      try rfl
     simp only [Act.put, List.setIfInBounds_toArray, List.set_cons_zero, List.set_cons_succ]
     refine heldO_stepY (v := ?_) rfl ?_ ?_
     rotate_left
     ·intro W
      go_simp
      try rfl
     simp only [Act.put, List.setIfInBounds_toArray, List.set_cons_zero, List.set_cons_succ]
     refine heldO_stepY (v := ?_) rfl ?_ ?_
     rotate_left
     ·intro W
      go_simp
      try rfl
     simp only [Act.put, List.setIfInBounds_toArray, List.set_cons_zero, List.set_cons_succ]
     refine heldO_step (v := ?_) rfl ?_ ?_
     rotate_left
     ·intro W hS
      obtain ⟨k1, k2⟩ := hS
      go_simp
      try rfl
     simp only [Act.put, List.setIfInBounds_toArray, List.set_cons_zero, List.set_cons_succ]
     refine heldO_stepY (v := ?_) rfl ?_ ?_
     rotate_left
     ·intro W
      go_simp
      try rfl
     simp only [Act.put, List.setIfInBounds_toArray, List.set_cons_zero, List.set_cons_succ]
     refine heldO_stepY (v := ?_) rfl ?_ ?_
     rotate_left
     ·intro W
      go_simp
      try rfl
     simp only [Act.put, List.setIfInBounds_toArray, List.set_cons_zero, List.set_cons_succ]
     refine heldO_stepY (v := ?_) rfl ?_ ?_
     rotate_left
     ·intro W
      go_simp
      try rfl
     simp only [Act.put, List.setIfInBounds_toArray, List.set_cons_zero, List.set_cons_succ]
     refine heldO_step (v := ?_) rfl ?_ ?_
     rotate_left
     ·intro W hS
      obtain ⟨k1, k2⟩ := hS
      go_simp
      try rfl
     simp only [Act.put, List.setIfInBounds_toArray, List.set_cons_zero, List.set_cons_succ]
     refine heldO_nil ?_
     refine tailO_step rfl (fun K hK => ?_)
     go_simp
     refine (HCALL.out _ HB5.out.drew).mono ?_
     rintro e w6 ⟨sv6, tv6, rfl, hM6, hF6⟩
     have hRR := HRR.out
     have hlt3 : w3.heap.size < w5.drew.heap.size := World.block_lt_of_cell? _ _ z4
     have hne3 : w3.heap.size ≠ pq ∧ w3.heap.size ≠ pr ∧ w3.heap.size ≠ cb := by have := HM4.out.blk.lt; have := HM4.out.run.blk.lt; have := HM4.out.run.cells.lt; omega
     have hns3 : sv1.ownBlock ≠ some w3.heap.size := fun e => by have := (HM4.out.run.said.lt e).2; omega
     have hnt3 : tv3.ownBlock ≠ some w3.heap.size := fun e => by have := (HM4.out.tr.lt e).2; omega
     have hF7 : Fr2 ([pq, pr, cb] ++ [p.p0, p.p1, p.p2, p.p3]) sv tv wd sv6 tv6 w6 := HF4.out.trans ((Fr2.below HB5.out.drew).trans (hF6.mono (fun x hx => List.mem_append_left _ hx)))
     have r4' : w6.cell? ⟨w3.heap.size, 4, none⟩ = some (.int .i64 (xn : Int)) := by
      rw [World.cell?_of_block (w := w5.drew) (a := ⟨w3.heap.size, 4, none⟩) (hF6.block _ hlt3 (by simpa using hne3) hns3 hnt3)]; exact z4
     have hC6 := (HC4.out.below HB5.out.drew).keep hF6
     have u2 := (scCells hC6.sc).2.2.1
     have u4 := (scCells hC6.sc).2.2.2.2
     have uf := hC6.sc.blk.frozen 4
     have HM6 := Lib.hid hM6; have HC6 := Lib.hid hC6; have HF7 := Lib.hid hF7; have HRR2 := Lib.hid hRR
     refine hK _ _ (.inr ⟨r4', u2⟩) ?_
     clear hK K hM6 hF6 hF7 hC6 hRR HRR HCALL z4 hlt3 hne3 hns3 hnt3 s2'
     refine tailO_step rfl (fun K hK => ?_)
     go_simp
     refine hK _ _ (.inr ⟨r4', u2⟩) ?_
     clear hK K
     refine tailO_step rfl (fun K hK => ?_)
     go_simp
     refine hK _ _ (.inr ⟨r4', u2⟩) ?_
     clear hK K r4'
     refine tailO_step rfl (fun K hK => ?_)
     go_simp
     refine hK _ _ (.inl rfl) (tailO_nil ?_)
     clear hK K u2 u4 uf
     have hfp := HC6.out.sc.far p.p0 (.inl rfl)
     have hfq := HC6.out.far p.p0 (.inl rfl)
     have HM7 := Lib.hid (HM6.out.other (a := ⟨p.p0, 4, none⟩) hfq.1 hfp.1 hfp.2.1 hfp.2.2 hfq.2 (.int .i64 (r.val : Int)))
     have HC7 := Lib.hid (HC6.out.setRes r.val)
     have HF8 := Lib.hid (HF7.out.setIn (a := ⟨p.p0, 4, none⟩) (by simp) (.int .i64 (r.val : Int)))
     clear hfp hfq HM6 HC6 HF7
     cases r with
     |ret v6 s6 =>
      obtain ⟨ho6, hv6, hle6⟩ := HLOK.out
      have hv6' : v6 < 256 := hv6
      have hle6' : s6.left ≤ s2.left := hle6
      have hsd6 : s6.said.length + s6.left ≤ s2.said.length + s2.left := HLSD.out
      have ho6' : CmOk s6 := ho6
      have htl6 : s6.trace.length ≤ 500 := HLTR.out
      have HLC : Hid (LcOk par slo { lo with res := v6 }) := Lib.hid ⟨HL1.out.regs, HL1.out.regsS, HL1.out.slots, HL1.out.slotsS, HL1.out.gives, HL1.out.givesS, HL1.out.args, HL1.out.argsS, hv6'⟩
      clear HLOK HLSD HLTR ho6 hv6 hle6 hv6'
      go_wp2_with (fail)
      go_roundw
      case rel => exact .inl ⟨g1, a + n6, { lo with res := v6 }, s6, sv6, tv6, by omega, by go_num, hnx, HRR2.out, by have := HL3.out; have := HLT.out; omega, HM7.out, HC7.out, HLC.out, ho6', HF8.out, by have := HSD3.out; omega, htl6⟩
      case measure => rw [sleft_at HM7.out.run, HML.out]; have := HL3.out; simp [Rs.cm, Rs.eno]; omega
     |stop en s6 =>
      have hle6' : s6.left ≤ s2.left := HLOK.out.2.2
      have HRR3 : Hid (R = Rs.stop en s6) := Lib.hid (Eq.symm HRR2.out)
      clear HRR2 HLOK HLSD HLTR
      go_wp2_with (fail)
      go_roundw
      case rel => exact .inr ⟨a + n6, en, s6, sv6, tv6, by go_num, HRR3.out, HM7.out, HF8.out⟩
      case measure => rw [sleft_at HM7.out.run, HML.out]; have := HL3.out; simp [Rs.cm, Rs.eno]; omega
    have hR := HR2.out
    rw [if_neg h22, if_neg h20, if_neg h21, if_neg h14] at hR
    have HRR := Lib.hid hR
    have hnx := HNX.out h20 h22
    have e22 : ((op : Int) == 22) = false := by simp; omega
    have e20 : ((op : Int) == 20) = false := by simp; omega
    have e21 : ((op : Int) == 21) = false := by simp; omega
    have e14 : ((op : Int) == 14) = false := by simp; omega
    have d21 : decide ((op : Int) = 21) = false := by simp; omega
    have HPL := Lib.hid (fun w4 (hb : Below w3.heap.size w3 w4) => plain22_any (slo := slo) w4 B pr cb (.slice none 0 0) p par k ⟨op, xa, xb, xc, xn⟩ lo s2 sv1 (HM4.out.below hb).run (HC4.out.below hb).sc HL1.out HS3.out HOK.out h14 (by simp only []; omega) hpar3 (by have := HSD3.out; omega) (by have := hb.size; omega))
    simp only [Ni.val_mi] at HPL
    clear hR HR2
    go_wp2_with (fail)
    generalize hw4 : w3.alloc _ = w4 at *
    have x0 := boxed0 hw4
    obtain ⟨hb4, x1, x2, x3, x4⟩ := boxed hw4
    have y0 : ∀ m, (w4.drewN m).cell? ⟨w3.heap.size, 0, none⟩ = some (.int .i64 (op : Int)) := fun _ => x0
    have HB4 := Lib.hid hb4
    clear hw4 hb4
    go_quiet (fail)
    have HB5 := Lib.hid (belowDr HB4.out nq)
    have z0 := y0 nq
    have z1 : (w4.drewN nq).cell? ⟨w3.heap.size, 1, none⟩ = some (.int .i64 (xa : Int)) := x1
    have z2 : (w4.drewN nq).cell? ⟨w3.heap.size, 2, none⟩ = some (.int .i64 (xb : Int)) := x2
    have z3 : (w4.drewN nq).cell? ⟨w3.heap.size, 3, none⟩ = some (.int .i64 (xc : Int)) := x3
    have z4 : (w4.drewN nq).cell? ⟨w3.heap.size, 4, none⟩ = some (.int .i64 (xn : Int)) := x4
    clear y0 x0 x1 x2 x3 x4 HB4
    generalize w4.drewN nq = w5 at *
    obtain ⟨_, _, n2, _, _⟩ := imCells (HM4.out.below HB5.out)
    go_wp2_with (fail)
    go_still_tail 6, (by kernel_rfl)
    change wpList _ _ _ _ _ w5.drew
    have HB6 := Lib.hid HB5.out.drew
    clear z0 z1 z2 z3 z4 n2
    generalize w5.drew = w6 at *
    go_wp2_with (fail)
    go_at_call 110
    refine (HPL.out w6 HB6.out).mono ?_
    rintro e w7 hpost
    unfold SPost at hpost
    have hRR := HRR.out
    have hps : ∀ q ∈ [p.p0, p.p1, p.p2, p.p3], q ≠ pq ∧ tv3.ownBlock ≠ some q := fun q hq => HC4.out.far q (ps4_has hq)
    cases hp : plainOp ⟨op, xa, xb, xc, xn⟩ lo s2 with
    |inl ls =>
     obtain ⟨l6, s6⟩ := ls
     obtain ⟨hl6, hs6, hle6⟩ := plainOp_ok HL1.out HS3.out HOK.out hp
     have hsd6 := plainOp_said hp
     have htr6 := plainOp_trace hp
     rw [hp] at hpost hRR
     obtain ⟨rfl, sv6, hM6, hC6, hF6⟩ := hpost
     have hI6 := (HM4.out.below HB6.out).keep hM6 hF6 hps
     rw [← htr6] at hI6
     have HRR2 := Lib.hid hRR
     have HF2 := Lib.hid ((Fr2.below HB6.out).trans ((Fr2.of1 hF6 tv3).mono (fy := [pq, pr, cb] ++ [p.p0, p.p1, p.p2, p.p3]) (fun x hx => by simp at hx ⊢; rcases hx with h | h | h <;> simp [h])))
     have HM6 := Lib.hid hI6; have HC6 : Hid (CaS w7 pq pr cb sv6 tv3 p par l6) := Lib.hid ⟨hC6, fun q hq => (HC4.out.far q hq)⟩; have HF6 := Lib.hid (HF4.out.trans HF2.out); have HL6 := Lib.hid hl6; have HS6 := Lib.hid hs6; have HSD6 := Lib.hid hsd6
     have htl6 : s6.trace.length ≤ 500 := by rw [htr6]; exact HTL2.out
     clear hRR hM6 hC6 hF6 hl6 hs6 hle6 hsd6 hp HRR HPL hI6 HF2 hps htr6
     go_wp2_with (fail)
     go_roundw
     case rel => exact .inl ⟨g1, a + n6, l6, s6, sv6, tv3, by omega, by go_num, hnx, HRR2.out, by have := HL3.out; have := HLT.out; have := HSD6.out.2; omega, HM6.out, HC6.out, HL6.out, HS6.out, HF6.out, by have := HSD3.out; have := HSD6.out; omega, htl6⟩
     case measure => rw [sleft_at HM6.out.run, HML.out]; have := HL3.out; have := HSD6.out.2; simp; omega
    |inr en =>
     rw [hp] at hpost hRR
     obtain ⟨rfl, hM6, hF6⟩ := hpost
     have hI6 := (HM4.out.below HB6.out).keep (nw := []) hM6 (hF6.mono (by simp)) (by simp)
     have HM6 := Lib.hid hI6
     have HF6 := Lib.hid (HF4.out.trans ((Fr2.below HB6.out).trans ((Fr2.of1 hF6 tv3).mono (fy := [pq, pr, cb] ++ [p.p0, p.p1, p.p2, p.p3]) (fun x hx => by simp at hx ⊢; rcases hx with h | h <;> simp [h]))))
     have HRR2 := Lib.hid hRR
     clear hRR hM6 hF6 hp HRR HPL hI6 hps
     go_wp2_with (fail)
     go_roundw
     case rel => exact .inr ⟨a + n6, en, s2, sv1, tv3, by go_num, HRR2.out.symm, HM6.out, HF6.out⟩
     case measure => rw [sleft_at HM6.out.run, HML.out]; have := HL3.out; simp; omega
end Go.Proofs.YtbdbmmdnidonjaaDoor
