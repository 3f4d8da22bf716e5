/- The reference's CheckProgram. The program's programs: impl.stmts, measure, ProgramValid. The program's programs: impl.measure, ProgramValid. Maps from texts to small numbers, of a call's own: what they have, at the operations. -/
import Derived.Test.YtpnliencahnmoaaGreatDoorQ9
import Derived.Test.YtpnliencahnmoaaGreatDoorQ6
import Derived.Test.YtpnliencahnmoaaGreatDoorQ1
import Derived.Maps.OwnOps
import Derived.Maps.OwnSet
set_option linter.unusedVariables false
set_option linter.unusedSimpArgs false
set_option linter.unusedVariables false
set_option linter.unusedSimpArgs false
set_option maxRecDepth 100000
namespace Go.Proofs.YtpnliencahnmoaaGreatDoor
open Go.RowKit
theorem nodupB_iff {l : List ByteArray} : nodupB l = true ↔ l.Nodup := by
  induction l with
  | nil => simp [nodupB]
  | cons x r ih => rw [nodupB, Bool.and_eq_true, Bool.not_eq_true', ← Bool.not_eq_true, memB_iff, ih, List.nodup_cons]
theorem nodup_snoc {l : List ByteArray} {x : ByteArray} : (l ++ [x]).Nodup ↔ l.Nodup ∧ ¬ x ∈ l := by
  rw [List.nodup_append]
  constructor
  · rintro ⟨h1, _, h3⟩
    exact ⟨h1, fun hx => h3 x hx x (by simp) rfl⟩
  · rintro ⟨h1, h2⟩
    exact ⟨h1, by simp, fun a ha b hb e => by rw [List.mem_singleton] at hb; subst hb; subst e; exact h2 ha⟩
theorem blkc3 {w : World} {p : Nat} {a b c : Value} (h : Blk w p [a, b, c]) : w.cell? ⟨p, 0, none⟩ = some a ∧ w.cell? ⟨p, 1, none⟩ = some b ∧ w.cell? ⟨p, 2, none⟩ = some c := by
  refine ⟨?_, ?_, ?_⟩
  all_goals rw [h.cell]; rfl
def FnP (ok : Prop) (w : World) (e : Ending) (w' : World) : Prop :=
  ∃ (nm : ByteArray) (a1 : Option Addr) (l1 c1 : Nat) (a2 : Option Addr) (l2 c2 : Nat) (code cnt : Int), e = .returned (.tuple #[.agg #[.string nm, .slice a1 l1 c1, .slice a2 l2 c2], .int .i64 code, .int .i64 cnt]) ∧ (code = 0 ↔ ok) ∧ Below w.heap.size w w'
/-- the function's box, its result, the walk -/
structure MidF (w : World) (fv : Value) (k : Int) (box : List Value) (vv : Value) (vs : Vr) (cnt : Int) (P : Prop) (wx : World) : Prop where
  code : ∃ code', (code' = 0 ↔ P) ∧ Wk wx (w.heap.size + 2) fv k vv cnt code'
  vsat : VsAt wx (w.heap.size + 2 + 1) vv vs
  pbox : Blk wx w.heap.size [fv]
  res : Blk wx (w.heap.size + 1) [.string .empty, .slice none 0 0, .slice none 0 0]
  box : Blk wx (w.heap.size + 3) box
  bel : Below w.heap.size w wx
  ne : vv.ownBlock ≠ some (w.heap.size + 3)
theorem MidF.step {w : World} {fv : Value} {k : Int} {box : List Value} {vv vv' : Value} {vs vs' : Vr} {cnt cnt' : Int} {P P' : Prop} {wx wy : World} (h : MidF w fv k box vv vs cnt P wx)
    (hf : Fr [w.heap.size + 2] vv wx vv' wy) (hs : VsAt wy (w.heap.size + 2 + 1) vv' vs') (hc : ∃ code', (code' = 0 ↔ P') ∧ Wk wy (w.heap.size + 2) fv k vv' cnt' code') : MidF w fv k box vv' vs' cnt' P' wy := by
  have hb : ∀ z, z < w.heap.size + 2 → vv.ownBlock ≠ some z := fun z hz e => by have := ownBlock_of h.vsat z e; omega
  refine ⟨hc, hs, hf.blk h.pbox (by simp) (hb _ (by omega)), hf.blk h.res (by simp) (hb _ (by omega)), hf.blk h.box (by simp) h.ne, ?_, hf.ne h.box.lt h.ne⟩
  refine hf.only.below h.bel h.bel.size (fun z hz => ?_)
  rcases List.mem_append.1 hz with hz | hz
  · have := List.mem_singleton.1 hz; omega
  · have hz : vv.ownBlock = some z := by simpa using hz
    have := ownBlock_of h.vsat z hz; omega
theorem MidF.below {w : World} {fv : Value} {k : Int} {box : List Value} {vv : Value} {vs : Vr} {cnt : Int} {P : Prop} {wx wy : World} (h : MidF w fv k box vv vs cnt P wx) (hb : Below wx.heap.size wx wy) : MidF w fv k box vv vs cnt P wy := by
  obtain ⟨c, h1, h2⟩ := h.code
  exact ⟨⟨c, h1, h2.below hb⟩, ownsRow_below h.vsat hb, h.pbox.below hb, h.res.below hb, h.box.below hb, h.bel.trans (hb.mono h.bel.size), h.ne⟩
theorem MidF.grown {w : World} {fv : Value} {k : Int} {box : List Value} {vv : Value} {vs : Vr} {cnt : Int} {P : Prop} {wx wy : World} {row : Option Nat} (h : MidF w fv k box vv vs cnt P wx) (hb : wx.grownBy wy row)
    (hr : ∀ z, row = some z → w.heap.size + 4 ≤ z) (hv : ∀ z, row = some z → vv.ownBlock ≠ some z) : MidF w fv k box vv vs cnt P wy := by
  obtain ⟨c, h1, h2⟩ := h.code
  refine ⟨⟨c, h1, h2.grown hb (fun e => by have := hr _ e; omega)⟩, ownsRow_same h.vsat (fun z hz => hb.block z (World.ownsRow.lt h.vsat z hz).2 (fun e => hv z e.symm hz)), h.pbox.grown hb (fun e => by have := hr _ e; omega), h.res.grown hb (fun e => by have := hr _ e; omega), h.box.grown hb (fun e => by have := hr _ e; omega), ?_, h.ne⟩
  exact ⟨hb.os.trans h.bel.os, hb.tape.trans h.bel.tape, hb.output.trans h.bel.output, Nat.le_trans h.bel.size hb.size, fun z hz => by rw [hb.block z (Nat.lt_of_lt_of_le hz h.bel.size) (fun e => by have := hr z e.symm; omega), h.bel.block z hz]⟩
theorem MidF.set {w : World} {fv : Value} {k : Int} {box : List Value} {vv : Value} {vs : Vr} {cnt : Int} {P : Prop} {wx : World} (h : MidF w fv k box vv vs cnt P wx) (j : Nat) (u : Value) : MidF w fv k (box.set j u) vv vs cnt P (wx.setCell ⟨w.heap.size + 3, j, none⟩ u) := by
  obtain ⟨c, h1, h2⟩ := h.code
  exact ⟨⟨c, h1, h2.other (by simp) u⟩, ownsRow_same h.vsat (fun z hz => Below.heap_setCell _ _ _ _ (fun e => h.ne (by rw [hz, e]))), h.pbox.other (by simp) u, h.res.other (by simp) u, h.box.set j u, h.bel.setCell (by simp) u, h.ne⟩
theorem MidF.conv {w : World} {fv : Value} {k : Int} {box : List Value} {vv : Value} {vs : Vr} {cnt : Int} {P P' : Prop} {wx : World} (h : MidF w fv k box vv vs cnt P wx) (hp : P ↔ P') : MidF w fv k box vv vs cnt P' wx := by
  obtain ⟨c, h1, h2⟩ := h.code
  exact ⟨⟨c, by rw [h1, hp], h2⟩, h.vsat, h.pbox, h.res, h.box, h.bel, h.ne⟩
set_option maxHeartbeats 8000000 in
theorem l4Fn_any (fs : List Fx) (w : World) (fv : Value) (k : Nat) (f : Fx) (hfs : FxsAt w fv fs) (hk : fs[k]? = some f) (hok : fxOk isNB f = true) (hN : (f.body.map (stCount 4)).sum ≤ 1000) :
    Calls Tryz.prog 119 #[.agg #[fv], .int .i64 k] w (FnP (chkF fs k f = true) w) := by
  obtain ⟨fa, fcap, hform, hmb⟩ := hfs.form
  obtain ⟨fl, hfl⟩ : ∃ n, n = fs.length := ⟨_, rfl⟩
  have hkl := idx_lt hk
  rw [← hfl] at hform hmb hkl
  have hfs2 := hfs
  rw [hform] at hfs2
  obtain ⟨hz, b, off, pv, bv, rfl, hbl, e0, e1, e2, hpx, hbx⟩ := hfs2.get hk
  obtain ⟨pa, pc, hpf, hpm⟩ := hpx.form
  obtain ⟨m, hm⟩ : ∃ n, n = f.params.length := ⟨_, rfl⟩
  rw [← hm] at hpf hpm
  subst hpf
  obtain ⟨ba, bc, hbf⟩ := hbx.form
  obtain ⟨bl, hbl'⟩ : ∃ n, n = f.body.length := ⟨_, rfl⟩
  rw [← hbl'] at hbf
  subst hbf
  subst hform
  unfold fxOk at hok
  simp only [Bool.and_eq_true, decide_eq_true_eq] at hok
  obtain ⟨⟨⟨_, hp3⟩, hpn⟩, hbok⟩ := hok
  rw [← hm] at hp3
  obtain ⟨nm, hnm⟩ : ∃ n, n = f.name := ⟨_, rfl⟩
  rw [← hnm] at e0
  obtain ⟨P0, hP0⟩ : ∃ P : Prop, P = (fnIx fs nm = some k) := ⟨_, rfl⟩
  obtain ⟨PC, hPC⟩ : ∃ P : Prop, P = (chkL (fun i y => chkS fs k 4 i [] y) f.params.reverse f.body = true) := ⟨_, rfl⟩
  have HOK : Hid (chkF fs k f = true ↔ P0 ∧ f.params.Nodup ∧ PC) := Lib.hid (by
    unfold chkF
    rw [Bool.and_eq_true, Bool.and_eq_true, decide_eq_true_eq, nodupB_iff, hP0, hPC, hnm, and_assoc])
  have HFA := Lib.hid (fun w' hb => specFnAt_any fs w' _ nm (hfs.below hb))
  have HR : Hid (fnAtI fs nm = k ↔ P0) := Lib.hid (by
    rw [hP0]
    unfold fnAtI
    cases fnIx fs nm with
    | none => exact ⟨fun h => by simp only [] at h; omega, fun h => by cases h⟩
    | some i => simp only [Option.some.injEq]; omega)
  have k0 : (0 : Int) ≤ k := by omega
  have k1 : (k : Int) < fl := by omega
  have HPC := Lib.hid hPC; have HM := Lib.hid hm; have HPX := Lib.hid hpx; have HBX := Lib.hid hbx; have HBO := Lib.hid hbok; have HFS := Lib.hid hfs; have HNB := Lib.hid hN
  obtain ⟨i0, hi, hz0, hz1, hz2⟩ := info_parts info_str
  unfold big at hmb hpm
  clear hm hpx hbx hbok hfs hfs2 hfl hkl hnm hP0 hPC hbl' hpn hk
  have hb3 := below3 w (.cells #[.slice (some ⟨b, off, none⟩) fl fcap] 31) (.cells #[.string ⟨#[]⟩, .slice none 0 0, .slice none 0 0] 64) (.cells #[.slice (some ⟨b, off, none⟩) fl fcap, .int .i64 k, .slice none 0 0, .int .i64 0, .int .i64 0] 184)
  have d0 := cellB hb3 e0; have d1 := cellB hb3 e1; have d2 := cellB hb3 e2
  clear hb3 e0 e1 e2
  go_enter Tryz.func119, Tryz.ntmps119
  go_upto_region 3 with (fail)
  generalize hw1 : World.alloc _ _ = w1
  have HM1 : Hid (MidF w (.slice (some ⟨b, off, none⟩) fl fcap) k [.string nm, .slice pa m pc, .slice ba bl bc] (.slice none 0 0) [] 0 True w1) := Lib.hid (by
    rw [← hw1]
    refine ⟨⟨0, by simp, (Blk.fresh (by simp) rfl).alloc _⟩, World.ownsRow_nil _ _ _ _, ((((Blk.new w _ _).alloc _).alloc _).alloc _), (((Blk.fresh (by simp) rfl).alloc _).alloc _), Blk.fresh (by simp) rfl, (below3 w _ _ _).alloc (by simp; omega) _, by simp [Value.ownBlock]⟩)
  clear hw1 d0 d1 d2
  obtain ⟨b0, b1, b2⟩ := blkc3 HM1.out.box
  have p0 := blkc1 HM1.out.pbox
  go_wp2_with (fail)
  go_at_call 149
  refine (HFA.out _ HM1.out.bel).mono ?_
  rintro e w2 ⟨rfl, hb⟩
  have HM2 := Lib.hid (HM1.out.below hb)
  clear hb HM1 b0 b1 b2 p0
  obtain ⟨r, hr⟩ : ∃ r, r = fnAtI fs nm := ⟨_, rfl⟩
  have HRR := Lib.hid hr
  rw [← hr]
  clear hr
  go_upto_if 25 with (fail)
  go_cut [] from 25 to 27 (fun wx => Hid (MidF w (.slice (some ⟨b, off, none⟩) fl fcap) k [.string nm, .slice pa m pc, .slice ba bl bc] (.slice none 0 0) [] 0 P0 wx))
  case first =>
    by_cases hrk : r = k
    · have HX := Lib.hid (show P0 from HR.out.1 (by rw [← HRR.out]; exact hrk))
      have h1 := eqI hrk
      have h2 : (r != (k : Int)) = false := by rw [bne, h1]; rfl
      clear hrk h1
      go_wp2_with (fail)
      go_meet
      case rel => exact Lib.hid (HM2.out.conv ⟨fun _ => HX.out, fun _ => trivial⟩)
    · have HX := Lib.hid (show ¬ P0 from fun h => hrk (by rw [HRR.out]; exact HR.out.2 h))
      have h1 := neI hrk
      have h2 : (r != (k : Int)) = true := by rw [bne, h1]; rfl
      obtain ⟨code1, hc1, hW1⟩ := HM2.out.code
      have HFL := Lib.hid (l4fail_any w2 _ _ k _ 0 code1 2 hW1 (by decide))
      clear hrk h1 hc1 hW1
      go_wp2_with (fail)
      go_at_call 150
      refine HFL.out.mono ?_
      rintro e w3 ⟨rfl, ⟨code3, hc3, hW3⟩, hO⟩
      have HM3 : Hid (MidF w (.slice (some ⟨b, off, none⟩) fl fcap) k [.string nm, .slice pa m pc, .slice ba bl bc] (.slice none 0 0) [] 0 P0 w3) := Lib.hid (HM2.out.step (Fr.of_only hO) (World.ownsRow_nil _ _ _ _) ⟨code3, ⟨fun h => absurd h hc3, fun h => absurd h HX.out⟩, hW3⟩)
      clear hc3 hW3 hO
      go_wp2_with (fail)
      go_meet
      case rel => exact HM3
  case rest =>
  have HM3 := hcut
  clear hcut HM2
  obtain ⟨b0, b1, b2⟩ := blkc3 HM3.out.box
  have hs4 : w.heap.size + 4 ≤ wc.heap.size := HM3.out.box.lt
  go_wp2_with (fail)
  clear b0 b1 b2
  go_loopw [9, 10] (fun pv i wr => ∃ (j : Nat) (xs : List Value) (vv1 : Value) (vs1 : Vr), j ≤ m ∧ i = .int .i64 j ∧ Hid (wr.ownsRow (w.heap.size + 4) 9 1 pv j xs) ∧
    Hid (MidF w (.slice (some ⟨b, off, none⟩) fl fcap) k [.string nm, .slice pa m pc, .slice ba bl bc] vv1 vs1 j (P0 ∧ (f.params.take j).Nodup) wr) ∧ Hid (Sc vs1 0 (f.params.take j).reverse [] j ((m - j) + (f.body.map (stCount 4)).sum))) (fun _ i _ => m - (intOf i).toNat)
  case atStart => exact ⟨0, [], .slice none 0 0, [], Nat.zero_le _, rfl, Lib.hid (ownsRow_mono (ownsRow_empty wc _ _) hs4), Lib.hid ((HM3.out.below (below1 _ _)).conv (by simp)), Lib.hid ⟨fun x => by simp [Known], fun x => by simp [Dup], fun y hy => by simp at hy, fun y hy => by simp at hy, by simp, by have := HNB.out; omega, by have := HNB.out; simp; omega⟩⟩
  case round =>
  obtain ⟨j, xs, vvj, vsj, hjm, rfl, hR, hE, hS⟩ := hrel
  obtain ⟨wo, rfl⟩ : ∃ wo : World, wo = wr := ⟨_, rfl⟩
  clear HM3
  obtain ⟨b0, b1, b2⟩ := blkc3 hE.out.box
  obtain ⟨rn, rc, hrf⟩ := rowForm hR.out
  subst hrf
  by_cases hlt : j < m
  · have hkl : j < f.params.length := by rw [← HM.out]; exact hlt
    obtain ⟨x, hx⟩ : ∃ x, x = f.params[j] := ⟨_, rfl⟩
    have hxk : f.params[j]? = some x := by rw [hx]; exact List.getElem?_eq_getElem hkl
    obtain ⟨_, b', off', rfl, hbl', e0⟩ := HPX.out.get hxk
    have e0 := cellB hE.out.bel e0
    obtain ⟨code1, hc1, hW1⟩ := hE.out.code
    have HPU := Lib.hid (l4put_any wo _ _ k vvj j code1 vsj x 0 hW1 hE.out.vsat hS.out.numsOk)
    have HC1 := Lib.hid hc1
    have HT := Lib.hid (take_snoc' hxk)
    have k0 : (0 : Int) ≤ j := by omega
    have k1 : (j : Int) < m := by omega
    clear hx hxk hc1 hW1
    go_wp2_with (fail)
    go_at_call 151
    refine HPU.out.mono ?_
    rintro e w2 ⟨nm2, vv2, code2, rfl, hc2, hW2, hV2, hF2⟩
    have HE2 : Hid (MidF w (.slice (some ⟨b, off, none⟩) fl fcap) k [.string nm, .slice (some ⟨b', off', none⟩) m pc, .slice ba bl bc] vv2 (vsj ++ [(x, (j : Int), 0)]) (j + 1) (P0 ∧ (f.params.take (j + 1)).Nodup) w2) := Lib.hid (hE.out.step hF2 hV2 ⟨code2, by
      rw [hc2, HC1.out, hS.out.dup, HT.out, nodup_snoc, List.mem_reverse, and_assoc], hW2⟩)
    have HS2 : Hid (Sc (vsj ++ [(x, (j : Int), 0)]) 0 (f.params.take (j + 1)).reverse [] (j + 1) ((m - (j + 1)) + (f.body.map (stCount 4)).sum)) := Lib.hid (by
      rw [HT.out, List.reverse_append]
      exact Sc.put (hS.out.less (by omega) (by omega) (by omega)) x)
    have HR2 := Lib.hid (ownsRow_same hR.out (fun z hz => hF2.block (World.ownsRow.lt hR.out z hz).2 (by have := ownBlock_of hR.out z hz; simp; omega) (rows_ne (by decide) hR.out hE.out.vsat z hz)))
    have hlt3 : w.heap.size + 4 ≤ w2.heap.size := HE2.out.box.lt
    clear hc2 hW2 hV2 hF2 hE hR hS b0 b1 b2 e0
    go_wp2_with (first | (at_builtin; refine wpList_append_lies _ rfl (.tmp 36) (.tmp 44) 61 (by rfl) (w.heap.size + 4) 9 i0 _ 1 16 Tryz.underlying61 hi hz0 hz1 hz2 rfl (by decide) _ j xs (by rfl) (HR2.out.alloc _) ⟨w2.heap.size, 0, none⟩ 1 1 [.string nm2] (by rfl) rfl (World.news_of_block (heap_alloc_new _ _)) (by simp [Value.oneCell']) (by decide) (by unfold maxLen; omega) (by omega) (by simp; omega) _ rfl ?_; intro g9 c9 w9 ho9 hg9 hat9 _; have HE9 := Lib.hid ((HE2.out.below (below1 w2 _)).grown hg9 (fun q hq => ownBlock_of HR2.out q hq) (rows_ne (by decide) HR2.out HE2.out.vsat)); have HO9 := Lib.hid ho9; clear ho9 hg9 hat9))
    go_roundw
    case rel => exact ⟨j + 1, _, vv2, _, by omega, by go_num, HO9, by rw [show ((j + 1 : Nat) : Int) = (j : Int) + 1 by omega]; exact HE9, by rw [show ((j + 1 : Nat) : Int) = (j : Int) + 1 by omega]; exact HS2⟩
    case measure => simp [intOf]; omega
  · obtain rfl : m = j := by omega
    have htk : f.params.take m = f.params := by rw [HM.out, List.take_length]
    rw [htk] at hE hS
    have f1 := hE.out.box.frozen 1
    clear htk hR
    go_upto_region 11 with (fail)
    generalize hw5 : wo.setCell _ _ = w5
    have HM5 : Hid (MidF w (.slice (some ⟨b, off, none⟩) fl fcap) k [.string nm, .slice rn m rc, .slice ba bl bc] vvj vsj m (P0 ∧ f.params.Nodup) w5) := Lib.hid (by rw [← hw5]; exact hE.out.set 1 _)
    clear hw5 hE f1 b0 b1 b2
    obtain ⟨code5, hc5, hW5⟩ := HM5.out.code
    obtain ⟨b0, b1, b2⟩ := blkc3 HM5.out.box
    have HST := Lib.hid (l4stmts_any HFS.out (g := w.heap.size + 2) (k := k) (by omega) 4 f.body _ w5 vvj vsj m code5 0 f.params.reverse [] HBO.out HBX.out HM5.out.bel hW5 HM5.out.vsat (by simpa using hS.out) (by omega) (by omega))
    have HC5 := Lib.hid hc5
    clear hc5 hW5 hS
    go_wp2_with (fail)
    go_at_call 152
    refine HST.out.mono ?_
    rintro e w6 ⟨qa, ql, qc, vv6, vs6, cnt6, code6, rfl, hc6, hW6, hV6, _, hF6, _, _⟩
    have HM6 : Hid (MidF w (.slice (some ⟨b, off, none⟩) fl fcap) k [.string nm, .slice rn m rc, .slice ba bl bc] vv6 vs6 cnt6 (P0 ∧ f.params.Nodup ∧ PC) w6) := Lib.hid (HM5.out.step hF6 hV6 ⟨code6, by rw [hc6, HC5.out, HPC.out, and_assoc], hW6⟩)
    clear hc6 hW6 hV6 hF6 b0 b1 b2 HM5 HST
    have f2 := HM6.out.box.frozen 2
    obtain ⟨b0, b1, b2⟩ := blkc3 HM6.out.box
    go_upto_region 12 with (fail)
    generalize hw7 : w6.setCell _ _ = w7
    have HM7 : Hid (MidF w (.slice (some ⟨b, off, none⟩) fl fcap) k [.string nm, .slice rn m rc, .slice qa ql qc] vv6 vs6 cnt6 (P0 ∧ f.params.Nodup ∧ PC) w7) := Lib.hid (by rw [← hw7]; exact HM6.out.set 2 _)
    clear hw7 HM6 f2 b0 b1 b2
    obtain ⟨code7, hc7, hW7⟩ := HM7.out.code
    obtain ⟨_, _, _, c3, c4⟩ := blkc5 hW7
    obtain ⟨b0, b1, b2⟩ := blkc3 HM7.out.box
    obtain ⟨r0, r1, r2⟩ := blkc3 HM7.out.res
    have f0 := HM7.out.res.frozen 0; have f1 := HM7.out.res.frozen 1; have f2 := HM7.out.res.frozen 2
    have HC7 := Lib.hid hc7
    have HRS := Lib.hid HM7.out.res
    have HBE := Lib.hid HM7.out.bel
    clear hc7 hW7
    go_region_held3 (fun W => W.cell? ⟨w.heap.size + 2, 3, none⟩ = some (.int .i64 cnt6) ∧ W.cell? ⟨w.heap.size + 2, 4, none⟩ = some (.int .i64 code7) ∧ W.cell? ⟨w.heap.size + 3, 0, none⟩ = some (.string nm) ∧ W.cell? ⟨w.heap.size + 3, 1, none⟩ = some (.slice rn m rc) ∧ W.cell? ⟨w.heap.size + 3, 2, none⟩ = some (.slice qa ql qc)) (first | assumption | go_keep) (fail)
    clear r0 r1 r2 c3 c4 b0 b1 b2
    generalize hw8 : World.setCell _ _ _ = w8
    have hres : Blk w8 (w.heap.size + 1) [.string nm, .slice rn m rc, .slice qa ql qc] := by rw [← hw8]; exact ((HRS.out.set 0 _).set 1 _).set 2 _
    have HB8 : Hid (Below w.heap.size w w8) := Lib.hid (by rw [← hw8]; exact ((HBE.out.setCell (Nat.le_succ _) _).setCell (Nat.le_succ _) _).setCell (Nat.le_succ _) _)
    obtain ⟨r0, r1, r2⟩ := blkc3 hres
    clear hw8 hres f0 f1 f2
    go_wp2_with (fail)
    refine bodyPost_ret (v := .tuple #[.agg #[.string nm, .slice rn m rc, .slice qa ql qc], .int .i64 code7, .int .i64 cnt6]) (by simp [results, Tryz.results119, go_sem, r0, r1, r2]) rfl ?_
    exact ⟨nm, rn, m, rc, qa, ql, qc, code7, cnt6, rfl, by rw [HC7.out, HOK.out], HB8.out.drew⟩
def ChkP (fs : List Fx) (w : World) (e : Ending) (w' : World) : Prop := ∃ c : Int, e = .returned (.int .i64 c) ∧ (c = 0 ↔ prFine isNB fs) ∧ Below w.heap.size w w'
theorem prVal_parts {fs : List Fx} (h : prVal isNB fs = true) : (1 ≤ fs.length ∧ fs.length ≤ 4) ∧ (∀ f ∈ fs, fxOk isNB f = true) ∧ (∀ f ∈ fs, (f.body.map (stCount 4)).sum ≤ 40) := by
  unfold prVal at h
  simp only [Bool.and_eq_true, decide_eq_true_eq, List.all_eq_true] at h
  refine ⟨h.1.1, h.1.2, fun f hf => Nat.le_trans (sum_mem_le (fun f : Fx => (f.body.map (stCount 4)).sum) hf) h.2⟩
set_option maxHeartbeats 2000000 in
/-- spec.CheckProgram -/
theorem specCheck_any (fs : List Fx) (w : World) (fv : Value) (h : FxsAt w fv fs) (hle : fxsW fs ≤ 4194304) : Calls Tryz.prog 80 #[.agg #[fv]] w (ChkP fs w) := by
  obtain ⟨a, cap, hform, hmb⟩ := h.form
  obtain ⟨m, hm⟩ : ∃ n, n = fs.length := ⟨_, rfl⟩
  rw [← hm] at hform hmb
  obtain ⟨p, hp⟩ : ∃ q, prVal isNB fs = q := ⟨_, rfl⟩
  have HV := Lib.hid (fun w' (hb : Below w.heap.size w w') => specProg_any fs w' fv p (h.below hb) hle hp)
  have HP := Lib.hid hp; have HM := Lib.hid hm; have HS := Lib.hid h
  subst hform
  unfold big at hmb
  clear hp hm h hle
  go_enter Tryz.func80, Tryz.ntmps80
  go_wp2_with (fail)
  go_at_call 90
  refine (HV.out _ (below1 _ _)).mono ?_
  rintro e w1 ⟨rfl, hb⟩
  have HX1 : Hid (Bx w #[.slice a m cap] 31 w1) := Lib.hid hb
  clear hb HV
  cases p
  · go_wp2_with (fail)
    go_ret
    exact ⟨1, rfl, ⟨fun h => absurd h (by decide), fun h => by have h1 := h.1; rw [HP.out] at h1; cases h1⟩, HX1.out.bel⟩
  have hv := prVal_parts HP.out
  have HV := Lib.hid hv
  have hm4 : m ≤ 4 := by rw [HM.out]; exact hv.1.2
  clear hv
  go_wp2_with (fail)
  go_loopw [3] (fun i wr => ∃ j : Nat, j ≤ m ∧ i = .int .i64 j ∧ Hid (∀ (q : Nat) f, q < j → fs[q]? = some f → chkF fs q f = true) ∧ Hid (Bx w #[.slice a m cap] 31 wr)) (fun i _ => m - (intOf i).toNat)
  case atStart => exact ⟨0, Nat.zero_le _, rfl, Lib.hid (fun q f h => by omega), HX1⟩
  case round =>
  obtain ⟨j, hjm, rfl, hA, HX⟩ := hrel
  obtain ⟨wo, rfl⟩ : ∃ wo : World, wo = wr := ⟨_, rfl⟩
  have g0 := HX.out.at 0 rfl
  by_cases hlt : j < m
  · have hkl : j < fs.length := by rw [← HM.out]; exact hlt
    obtain ⟨x, hx⟩ : ∃ x, x = fs[j] := ⟨_, rfl⟩
    have hxk : fs[j]? = some x := by rw [hx]; exact List.getElem?_eq_getElem hkl
    have hmem := List.mem_of_getElem? hxk
    have HC := Lib.hid (l4Fn_any fs wo _ j x (HS.out.below HX.out.bel) hxk (HV.out.2.1 x hmem) (by have := HV.out.2.2 x hmem; omega))
    have HXK := Lib.hid hxk
    clear hx hxk hmem
    go_wp2_with (fail)
    go_at_call 119
    refine HC.out.mono ?_
    rintro e w2 ⟨nm, a1, l1, c1, a2, l2, c2, code, cnt, rfl, hc, hb⟩
    have HX2 := Lib.hid (HX.out.to hb)
    have HCC := Lib.hid hc
    clear hc hb HC g0
    by_cases h0 : code = 0
    · have HK := Lib.hid (HCC.out.1 h0)
      subst h0
      go_wp2_with (fail)
      go_roundw
      case rel => exact ⟨j + 1, by omega, by go_num, Lib.hid (fun q f hq hf => by
        rcases Nat.lt_or_ge q j with h | h
        · exact hA.out q f h hf
        · obtain rfl : q = j := by omega
          have := HXK.out; rw [hf] at this; injection this with this; rw [this]; exact HK.out), Lib.hid (HX2.out.to (below1 _ _))⟩
      case measure => simp [intOf]; omega
    · have HN := Lib.hid h0
      have h1 := neI h0
      have h2 : (code != 0) = true := by rw [bne, h1]; rfl
      clear h0 h1
      go_wp2_with (fail)
      go_ret
      exact ⟨code, rfl, ⟨fun h => absurd h HN.out, fun h => absurd (HCC.out.2 (h.2 j x HXK.out)) HN.out⟩, (HX2.out.to (below1 _ _)).bel⟩
  · obtain rfl : m = j := by omega
    go_wp2_with (fail)
    go_ret
    exact ⟨0, rfl, ⟨fun _ => ⟨HP.out, fun q f hf => hA.out q f (by rw [HM.out]; exact idx_lt hf) hf⟩, fun _ => rfl⟩, HX.out.bel⟩
set_option maxHeartbeats 1000000 in
/-- spec.l4Fine -/
theorem specFine_any (fs : List Fx) (w : World) (fv : Value) (p : Bool) (h : FxsAt w fv fs) (hle : fxsW fs ≤ 4194304) (hp : p = true ↔ prFine isNB fs) : Calls Tryz.prog 43 #[.agg #[fv]] w (BoolP p w) := by
  have HC := Lib.hid (fun w' (hb : Below w.heap.size w w') => specCheck_any fs w' fv (h.below hb) hle)
  obtain ⟨a, cap, hform, hmb⟩ := h.form
  subst hform
  have HP := Lib.hid hp
  clear h hle hp
  go_enter Tryz.func43, Tryz.ntmps43
  go_wp2_with (fail)
  go_at_call 80
  refine (HC.out _ (below1 _ _)).mono ?_
  rintro e w1 ⟨c, rfl, hc, hb⟩
  have HB := Lib.hid ((below1 w _).trans (hb.mono (by simp)))
  have HCC := Lib.hid hc
  clear hb hc
  by_cases h0 : c = 0
  · obtain rfl : p = true := HP.out.2 (HCC.out.1 h0)
    subst h0
    go_wp2_with (fail)
    go_ret
    exact ⟨rfl, HB.out⟩
  · have hpf : p = false := by
      cases p
      · rfl
      · exact absurd (HCC.out.2 (HP.out.1 rfl)) h0
    subst hpf
    have h1 := neI h0
    clear h0
    go_wp2_with (fail)
    go_ret
    exact ⟨rfl, HB.out⟩
end Go.Proofs.YtpnliencahnmoaaGreatDoor

set_option linter.unusedVariables false
set_option linter.unusedSimpArgs false
set_option maxRecDepth 100000
namespace Go.Proofs.YtpnliencahnmoaaGreatDoor
open Go.RowKit
/-- statements are counted in two cells -/
def MsP (w : World) (P Q : Nat) (c : Int) (e : Ending) (w' : World) : Prop := e = .returned (.tuple #[]) ∧ Only [P, Q] w w' ∧ Blk w' P [.int .i64 c] ∧ ∃ dp, Blk w' Q [.int .i64 dp]
set_option maxHeartbeats 1000000 in
theorem mClo_any (w : World) (P Q : Nat) (c dp ne op : Int) (name : ByteArray) (av bv ev : Value) (aa ba ea : Option Addr) (al ac bl bc el ec : Nat) (ha : av = .slice aa al ac) (hb : bv = .slice ba bl bc) (he : ev = .slice ea el ec) (hP : Blk w P [.int .i64 c]) (hQ : Blk w Q [.int .i64 dp]) (hne : P ≠ Q) (h0 : 0 ≤ c) (h1 : c ≤ 16777216) :
    Calls Tryz.prog 175 #[.agg #[.int .i64 op, .string name, av, bv, ev], .int .i64 ne, .pointer (some ⟨P, 0, none⟩), .pointer (some ⟨Q, 0, none⟩)] w (MsP w P Q (c + 1)) := by
  subst ha hb he
  obtain ⟨w1, hw1⟩ : ∃ w1, w1 = w.alloc (.cells #[.int .i64 op, .string name, .slice aa al ac, .slice ba bl bc, .slice ea el ec] 70) := ⟨_, rfl⟩
  have hP1 : Blk w1 P [.int .i64 c] := by rw [hw1]; exact hP.alloc _
  have hQ1 : Blk w1 Q [.int .i64 dp] := by rw [hw1]; exact hQ.alloc _
  have hO1 : Only [P, Q] w w1 := by rw [hw1]; exact (Only.refl _ w).alloc _
  have x0 : w1.cell? ⟨P, 0, none⟩ = some (.int .i64 c) := by rw [hP1.cell]; rfl
  have y0 : (w1.setCell ⟨P, 0, none⟩ (.int .i64 (c + 1))).cell? ⟨Q, 0, none⟩ = some (.int .i64 dp) := by rw [(hQ1.other (a := ⟨P, 0, none⟩) (fun e => hne e.symm) _).cell]; rfl
  have x1 : w1.frozen? ⟨P, 0, none⟩ = false := hP1.frozen 0
  have y1 : (w1.setCell ⟨P, 0, none⟩ (.int .i64 (c + 1))).frozen? ⟨Q, 0, none⟩ = false := (hQ1.other (a := ⟨P, 0, none⟩) (fun e => hne e.symm) _).frozen 0
  have HP1 := Lib.hid hP1; have HQ1 := Lib.hid hQ1; have HO1 := Lib.hid hO1; have HNE := Lib.hid hne
  clear hP hQ hP1 hQ1 hO1 hne
  go_enter Tryz.func175, Tryz.ntmps175
  go_upto_region 1 with (fail)
  rw [← hw1]
  clear hw1
  go_wp2_with (fail)
  all_goals
    go_end0
    exact ⟨rfl, (HO1.out.setCell (by simp) _).setCell (by simp) _, ((HP1.out.set 0 _).other (a := ⟨Q, 0, none⟩) HNE.out _), ⟨_, ((HQ1.out.other (a := ⟨P, 0, none⟩) (fun e => HNE.out e.symm) _).set 0 _)⟩⟩
set_option maxHeartbeats 4000000 in
theorem jStmts_any (w0 : World) (P Q : Nat) (hPQ : P ≠ Q) (hP0 : w0.heap.size ≤ P) (hQ0 : w0.heap.size ≤ Q) : ∀ (d : Nat), d ≤ 4 → ∀ (ss : List St) (w : World) (v : Value) (c dp : Int), ss.all (stOk isNB d) = true → StsAt w0 v ss → Below w0.heap.size w0 w → Blk w P [.int .i64 c] → Blk w Q [.int .i64 dp] → 0 ≤ c → c + ((ss.map (stCount d)).sum : Nat) ≤ 8388608 →
    Calls Tryz.prog 174 #[v, .int .i64 (5 - (d : Int)), .func (.func 175) #[] #[.pointer (some ⟨P, 0, none⟩), .pointer (some ⟨Q, 0, none⟩)]] w (MsP w P Q (c + ((ss.map (stCount d)).sum : Nat))) := by
  intro d
  induction d with
  | zero =>
    intro _ ss w v c dp hok hS _ hP hQ _ _
    have : ss = [] := by
      cases ss with
      | nil => rfl
      | cons x r => cases x; simp [stOk] at hok
    subst this
    obtain ⟨a, cap, hf⟩ := hS.form
    subst hf
    have HP := Lib.hid hP; have HQ := Lib.hid hQ
    clear hP hQ hS hok
    go_enter Tryz.func174, Tryz.ntmps174
    go_wp2_with (fail)
    go_loopw [10] (fun i wr => i = .int .i64 0 ∧ wr = w) (fun _ _ => 0)
    case atStart => exact ⟨rfl, rfl⟩
    case round =>
      obtain ⟨rfl, rfl⟩ := hrel
      go_wp2_with (fail)
      go_end0
      exact ⟨rfl, Only.refl _ _, by simpa using HP.out, _, HQ.out⟩
  | succ d ih =>
    intro hd ss w v c dp hok hS hb0 hP hQ hc0 hc
    obtain ⟨a, cap, hf⟩ := hS.form
    obtain ⟨m, hm⟩ : ∃ m, m = ss.length := ⟨_, rfl⟩
    have hmb : m ≤ big := by rw [hm]; exact hS.lens.1
    unfold big at hmb
    rw [← hm] at hf
    subst hf
    obtain ⟨T, hT⟩ : ∃ T, T = (ss.map (stCount (d + 1))).sum := ⟨_, rfl⟩
    rw [← hT] at hc ⊢
    obtain ⟨ne, hne⟩ : ∃ n : Int, n = 5 - ((d + 1 : Nat) : Int) := ⟨_, rfl⟩
    have hne1 : 0 ≤ ne ∧ ne ≤ 4 := by omega
    have HNE : Hid (ne + 1 = 5 - (d : Int)) := Lib.hid (by omega)
    rw [← hne]
    have HIH : Hid (∀ ss w v c dp, ss.all (stOk isNB d) = true → StsAt w0 v ss → Below w0.heap.size w0 w → Blk w P [.int .i64 c] → Blk w Q [.int .i64 dp] → 0 ≤ c → c + ((ss.map (stCount d)).sum : Nat) ≤ 8388608 →
      Calls Tryz.prog 174 #[v, .int .i64 (ne + 1), .func (.func 175) #[] #[.pointer (some ⟨P, 0, none⟩), .pointer (some ⟨Q, 0, none⟩)]] w (MsP w P Q (c + ((ss.map (stCount d)).sum : Nat)))) := Lib.hid (fun ss w v c dp => by rw [HNE.out]; exact ih (by omega) ss w v c dp)
    have hone : ∀ s : St, stCount (d + 1) s = 1 + (s.body.map (stCount d)).sum + (s.els.map (stCount d)).sum := fun s => by cases s; rfl
    have HOK := Lib.hid hok; have HS := Lib.hid hS; have HM := Lib.hid hm; have HB0 := Lib.hid hb0; have HP := Lib.hid hP; have HQ := Lib.hid hQ; have HT := Lib.hid hT; have HONE := Lib.hid hone; have HPQ := Lib.hid hPQ; have HP0 := Lib.hid hP0; have HQ0 := Lib.hid hQ0
    clear hok hS hm hb0 hP hQ hT hone ih hne
    go_enter Tryz.func174, Tryz.ntmps174
    go_wp2_with (fail)
    go_loopw [10] (fun i wr => ∃ (k S : Nat), k ≤ m ∧ i = .int .i64 (k : Int) ∧ S ≤ T ∧ Hid (S = ((ss.take k).map (stCount (d + 1))).sum) ∧ Hid (Only [P, Q] w wr ∧ Blk wr P [.int .i64 (c + S)] ∧ ∃ dp, Blk wr Q [.int .i64 dp])) (fun i _ => m - (intOf i).toNat)
    case atStart => exact ⟨0, 0, Nat.zero_le _, rfl, Nat.zero_le _, Lib.hid (by simp), Lib.hid ⟨Only.refl _ _, by simpa using HP.out, _, HQ.out⟩⟩
    case round =>
      obtain ⟨k, S, hk, rfl, hST, hS2, HR⟩ := hrel
      by_cases hlt : k < m
      · have hkl : k < ss.length := by rw [← HM.out]; exact hlt
        obtain ⟨x, hx⟩ : ∃ x, x = ss[k] := ⟨_, rfl⟩
        have hxk : ss[k]? = some x := by rw [hx]; exact List.getElem?_eq_getElem hkl
        obtain ⟨b, off, av, bv, ev, rfl, hbl, e0, e1, e2, e3, e4, ka, kb, ke⟩ := HS.out.get hxk
        have hbr : Below w0.heap.size w0 wr := Only.below HB0.out HR.out.1 HB0.out.size (by simp; exact ⟨HP0.out, HQ0.out⟩)
        have HBR := Lib.hid hbr
        have e0 := cellB hbr e0; have e1 := cellB hbr e1; have e2 := cellB hbr e2; have e3 := cellB hbr e3; have e4 := cellB hbr e4
        obtain ⟨aa, ac, haf⟩ := ka.form
        obtain ⟨ba, bc, hbf⟩ := kb.form
        obtain ⟨ea, ec, hef⟩ := ke.form
        have HKB := Lib.hid kb; have HKE := Lib.hid ke
        have hxok : stOk isNB (d + 1) x = true := List.all_eq_true.1 HOK.out x (List.mem_of_getElem? hxk)
        have hbo : x.body.all (stOk isNB d) = true ∧ x.els.all (stOk isNB d) = true := by
          cases x
          unfold stOk at hxok
          simp only [Bool.and_eq_true] at hxok
          exact ⟨hxok.1.2, hxok.2⟩
        have HBO := Lib.hid hbo
        have hcnt := sum_take_succ (stCount (d + 1)) ss k x hxk
        have hle := sum_take_le (stCount (d + 1)) ss (k + 1)
        rw [hcnt, ← hS2.out, ← HT.out, HONE.out] at hle
        have HCT : Hid (S + (1 + (x.body.map (stCount d)).sum + (x.els.map (stCount d)).sum) = ((ss.take (k + 1)).map (stCount (d + 1))).sum) := Lib.hid (by rw [hcnt, ← hS2.out, HONE.out])
        obtain ⟨cb, hcb⟩ : ∃ q, q = (x.body.map (stCount d)).sum := ⟨_, rfl⟩
        obtain ⟨ce, hce⟩ : ∃ q, q = (x.els.map (stCount d)).sum := ⟨_, rfl⟩
        rw [← hcb, ← hce] at HCT hle
        have HCB := Lib.hid hcb; have HCE := Lib.hid hce
        obtain ⟨al, hal⟩ : ∃ l, l = x.args.length := ⟨_, rfl⟩
        obtain ⟨bl, hbll⟩ : ∃ l, l = x.body.length := ⟨_, rfl⟩
        obtain ⟨el, hel⟩ : ∃ l, l = x.els.length := ⟨_, rfl⟩
        rw [← hal] at haf
        rw [← hbll] at hbf
        rw [← hel] at hef
        subst haf hbf hef
        obtain ⟨hRO, hRP, dp1, hRQ⟩ := HR.out
        have HRO := Lib.hid hRO
        have k0 : (0 : Int) ≤ k := by omega
        have k1 : (k : Int) < m := by omega
        obtain ⟨wa, hwa⟩ : ∃ wa, wa = wr.alloc (.cells #[.int .i64 x.op, .string x.name, .slice aa al ac, .slice ba bl bc, .slice ea el ec] 70) := ⟨_, rfl⟩
        have HWA : Hid (Only [P, Q] w wa ∧ Blk wa P [.int .i64 (c + S)] ∧ Blk wa Q [.int .i64 dp1] ∧ Blk wa wr.heap.size [.int .i64 x.op, .string x.name, .slice aa al ac, .slice ba bl bc, .slice ea el ec]) := Lib.hid (by rw [hwa]; exact ⟨hRO.alloc _, hRP.alloc _, hRQ.alloc _, Blk.new _ _ _⟩)
        have HNN : Hid (P ≠ wr.heap.size ∧ Q ≠ wr.heap.size) := Lib.hid ⟨by have := hRP.lt; omega, by have := hRQ.lt; omega⟩
        clear hkl hx hxk ka kb ke hbr hbo hxok hcnt hcb hce hal hbll hel hRO hRP hRQ hS2 HR
        go_upto_region 3 with (fail)
        rw [← hwa]
        clear hwa
        obtain ⟨z0, z1, z2, z3, z4⟩ := blkc5 HWA.out.2.2.2
        go_wp2_with (fail)
        go_at_call 175
        refine (mClo_any wa P Q (c + S) dp1 ne x.op x.name _ _ _ _ _ _ _ _ _ _ _ _ rfl rfl rfl HWA.out.2.1 HWA.out.2.2.1 HPQ.out (by omega) (by omega)).mono ?_
        rintro e w2 ⟨rfl, hO2, hP2, dp2, hQ2⟩
        have hz2 := hO2.blk HWA.out.2.2.2 (by simp; exact ⟨fun e => HNN.out.1 e.symm, fun e => HNN.out.2 e.symm⟩)
        have HZ2 := Lib.hid hz2
        obtain ⟨z0, z1, z2, z3, z4⟩ := blkc5 hz2
        have HO2 := Lib.hid (HWA.out.1.trans hO2); have HP2 := Lib.hid hP2; have HQ2 := Lib.hid hQ2
        clear hO2 hP2 hQ2 hz2
        go_wp2_with (fail)
        go_at_call 174
        refine (HIH.out x.body w2 _ (c + S + 1) dp2 HBO.out.1 HKB.out (Only.below HB0.out HO2.out HB0.out.size (by simp; exact ⟨HP0.out, HQ0.out⟩)) HP2.out HQ2.out (by omega) (by rw [← HCB.out]; omega)).mono ?_
        rw [← HCB.out]
        rintro e w3 ⟨rfl, hO3, hP3, dp3, hQ3⟩
        have hz3 := hO3.blk HZ2.out (by simp; exact ⟨fun e => HNN.out.1 e.symm, fun e => HNN.out.2 e.symm⟩)
        obtain ⟨z0, z1, z2, z3, z4⟩ := blkc5 hz3
        have HO3 := Lib.hid (HO2.out.trans hO3); have HP3 := Lib.hid hP3; have HQ3 := Lib.hid hQ3
        clear hO3 hP3 hQ3 hz3
        go_wp2_with (fail)
        go_at_call 174
        refine (HIH.out x.els w3 _ (c + S + 1 + cb) dp3 HBO.out.2 HKE.out (Only.below HB0.out HO3.out HB0.out.size (by simp; exact ⟨HP0.out, HQ0.out⟩)) HP3.out HQ3.out (by omega) (by rw [← HCE.out]; omega)).mono ?_
        rw [← HCE.out]
        rintro e w4 ⟨rfl, hO4, hP4, dp4, hQ4⟩
        have HO4 := Lib.hid (HO3.out.trans hO4); have HQ4 := Lib.hid hQ4
        have HP4 : Hid (Blk w4 P [.int .i64 (c + ((S + (1 + cb + ce) : Nat) : Int))]) := Lib.hid (by
          rw [show c + ((S + (1 + cb + ce) : Nat) : Int) = c + S + 1 + cb + ce by omega]; exact hP4)
        clear hO4 hP4 hQ4
        go_wp2_with (fail)
        go_roundw
        case rel => exact ⟨k + 1, S + (1 + cb + ce), by omega, by go_num, hle, HCT, Lib.hid ⟨HO4.out, HP4.out, _, HQ4.out⟩⟩
        case measure => simp [intOf]; omega
      · obtain rfl : k = m := by omega
        have hSe : S = T := by have := hS2.out; rw [HM.out, List.take_length] at this; rw [this, HT.out]
        subst hSe
        clear hS2
        go_wp2_with (fail)
        go_end0
        exact ⟨rfl, HR.out.1, HR.out.2.1, HR.out.2.2⟩
end Go.Proofs.YtpnliencahnmoaaGreatDoor

set_option linter.unusedVariables false
set_option linter.unusedSimpArgs false
set_option maxRecDepth 100000
namespace Go.Proofs.YtpnliencahnmoaaGreatDoor
open Go.RowKit
theorem StrsAt.len {w : World} {v : Value} {ss : List ByteArray} (h : StrsAt w v ss) {i : Nat} {s : ByteArray} (hi : ss[i]? = some s) : s.size ≤ big := by
  obtain ⟨a, c, hf, _, hc⟩ := h
  exact (hc i s hi).1
def FxsW (fs : List Fx) : Prop := ∀ f ∈ fs, ∀ s ∈ f.body, StW s
/-- how measure answers -/
def MeaP (c : Int) (w : World) (e : Ending) (w' : World) : Prop := ∃ d : Int, e = .returned (.tuple #[.int .i64 c, .int .i64 d]) ∧ Below w.heap.size w w'
set_option maxHeartbeats 4000000 in
theorem measure_any (fs : List Fx) (w : World) (fv : Value) (hok : fs.all (fxOk isNB) = true) (h : FxsAt w fv fs) (hle : fsCount fs ≤ 4194304) :
    Calls Tryz.prog 137 #[.agg #[fv]] w (MeaP (fsCount fs : Nat) w) := by
  obtain ⟨a, cap, hform, hmb⟩ := h.form
  obtain ⟨m, hm⟩ : ∃ m, m = fs.length := ⟨_, rfl⟩
  rw [← hm] at hform hmb
  subst hform
  obtain ⟨T, hT⟩ : ∃ T, T = fsCount fs := ⟨_, rfl⟩
  rw [← hT] at hle ⊢
  unfold big at hmb
  have hmf : ∀ (fn : Fn) (first cap : Array Value) (w : World), (Instr.makeFunc fn first cap).run Tryz.prog w = .ok (.func fn first cap) w := fun _ _ _ _ => rfl
  have HOK : Hid (∀ x ∈ fs, x.body.all (stOk isNB 4) = true) := Lib.hid (fun x hx => by
    have := List.all_eq_true.1 hok x hx
    unfold fxOk at this
    simp only [Bool.and_eq_true] at this
    exact this.2)
  obtain ⟨ad, had⟩ : ∃ ad : Fx → Nat, ad = fun f => (f.body.map (stCount 4)).sum := ⟨_, rfl⟩
  have HT : Hid (T = (fs.map ad).sum) := Lib.hid (by rw [hT, had]; rfl)
  have HAD : Hid (∀ f, ad f = (f.body.map (stCount 4)).sum) := Lib.hid (fun f => by rw [had])
  obtain ⟨P, hP⟩ : ∃ P, P = w.heap.size + 1 := ⟨_, rfl⟩
  obtain ⟨Q, hQ⟩ : ∃ Q, Q = w.heap.size + 1 + 1 := ⟨_, rfl⟩
  obtain ⟨w1, hw1⟩ : ∃ w1, w1 = ((w.alloc (.cells #[.slice a m cap] 31)).alloc (.cells #[.int .i64 0] 3)).alloc (.cells #[.int .i64 0] 3) := ⟨_, rfl⟩
  have hb1 : Below w.heap.size w w1 := by rw [hw1]; exact (((Below.refl _ w).alloc (Nat.le_refl _) _).alloc (by simp) _).alloc (by simp; omega) _
  have hBP : Blk w1 P [.int .i64 0] := by rw [hw1, hP]; exact (Blk.fresh (by simp) rfl).alloc _
  have hBQ : Blk w1 Q [.int .i64 0] := by rw [hw1, hQ]; exact Blk.fresh (by simp) rfl
  have hBX : Blk w1 w.heap.size [.slice a m cap] := by rw [hw1]; exact ((Blk.new _ _ _).alloc _).alloc _
  have x0 : w1.cell? ⟨w.heap.size, 0, none⟩ = some (.slice a m cap) := by rw [hBX.cell]; rfl
  have HPQ : Hid (P ≠ Q ∧ w.heap.size ≤ P ∧ w.heap.size ≤ Q) := Lib.hid (by omega)
  have HST : Hid (∀ (ss : List St) (w' : World) (v : Value) (c dp : Int), ss.all (stOk isNB 4) = true → StsAt w v ss → Below w.heap.size w w' → Blk w' P [.int .i64 c] → Blk w' Q [.int .i64 dp] → 0 ≤ c → c + ((ss.map (stCount 4)).sum : Nat) ≤ 8388608 →
    Calls Tryz.prog 174 #[v, .int .i64 1, .func (.func 175) #[] #[.pointer (some ⟨P, 0, none⟩), .pointer (some ⟨Q, 0, none⟩)]] w' (MsP w' P Q (c + ((ss.map (stCount 4)).sum : Nat)))) := Lib.hid (fun ss w' v c dp =>
      jStmts_any w P Q HPQ.out.1 HPQ.out.2.1 HPQ.out.2.2 4 (Nat.le_refl _) ss w' v c dp)
  have HM := Lib.hid hm; have HS := Lib.hid h; have HB1 := Lib.hid hb1; have HBP := Lib.hid hBP; have HBQ := Lib.hid hBQ
  have HPE := Lib.hid (And.intro hP hQ)
  clear hok hm h hT had hb1 hBP hBQ hBX
  go_enter Tryz.func137, Tryz.ntmps137
  go_upto_region 1 with (fail)
  rw [← hw1, ← hQ, ← hP]
  clear hw1 hP hQ
  go_wp2_with (fail)
  go_loopw [9] (fun i wr => ∃ (k S : Nat), k ≤ m ∧ i = .int .i64 (k : Int) ∧ S ≤ T ∧ Hid (S = ((fs.take k).map ad).sum) ∧ Hid (Below w.heap.size w wr ∧ Blk wr P [.int .i64 (S : Int)] ∧ ∃ dp, Blk wr Q [.int .i64 dp])) (fun i _ => m - (intOf i).toNat)
  case atStart => exact ⟨0, 0, Nat.zero_le _, rfl, Nat.zero_le _, Lib.hid (by simp), Lib.hid ⟨HB1.out, HBP.out, _, HBQ.out⟩⟩
  case round =>
    obtain ⟨k, S, hk, rfl, hST, hS2, HR⟩ := hrel
    by_cases hlt : k < m
    · have hkl : k < fs.length := by rw [← HM.out]; exact hlt
      obtain ⟨x, hx⟩ : ∃ x, x = fs[k] := ⟨_, rfl⟩
      have hxk : fs[k]? = some x := by rw [hx]; exact List.getElem?_eq_getElem hkl
      obtain ⟨hz, b, off, pv, bv, rfl, hbl, e0, e1, e2, hpv, hbv⟩ := HS.out.get hxk
      have hbr := HR.out.1
      have HBR := Lib.hid hbr
      have e0 := cellB hbr e0; have e1 := cellB hbr e1; have e2 := cellB hbr e2
      obtain ⟨pa, pc, hpf, _⟩ := hpv.form
      obtain ⟨ba, bc, hbf⟩ := hbv.form
      have HBV := Lib.hid hbv
      have HOX := Lib.hid (HOK.out x (List.mem_of_getElem? hxk))
      have hcnt := sum_take_succ ad fs k x hxk
      have hle2 := sum_take_le ad fs (k + 1)
      rw [hcnt, ← hS2.out, ← HT.out] at hle2
      have HCT : Hid (S + ad x = ((fs.take (k + 1)).map ad).sum) := Lib.hid (by rw [hcnt, ← hS2.out])
      have HAX := Lib.hid (HAD.out x)
      obtain ⟨ax, hax⟩ : ∃ q, q = ad x := ⟨_, rfl⟩
      rw [← hax] at HCT hle2 HAX
      obtain ⟨pl, hpl⟩ : ∃ l, l = x.params.length := ⟨_, rfl⟩
      obtain ⟨bl, hbll⟩ : ∃ l, l = x.body.length := ⟨_, rfl⟩
      rw [← hpl] at hpf
      rw [← hbll] at hbf
      subst hpf hbf
      obtain ⟨_, hRP, dp1, hRQ⟩ := HR.out
      have k0 : (0 : Int) ≤ k := by omega
      have k1 : (k : Int) < m := by omega
      obtain ⟨wa, hwa⟩ : ∃ wa, wa = wr.alloc (.cells #[.string x.name, .slice pa pl pc, .slice ba bl bc] 64) := ⟨_, rfl⟩
      have HWA : Hid (Below w.heap.size w wa ∧ Blk wa P [.int .i64 (S : Int)] ∧ Blk wa Q [.int .i64 dp1] ∧ Blk wa wr.heap.size [.string x.name, .slice pa pl pc, .slice ba bl bc]) := Lib.hid (by rw [hwa]; exact ⟨hbr.trans ((below1 _ _).mono hbr.size), hRP.alloc _, hRQ.alloc _, Blk.new _ _ _⟩)
      clear hkl hx hxk hpv hbv hbr hcnt hax hpl hbll hRP hRQ hS2 HR hbl hz
      go_upto_region 4 with (fail)
      rw [← hwa]
      clear hwa
      obtain ⟨z0, z1, z2⟩ := blkc3 HWA.out.2.2.2
      go_wp2_with (fail)
      go_at_call 174
      refine (HST.out x.body wa _ S dp1 HOX.out HBV.out HWA.out.1 HWA.out.2.1 HWA.out.2.2.1 (by omega) (by rw [← HAX.out]; omega)).mono ?_
      rw [← HAX.out]
      rintro e w3 ⟨rfl, hO3, hP3, dp3, hQ3⟩
      have HB3 : Hid (Below w.heap.size w w3) := Lib.hid (Only.below HWA.out.1 hO3 HWA.out.1.size (by simp; exact HPQ.out.2))
      have HQ3 := Lib.hid hQ3
      have HP3 : Hid (Blk w3 P [.int .i64 ((S + ax : Nat) : Int)]) := Lib.hid (by rw [Int.natCast_add]; exact hP3)
      clear hO3 hP3 hQ3
      go_wp2_with (fail)
      go_roundw
      case rel => exact ⟨k + 1, S + ax, by omega, by go_num, hle2, HCT, Lib.hid ⟨HB3.out, HP3.out, _, HQ3.out⟩⟩
      case measure => simp [intOf]; omega
    · obtain rfl : k = m := by omega
      have hSe : S = T := by have := hS2.out; rw [HM.out, List.take_length] at this; rw [this, HT.out]
      subst hSe
      obtain ⟨hBR, hRP, dp1, hRQ⟩ := HR.out
      have p0 : wr.cell? ⟨P, 0, none⟩ = some (.int .i64 (S : Int)) := by rw [hRP.cell]; rfl
      have p1 : wr.cell? ⟨Q, 0, none⟩ = some (.int .i64 dp1) := by rw [hRQ.cell]; rfl
      have p2 : wr.frozen? ⟨P, 0, none⟩ = false := hRP.frozen 0
      have p3 : wr.frozen? ⟨Q, 0, none⟩ = false := hRQ.frozen 0
      have HBR := Lib.hid hBR; have HRP := Lib.hid hRP; have HRQ := Lib.hid hRQ
      have hne := HPQ.out.1
      have hne2 : Q ≠ P := fun e => hne e.symm
      clear hS2 hBR hRP hRQ HR
      go_upto_region 6 with (fail)
      go_region
      have hE : Below w.heap.size w ((wr.setCell ⟨P, 0, none⟩ (.int .i64 (S : Int))).setCell ⟨Q, 0, none⟩ (.int .i64 dp1)).drew := ((HBR.out.setCell HPQ.out.2.1 _).setCell HPQ.out.2.2 _).drew
      have r0 : ((wr.setCell ⟨P, 0, none⟩ (.int .i64 (S : Int))).setCell ⟨Q, 0, none⟩ (.int .i64 dp1)).drew.cell? ⟨P, 0, none⟩ = some (.int .i64 (S : Int)) := by
        rw [(((HRP.out.set 0 _).other (a := ⟨Q, 0, none⟩) hne _).drew).cell]; rfl
      have r1 : ((wr.setCell ⟨P, 0, none⟩ (.int .i64 (S : Int))).setCell ⟨Q, 0, none⟩ (.int .i64 dp1)).drew.cell? ⟨Q, 0, none⟩ = some (.int .i64 dp1) := by
        rw [(((HRQ.out.other (a := ⟨P, 0, none⟩) hne2 _).set 0 _).drew).cell]; rfl
      generalize ((wr.setCell ⟨P, 0, none⟩ (.int .i64 (S : Int))).setCell ⟨Q, 0, none⟩ (.int .i64 dp1)).drew = we at hE r0 r1 ⊢
      clear p0 p1 p2 p3 HRP HRQ HBR
      go_wp2_with (fail)
      refine bodyPost_ret (v := .tuple #[.int .i64 (S : Int), .int .i64 dp1]) (by simp [results, Tryz.results137, go_sem, r0, r1]) rfl ?_
      exact ⟨_, rfl, hE⟩
set_option maxHeartbeats 1000000 in
theorem pClo_any (w : World) (s : ByteArray) (q : Bool) (hK : KS w) (hz : s.size ≤ big) (hq : q = !isNB s) : Calls Tryz.prog 135 #[.string s] w (BoolP q w) := by
  obtain ⟨p, hp⟩ : ∃ p, p = isNB s := ⟨_, rfl⟩
  rw [← hp] at hq
  have HC := Lib.hid (isName_any w s p hK.1 hz hp)
  subst hq
  clear hp hz hK
  go_enter Tryz.func135, Tryz.ntmps135
  go_wp2_with (fail)
  go_at_call 133
  refine HC.out.mono ?_
  rintro e w2 ⟨rfl, hb⟩
  go_wp2_with (fail)
  go_ret
  exact ⟨rfl, hb⟩
theorem prVal_eq (fs : List Fx) : prVal isNB fs = (inR 1 4 (fs.length : Int) && fs.all (fxOk isNB) && decide (fsCount fs ≤ 40)) := by
  have e : decide (1 ≤ fs.length ∧ fs.length ≤ 4) = inR 1 4 (fs.length : Int) := by rw [Bool.eq_iff_iff, decide_eq_true_eq, inR_iff]; omega
  unfold prVal
  rw [e]; rfl
theorem fxOk_eq (f : Fx) : fxOk isNB f = (isNB f.name && !decide ((3 : Int) < f.params.length) && !(f.params.any fun s => !isNB s) && f.body.all (stOk isNB 4)) := by
  have e : (!f.params.any fun s => !isNB s) = f.params.all isNB := all_not_any _ _
  have e2 : (!decide ((3 : Int) < f.params.length)) = decide (f.params.length ≤ 3) := by
    rw [Bool.eq_iff_iff]; simp; omega
  rw [e, e2]; rfl
set_option maxHeartbeats 8000000 in
theorem progValid_any (fs : List Fx) (w : World) (fv : Value) (p : Bool) (hK : KS w) (hW : FxsW fs) (h : FxsAt w fv fs) (hle : fxsW fs ≤ 4194304) (hp : prVal isNB fs = p) :
    Calls Tryz.prog 97 #[.agg #[fv]] w (BoolP p w) := by
  obtain ⟨a, cap, hform, hmb⟩ := h.form
  have hfc : fsCount fs ≤ 4194304 := Nat.le_trans (fsCount_le fs) hle
  rw [prVal_eq] at hp
  have hb1 := below1 w (.cells #[fv] 31)
  have HMEA := Lib.hid (fun w' (hb : Below w.heap.size w w') (hok : fs.all (fxOk isNB) = true) => measure_any fs w' fv hok (h.below hb) hfc)
  have HFC := Lib.hid hfc
  obtain ⟨m, hm⟩ : ∃ m, m = fs.length := ⟨_, rfl⟩
  rw [← hm] at hform hmb hp
  subst hform
  obtain ⟨q1, hq1⟩ : ∃ q, inR 1 4 (m : Int) = q := ⟨_, rfl⟩
  rw [hq1] at hp
  have HP := Lib.hid hp; have HM := Lib.hid hm; have HS := Lib.hid h; have HB1 := Lib.hid hb1; have HKS := Lib.hid hK; have HWF := Lib.hid hW
  have HW1 := Lib.hid (within_named (m : Int) 1 4 q1 hq1)
  have x0 : (w.alloc (.cells #[.slice a m cap] 31)).cell? ⟨w.heap.size, 0, none⟩ = some (.slice a m cap) := by simp [go_sem]
  have HX0 := Lib.hid x0
  unfold big at hmb
  clear hp hm h hb1 hK hW hle hfc hq1
  go_enter Tryz.func97, Tryz.ntmps97
  go_wp2_with (fail)
  go_at_call 39
  refine (HW1.out _).mono ?_
  rintro e _ ⟨rfl, rfl⟩
  cases q1
  · go_wp2_with (fail)
    go_ret
    exact ⟨by rw [← HP.out]; rfl, HB1.out⟩
  rw [Bool.true_and] at HP
  go_wp2_with (fail)
  go_loopw [15] (fun i wr => ∃ k : Nat, k ≤ m ∧ i = .int .i64 (k : Int) ∧ Hid ((fs.take k).all (fxOk isNB) = true) ∧ Hid (Below (w.alloc (.cells #[.slice a m cap] 31)).heap.size (w.alloc (.cells #[.slice a m cap] 31)) wr)) (fun i _ => m - (intOf i).toNat)
  case atStart => exact ⟨0, Nat.zero_le _, rfl, Lib.hid rfl, Lib.hid (Below.refl _ _)⟩
  case round =>
    obtain ⟨k, hk, rfl, hA, HBX⟩ := hrel
    have HBR : Hid (Below w.heap.size w wr) := Lib.hid (HB1.out.trans (HBX.out.mono HB1.out.size))
    have x1 := cellB HBX.out HX0.out
    by_cases hlt : k < m
    · have hkl : k < fs.length := by rw [← HM.out]; exact hlt
      obtain ⟨f, hx⟩ : ∃ x, x = fs[k] := ⟨_, rfl⟩
      have hxk : fs[k]? = some f := by rw [hx]; exact List.getElem?_eq_getElem hkl
      obtain ⟨hz, b, off, pv, bv, rfl, hbl, e0, e1, e2, hpv, hbv⟩ := HS.out.get hxk
      have e0 := cellB HBR.out e0; have e1 := cellB HBR.out e1; have e2 := cellB HBR.out e2
      obtain ⟨pa, pc, hpf, hpb⟩ := hpv.form
      obtain ⟨ba, bc, hbf⟩ := hbv.form
      have hbb := hbv.lens.1
      have HPV := Lib.hid hpv; have HBV := Lib.hid hbv; have HZ := Lib.hid hz
      obtain ⟨q2, hq2⟩ : ∃ q, q = isNB f.name := ⟨_, rfl⟩
      obtain ⟨q4, hq4⟩ : ∃ q, q = f.params.any fun s => !isNB s := ⟨_, rfl⟩
      obtain ⟨q5, hq5⟩ : ∃ q, q = f.body.all (stOk isNB 4) := ⟨_, rfl⟩
      have HNAME := Lib.hid (fun w' (hb : Below w.heap.size w w') => isName_any w' f.name q2 (HKS.out.below hb).1 hz hq2)
      have HHAS := Lib.hid (fun w' (hb : Below w.heap.size w w') => strs_has w' pv f.params (fun s => !isNB s) (hpv.below hb) (fun j s w2 hs hb2 => pClo_any w2 s _ ((HKS.out.below hb).below hb2) (hpv.len hs) rfl))
      rw [← hq4] at HHAS
      have HBLK : Hid (∀ w', Below w.heap.size w w' → Calls Tryz.prog 136 #[bv, .int .i64 1] w' (BoolP q5 w')) := Lib.hid (fun w' hb => by
        rw [hq5]; exact (oks 4 (Nat.le_refl _)).2 f.body w' bv (HKS.out.below hb) (HWF.out f (List.mem_of_getElem? hxk)) (hbv.dn hb))
      have hfx := fxOk_eq f
      rw [← hq2, ← hq4, ← hq5] at hfx
      have HT := Lib.hid (all_take (fxOk isNB) fs k f hxk)
      have HF := Lib.hid (fun h => all_false (fxOk isNB) (List.mem_of_getElem? hxk) h)
      rw [hfx] at HT HF
      obtain ⟨pl, hpl⟩ : ∃ l, l = f.params.length := ⟨_, rfl⟩
      obtain ⟨bl, hbll⟩ : ∃ l, l = f.body.length := ⟨_, rfl⟩
      rw [← hpl] at hpf hpb HT HF
      rw [← hbll] at hbf hbb
      subst hpf hbf
      unfold big at hpb hbb
      have k0 : (0 : Int) ≤ k := by omega
      have k1 : (k : Int) < m := by omega
      obtain ⟨wa, hwa⟩ : ∃ wa, wa = wr.alloc (.cells #[.string f.name, .slice pa pl pc, .slice ba bl bc] 64) := ⟨_, rfl⟩
      have hwb : Below wr.heap.size wr wa := by rw [hwa]; exact below1 _ _
      have HWA : Hid (Below w.heap.size w wa ∧ Blk wa wr.heap.size [.string f.name, .slice pa pl pc, .slice ba bl bc] ∧ Below wr.heap.size wr wa) := Lib.hid (by rw [hwa]; exact ⟨HBR.out.trans ((below1 _ _).mono HBR.out.size), Blk.new _ _ _, below1 _ _⟩)
      have HRX : Hid (∀ w', Below wr.heap.size wr w' → Below (w.alloc (.cells #[.slice (some ⟨b, off, none⟩) m cap] 31)).heap.size (w.alloc (.cells #[.slice (some ⟨b, off, none⟩) m cap] 31)) w') := Lib.hid (fun w' hb => HBX.out.trans (hb.mono HBX.out.size))
      clear hkl hx hxk hpv hbv hq2 hq4 hq5 hpl hbll hbl hz hfx hwb
      go_upto_region 6 with (fail)
      rw [← hwa]
      clear hwa
      obtain ⟨z0, z1, z2⟩ := blkc3 HWA.out.2.1
      go_wp2_with (fail)
      go_at_call 133
      refine (HNAME.out _ HWA.out.1).mono ?_
      rintro e w2 ⟨rfl, hb2⟩
      have HB2 := Lib.hid (HWA.out.1.trans (hb2.mono HWA.out.1.size))
      have HR2 := Lib.hid (HWA.out.2.2.trans (hb2.mono HWA.out.2.2.size))
      obtain ⟨z0, z1, z2⟩ := blkc3 (HWA.out.2.1.below hb2)
      have HZB := Lib.hid (HWA.out.2.1.below hb2)
      clear hb2
      cases q2
      · go_wp2_with (fail)
        go_ret
        exact ⟨by rw [← HP.out, HF.out (by first | rfl | trivial)]; rfl, HB2.out⟩
      by_cases h3 : (3 : Int) < pl
      · have h3b : Hid (decide ((3 : Int) < pl) = true) := Lib.hid (decide_eq_true h3)
        go_wp2_with (fail)
        go_ret
        exact ⟨by rw [← HP.out, HF.out (by rw [h3b.out]; rfl)]; rfl, HB2.out⟩
      have h3b : Hid (decide ((3 : Int) < pl) = false) := Lib.hid (decide_eq_false h3)
      go_wp2_with (fail)
      go_at_call 134
      refine (HHAS.out _ HB2.out).mono ?_
      rintro e w3 ⟨rfl, hb3⟩
      have HB3 := Lib.hid (HB2.out.trans (hb3.mono HB2.out.size))
      have HR3 := Lib.hid (HR2.out.trans (hb3.mono HR2.out.size))
      obtain ⟨z0, z1, z2⟩ := blkc3 (HZB.out.below hb3)
      clear hb3
      cases q4
      · go_wp2_with (fail)
        go_at_call 136
        refine (HBLK.out _ HB3.out).mono ?_
        rintro e w4 ⟨rfl, hb4⟩
        have HB4 := Lib.hid (HB3.out.trans (hb4.mono HB3.out.size))
        have HR4 := Lib.hid (HR3.out.trans (hb4.mono HR3.out.size))
        clear hb4
        cases q5
        · go_wp2_with (fail)
          go_ret
          exact ⟨by rw [← HP.out, HF.out (by rw [h3b.out]; rfl)]; rfl, HB4.out⟩
        · go_wp2_with (fail)
          go_roundw
          case rel => exact ⟨k + 1, by omega, by go_num, Lib.hid (by rw [HT.out, hA.out, h3b.out]; rfl), Lib.hid (HRX.out _ HR4.out)⟩
          case measure => simp [intOf]; omega
      · go_wp2_with (fail)
        go_ret
        exact ⟨by rw [← HP.out, HF.out (by rw [h3b.out]; rfl)]; rfl, HB3.out⟩
    · have hke : k = m := by omega
      have HAL : Hid (fs.all (fxOk isNB) = true) := Lib.hid (by have := hA.out; rw [hke, HM.out, List.take_length] at this; exact this)
      obtain ⟨T, hT⟩ : ∃ T, T = fsCount fs := ⟨_, rfl⟩
      have HC := Lib.hid (HMEA.out wr HBR.out HAL.out)
      rw [HAL.out, Bool.true_and, ← hT] at HP
      rw [← hT] at HC HFC
      have hTb := HFC.out
      clear hke hT
      go_wp2_with (fail)
      go_at_call 137
      refine HC.out.mono ?_
      rintro e w2 ⟨dd, rfl, hb2⟩
      have HB2 := Lib.hid (HBR.out.trans (hb2.mono HBR.out.size))
      clear hb2
      go_wp2_with (fail)
      go_ret
      exact ⟨by rw [← HP.out]; exact congrArg (fun b => Ending.returned (Value.bool b)) (decide_eq_decide.mpr (by omega)), HB2.out⟩
end Go.Proofs.YtpnliencahnmoaaGreatDoor

set_option linter.unusedVariables false
set_option linter.unusedSimpArgs false
set_option maxRecDepth 100000
namespace Go.Proofs.YtpnliencahnmoaaGreatDoor
open Go.RowKit Go.Maps
theorem mlaw : Keyed Tryz.prog 9 := string_keyed Tryz.underlying9
theorem mzero (w : World) : (zeroValue 3).run Tryz.prog w = .ok (.int .i64 0) w := by kernel_rfl
/-- what a text reads as, as a key -/
def kl (s : ByteArray) : Lit := .string s.data.toList
theorem kl_inj {s t : ByteArray} (h : kl s = kl t) : s = t := by
  unfold kl at h
  injection h with h
  cases s with
  | mk a => cases t with
    | mk b => exact congrArg ByteArray.mk (Array.toList_inj.1 h)
theorem kl_key {s : ByteArray} (hs : s.size ≤ maxLen) : keyOf Tryz.prog 9 (.string s) = some (kl s) := WideMaps.keyOf_string_mk Tryz.underlying9 hs
theorem kl_isKey (s : ByteArray) : WideAt.IsKeyLit (kl s) := by unfold kl; simp [WideAt.IsKeyLit]
/-- block b is a map that has the list's keys, with its values -/
def Mp (w : World) (b n : Nat) (L : Env) : Prop := ∃ D : DataW Unit, w.ownsMap Tryz.prog 9 (plainElem Tryz.prog 3) b n D ∧ ∀ s : ByteArray, Maps.has D (kl s) = (L.get s).isSome ∧ D.atKey (kl s) (.lit (.int .i64 0)) = .lit (.int .i64 (((L.get s).getD 0 : Nat) : Int))
theorem Mp.made (w : World) : Mp (w.alloc (.map #[] 0)) w.heap.size 0 [] := ⟨.map [], World.ownsMap_made _ _ _ _, fun _ => ⟨rfl, rfl⟩⟩
theorem Mp.lt {w : World} {b n : Nat} {L : Env} (h : Mp w b n L) : b < w.heap.size := by
  obtain ⟨D, h, _⟩ := h
  exact h.lt
theorem Mp.mono {w : World} {b n m : Nat} {L : Env} (h : Mp w b n L) (hm : n ≤ m) : Mp w b m L := by
  obtain ⟨D, h, h2⟩ := h
  exact ⟨D, h.mono hm, h2⟩
theorem Mp.same {w w' : World} {b n : Nat} {L : Env} (h : Mp w b n L) (hs : w'.heap[b]? = w.heap[b]?) : Mp w' b n L := by
  obtain ⟨D, ⟨es, c, h1, h2⟩, h3⟩ := h
  exact ⟨D, ⟨es, c, hs.trans h1, h2⟩, h3⟩
theorem wpList_mp_ok (w : World) {ops : Array Oper} {rest : List Oper} {o : Oper} {a : Act} {Q : Exit → Act → World → Prop} (hg : o.guard = none) (m x : Operand) (hop : o.op = Op.lookup 137 m x true) (b n : Nat) (L : Env) (hm : a.eval m = .map (some b)) (h : Mp w b n L) (s : ByteArray) (hx : a.eval x = .string s) (hs : s.size ≤ maxLen)
    (hK : wpList Tryz.prog ops Q rest (a.put o.dst (.tuple #[.int .i64 (((L.get s).getD 0 : Nat) : Int), .bool (L.get s).isSome])) w) : wpList Tryz.prog ops Q (o :: rest) a w := by
  obtain ⟨D, h1, h2⟩ := h
  obtain ⟨q1, q2⟩ := h2 s
  refine wpList_lookup_own_ok_int w hg m x _ hop 9 3 .i64 mlaw Tryz.underlying137 Tryz.underlying3 (mzero _) b n D hm h1 _ _ hx (kl_key hs) (fun c hat _ => ?_)
  rw [q2] at hat
  injection hat with hat
  injection hat with _ hat
  rw [q1, ← hat]
  exact hK
theorem wpList_mp_put (w : World) {ops : Array Oper} {rest : List Oper} {o : Oper} {a : Act} {Q : Exit → Act → World → Prop} (hg : o.guard = none) (m x v : Operand) (hop : o.op = Op.mapUpdate 137 m x v) (b n : Nat) (L : Env) (hm : a.eval m = .map (some b)) (h : Mp w b n L) (hn : n < maxLen) (s : ByteArray) (hx : a.eval x = .string s) (hs : s.size ≤ maxLen) (u : Nat) (hv : a.eval v = .int .i64 (u : Int)) (hu : u < 256)
    (hK : ∀ w', (∀ M : Env, (∀ y, M.get y = if s = y then some u else L.get y) → Mp w' b (n + 1) M) → w.grownBy w' (some b) → wpList Tryz.prog ops Q rest (a.put o.dst undef) w') : wpList Tryz.prog ops Q (o :: rest) a w := by
  obtain ⟨D, h1, h2⟩ := h
  refine wpList_mapUpdate_own w hg m x v _ hop 9 3 mlaw Tryz.underlying137 _ b n D hm h1 hn _ _ _ hx hv (kl_key hs) _ [] (plainElem_int Tryz.underlying3 (WalkArith.wf_i64 (by omega))) (fun w' h3 h4 => hK w' (fun M hM => ⟨_, h3, fun y => ?_⟩) h4)
  rw [hM y]
  by_cases e : s = y
  · subst e
    rw [if_pos rfl]
    exact ⟨has_put_same h1.isMap (kl_isKey _) _, atKey_put_same h1.isMap (kl_isKey _) _ _⟩
  · rw [if_neg e]
    have hne : kl y ≠ kl s := fun k => e (kl_inj k).symm
    rw [has_put_other hne, atKey_put_other hne]
    exact h2 y
theorem Env.get_cons (s : ByteArray) (v : Nat) (L : Env) (y : ByteArray) : Env.get ((s, v) :: L) y = if s = y then some v else L.get y := rfl
theorem Env.get_set {L : Env} {s : ByteArray} (v : Nat) (h : (L.get s).isSome) (y : ByteArray) : (L.set s v).get y = if s = y then some v else L.get y := by
  induction L with
  | nil => simp [Env.get] at h
  | cons p r ih =>
    obtain ⟨x, u⟩ := p
    unfold Env.set
    by_cases e : x = s
    · subst e
      rw [if_pos rfl, Env.get_cons, Env.get_cons]
      by_cases e2 : x = y
      · rw [if_pos e2, if_pos e2]
      · rw [if_neg e2, if_neg e2, if_neg e2]
    · rw [if_neg e, Env.get_cons, Env.get_cons]
      rw [Env.get_cons, if_neg e] at h
      rw [ih h]
      by_cases e2 : x = y
      · subst e2
        rw [if_pos rfl, if_pos rfl, if_neg (fun k => e k.symm)]
      · rw [if_neg e2, if_neg e2]
theorem Env.get_append (L M : Env) (y : ByteArray) : (L ++ M).get y = if (L.get y).isSome then L.get y else M.get y := by
  induction L with
  | nil => rfl
  | cons p r ih =>
    obtain ⟨x, u⟩ := p
    rw [List.cons_append, Env.get_cons, Env.get_cons, ih]
    by_cases e : x = y
    · rw [if_pos e, if_pos e]; rfl
    · rw [if_neg e, if_neg e]
theorem Env.set_left {L M : Env} {s : ByteArray} (v : Nat) (h : (L.get s).isSome) : (L ++ M).set s v = L.set s v ++ M := by
  induction L with
  | nil => simp [Env.get] at h
  | cons p r ih =>
    obtain ⟨x, u⟩ := p
    rw [List.cons_append]
    unfold Env.set
    by_cases e : x = s
    · rw [if_pos e, if_pos e]; rfl
    · rw [if_neg e, if_neg e]
      rw [Env.get_cons, if_neg e] at h
      rw [ih h]; rfl
theorem Env.set_right {L M : Env} {s : ByteArray} (v : Nat) (h : ¬ (L.get s).isSome) : (L ++ M).set s v = L ++ M.set s v := by
  induction L with
  | nil => rfl
  | cons p r ih =>
    obtain ⟨x, u⟩ := p
    rw [Env.get_cons] at h
    by_cases e : x = s
    · rw [if_pos e] at h; exact absurd rfl h
    · rw [if_neg e] at h
      rw [List.cons_append, List.cons_append]
      exact (if_neg e).trans (congrArg (List.cons (x, u)) (ih h))
end Go.Proofs.YtpnliencahnmoaaGreatDoor
