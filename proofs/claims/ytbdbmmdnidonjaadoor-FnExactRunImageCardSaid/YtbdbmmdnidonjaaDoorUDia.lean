/- One instruction of bytes, on impl's side: decoded, short jumps. -/
import Derived.Test.YtbdbmmdnidonjaaDoorUJv
set_option linter.unusedVariables false
set_option linter.unusedSimpArgs false
set_option maxRecDepth 100000
namespace Go.Proofs.YtbdbmmdnidonjaaDoor
open Go.RowKit
open Go.Maps (Keyed)
set_option maxHeartbeats 8000000 in
theorem idec_a (w : World) (v : Value) (cs : List Nat) (at_ : Nat) (h : CsC w v cs) (hlt : at_ < cs.length) (hle : cs.length ≤ 1048576) (hcase : decide (128 ≤ byteN cs at_) = false ∧ shN (byteN cs at_ % 128) = 5) :
  Calls Tryd.prog 119 #[v, .int .i64 (at_ : Int)] w (IdecP cs at_ w) := by
 have HCS := Lib.hid h
 obtain ⟨L, hL⟩ : ∃ L, L = cs.length := ⟨_, rfl⟩
 obtain ⟨a, cap, rfl, hcap⟩ := h.2
 rw [← hL] at hlt hle hcap HCS ⊢
 obtain ⟨a', cap', hrest, _, hrun⟩ := slice_cs HCS.out (lo := at_) (n := L - at_) (by omega)
 have hsl := fun w' => hrun (by omega) w' (at_ : Int) rfl
 obtain ⟨R, hR⟩ : ∃ R, R = L - at_ := ⟨_, rfl⟩
 rw [← hR] at hrest hsl
 obtain ⟨⟨a2, cap2, hv2, hsm, hcc⟩, a3, cap3, hv3, hcap3⟩ := hrest
 have hlc : (cutN cs at_ R).length = R := cutN_len (by omega)
 rw [hlc] at hv2 hcc hv3 hcap3
 injection hv2 with e1 e2 e3; subst e1 e3
 injection hv3 with e1 e2 e3; subst e1 e3
 have HC : Hid (∀ i, i < R → ∃ g off, a' = some ⟨g, off, none⟩ ∧ w.cell? ⟨g, off + i, none⟩ = some (.int .u8 ((byteN cs (at_ + i) : Nat) : Int))) := Lib.hid (fun i hi => by
  obtain ⟨g, off, h1, h2⟩ := hcc i hi
  exact ⟨g, off, h1, by rw [cutN_byte _ _ _ _ hi] at h2; exact h2⟩)
 have hR0 : 0 < R := by omega
 obtain ⟨g, off, rfl, c0⟩ := HC.out 0 hR0
 have HCT : Hid (CsAt w (.slice (some ⟨g, off, none⟩) R cap') (cutN cs at_ R)) := Lib.hid ⟨_, _, by rw [hlc], hsm, by rw [hlc]; exact hcc⟩
 have hb6 : ∀ i, byteN cs i < 256 := fun i => byteN_lt HCS.out.1.choose_spec.choose_spec.2.1 i
 have HB6 := Lib.hid hb6
 obtain ⟨b0, hb0⟩ : ∃ b, b = byteN cs at_ := ⟨_, rfl⟩
 simp only [Nat.add_zero] at c0
 rw [← hb0] at c0
 have hb06 : b0 < 256 := by rw [hb0]; exact hb6 _
 obtain ⟨lg, hlg⟩ : ∃ lg, lg = decide (128 ≤ b0) := ⟨_, rfl⟩
 rw [← hb0] at hcase
 obtain ⟨op, hop⟩ : ∃ op, op = b0 % 128 := ⟨_, rfl⟩
 rw [← hop] at hcase
 have HCASE := Lib.hid hcase
 clear hcase
 have hone : oneN cs at_ = if ((decide (1 ≤ op) && decide (op ≤ 22) && (!lg || jmpN op)) && decide (at_ + sizO op lg ≤ L)) = true then some (decI cs at_ op lg (sizO op lg), sizO op lg) else none := by
  unfold oneN isOp sizAt opAt lgAt
  rw [← hb0, ← hlg, ← hop, ← hL]
 have HONE := Lib.hid hone
 have HNO : Hid (∀ w', oneN cs at_ = none → Below w.heap.size w w' → IdecP cs at_ w (.returned (.tuple #[.agg #[.int .i64 0, .int .i64 0, .int .i64 0, .int .i64 0, .int .i64 0], .int .i64 0])) w') := Lib.hid (fun w' h1 h2 => ⟨0, 0, 0, 0, 0, 0, rfl, .inr ⟨h1, rfl⟩, h2⟩)
 have HYES : Hid (∀ w' (o a b c z : Int) (n : Nat), oneN cs at_ = some (⟨o, a, b, c, z⟩, n) → Below w.heap.size w w' → IdecP cs at_ w (.returned (.tuple #[.agg #[.int .i64 o, .int .i64 a, .int .i64 b, .int .i64 c, .int .i64 z], .int .i64 (n : Int)])) w') := Lib.hid (fun w' o a b c z n h1 h2 => ⟨o, a, b, c, z, n, rfl, .inl h1, h2⟩)
 obtain ⟨Q, hQ⟩ : ∃ Q, Q = IdecP cs at_ w := ⟨_, rfl⟩
 rw [← hQ] at HNO HYES ⊢
 have HLL := Lib.hid hL
 have w0 : IntKind.i64.wrap (b0 : Int) = (b0 : Int) := IntWalk.i64_in _ (by omega)
 have q0 : (0 : Int) < R := by omega
 have HHB := Lib.hid hb0
 have hop22 : op < 128 := by rw [hop]; omega
 have hmm := @run_makeMap Tryd.prog
 have HCA := Lib.hid hcap3
 have HR := Lib.hid hR
 have hgl := World.block_lt_of_cell? w _ c0
 simp only at hgl
 clear hrun hcc hsm hlc hb6 hb0 hone hQ hL hcap hR
 cases lg with
 |false =>
  have h128 : b0 < 128 := by have := of_decide_eq_false hlg.symm; omega
  have g1 : decide ((128 : Int) ≤ b0) = false := by simp; omega
  have hbo : op = b0 := by omega
  clear hop
  subst hbo
  obtain ⟨p, hp⟩ : ∃ p, inR 1 22 (op : Int) = p := ⟨_, rfl⟩
  have HIN := Lib.hid (fun w' => within_named (op : Int) 1 22 p hp w')
  have HP := Lib.hid hp
  clear hp hlg
  go_enter Tryd.func119, Tryd.ntmps119
  go_wp2_with (fail)
  go_at_call 52
  refine (HIN.out _).mono ?_
  rintro e _ ⟨rfl, rfl⟩
  have hs1 : (w.alloc (.cells #[.int .i64 0, .int .i64 0, .int .i64 0, .int .i64 0, .int .i64 0] 124)).heap.size = w.heap.size + 1 := by simp
  have hb1 : Below w.heap.size w (w.alloc (.cells #[.int .i64 0, .int .i64 0, .int .i64 0, .int .i64 0, .int .i64 0] 124)) := below1 _ _
  have hr1 : Blk (w.alloc (.cells #[.int .i64 0, .int .i64 0, .int .i64 0, .int .i64 0, .int .i64 0] 124)) w.heap.size [.int .i64 0, .int .i64 0, .int .i64 0, .int .i64 0, .int .i64 0] := Blk.new _ _ _
  generalize w.alloc _ = w1 at *
  have HB1 := Lib.hid hb1; have HR1 := Lib.hid hr1; have HS1 := Lib.hid hs1
  obtain ⟨r0, r1, r2, r3, r4⟩ := c5_of hr1
  have rf := hr1.frozen
  clear hb1 hr1 hs1 c0 HIN
  cases p with
  |false =>
   have HX : Hid (oneN cs at_ = none) := Lib.hid (by
    rw [HONE.out, if_neg]
    have := HP.out
    simp [inR] at this ⊢
    omega)
   have f0 := rf 0; have f1 := rf 1; have f2 := rf 2; have f3 := rf 3; have f4 := rf 4
   go_wp2_with (fail)
   refine bodyPost_ret (v := .tuple #[.agg #[.int .i64 0, .int .i64 0, .int .i64 0, .int .i64 0, .int .i64 0], .int .i64 0]) (by simp [results, Tryd.results119, go_sem, r0, r1, r2, r3, r4]) rfl ?_
   exact HNO.out _ HX.out (bel5 HB1.out (Nat.le_refl _) _ _ _ _ _)
  |true =>
   have hpp := HP.out
   have ho1 : 1 ≤ op ∧ op ≤ 22 := by simp [inR] at hpp; omega
   clear hpp
   have hbX : Below w1.heap.size w1 (w1.alloc (.cells #[.int .i64 (op : Int), .int .i64 0, .int .i64 0, .int .i64 0, .int .i64 0] 124)) := below1 _ _
   have hpX : Blk (w1.alloc (.cells #[.int .i64 (op : Int), .int .i64 0, .int .i64 0, .int .i64 0, .int .i64 0] 124)) w1.heap.size [.int .i64 (op : Int), .int .i64 0, .int .i64 0, .int .i64 0, .int .i64 0] := Blk.new _ _ _
   have hs2 : (w1.alloc (.cells #[.int .i64 (op : Int), .int .i64 0, .int .i64 0, .int .i64 0, .int .i64 0] 124)).heap.size = w1.heap.size + 1 := by simp
   have hm0 := World.ownsMap_made (H := Unit) (w1.alloc (.cells #[.int .i64 (op : Int), .int .i64 0, .int .i64 0, .int .i64 0, .int .i64 0] 124)) Tryd.prog 188 (plainElem Tryd.prog 3)
   rw [hs2] at hm0
   have HSHP := Lib.hid (fun w' => shape_any w' op ho1.1 ho1.2)
   obtain ⟨sh, hsh⟩ : ∃ sh, sh = shN op := ⟨_, rfl⟩
   rw [← hsh] at HSHP
   have HSH := Lib.hid hsh
   have hsh5 : sh ≤ 5 := by rw [hsh]; exact shN_le op
   have HOP := Lib.hid (sh_op ho1.1 ho1.2)
   clear hsh rf r0 r1 r2 r3 r4 HP
   go_wp2_with (first | (refine wpList_insert_own _ rfl _ _ _ 189 rfl 188 3 shape_keyed Tryd.underlying189 _ _ 0 _ rfl hm0 (by unfold maxLen; omega) _ _ _ rfl rfl (Go.Maps.keyOf_int_mk Tryd.underlying188 (by decide)) _ [] (plainElem_int Tryd.underlying3 (by decide)) ?_; intro wm1 hm1 hg1) | (refine wpList_insert_own _ rfl _ _ _ 189 rfl 188 3 shape_keyed Tryd.underlying189 _ _ 1 _ rfl hm1 (by unfold maxLen; omega) _ _ _ rfl rfl (Go.Maps.keyOf_int_mk Tryd.underlying188 (by decide)) _ [] (plainElem_int Tryd.underlying3 (by decide)) ?_; intro wm2 hm2 hg2) | (refine wpList_insert_own _ rfl _ _ _ 189 rfl 188 3 shape_keyed Tryd.underlying189 _ _ 2 _ rfl hm2 (by unfold maxLen; omega) _ _ _ rfl rfl (Go.Maps.keyOf_int_mk Tryd.underlying188 (by decide)) _ [] (plainElem_int Tryd.underlying3 (by decide)) ?_; intro wm3 hm3 hg3) | (refine wpList_insert_own _ rfl _ _ _ 189 rfl 188 3 shape_keyed Tryd.underlying189 _ _ 3 _ rfl hm3 (by unfold maxLen; omega) _ _ _ rfl rfl (Go.Maps.keyOf_int_mk Tryd.underlying188 (by decide)) _ [] (plainElem_int Tryd.underlying3 (by decide)) ?_; intro wm4 hm4 hg4) | (refine wpList_insert_own _ rfl _ _ _ 189 rfl 188 3 shape_keyed Tryd.underlying189 _ _ 4 _ rfl hm4 (by unfold maxLen; omega) _ _ _ rfl rfl (Go.Maps.keyOf_int_mk Tryd.underlying188 (by decide)) _ [] (plainElem_int Tryd.underlying3 (by decide)) ?_; intro wm5 hm5 hg5) | (refine wpList_insert_own _ rfl _ _ _ 189 rfl 188 3 shape_keyed Tryd.underlying189 _ _ 5 _ rfl hm5 (by unfold maxLen; omega) _ _ _ rfl rfl (Go.Maps.keyOf_int_mk Tryd.underlying188 (by decide)) _ [] (plainElem_int Tryd.underlying3 (by decide)) ?_; intro wm6 hm6 hg6) | fail)
   go_at_call 143
   refine (HSHP.out _).mono ?_
   rintro e _ ⟨rfl, rfl⟩
   have hbm : Below (w1.heap.size + 1) (w1.alloc (.cells #[.int .i64 (op : Int), .int .i64 0, .int .i64 0, .int .i64 0, .int .i64 0] 124)) wm6 := by
    have hr : ∀ k, some (w1.heap.size + 1) = some k → w1.heap.size + 1 ≤ k := fun k hk => by injection hk with hk; omega
    have h0 := below1 (w1.alloc (.cells #[.int .i64 (op : Int), .int .i64 0, .int .i64 0, .int .i64 0, .int .i64 0] 124)) (.map #[] 0)
    rw [hs2] at h0
    have h1 := h0.grown hg1 (by simp) hr
    have z1 := hg1.size
    simp at z1
    have h2 := h1.grown hg2 (by omega) hr
    have z2 := hg2.size
    have h3 := h2.grown hg3 (by omega) hr
    have z3 := hg3.size
    have h4 := h3.grown hg4 (by omega) hr
    have z4 := hg4.size
    have h5 := h4.grown hg5 (by omega) hr
    have z5 := hg5.size
    exact h5.grown hg6 (by omega) hr
   have HXM : Hid (Blk wm6 w1.heap.size [.int .i64 (op : Int), .int .i64 0, .int .i64 0, .int .i64 0, .int .i64 0]) := Lib.hid (hpX.same (hbm.block _ (by omega)))
   have HBM : Hid (Below w1.heap.size w1 wm6) := Lib.hid (hbX.trans (hbm.mono (by omega)))
   have HMM := Lib.hid hm6
   clear hbm hbX hpX hs2 hm0 hm1 hm2 hm3 hm4 hm5 hm6 hg1 hg2 hg3 hg4 hg5 hg6
   clear wm1 wm2 wm3 wm4 wm5
   have HBW : Hid (Below w.heap.size w wm6) := Lib.hid (HB1.out.trans (HBM.out.mono HB1.out.size))
   have HRM := Lib.hid (HR1.out.below HBM.out)
   obtain ⟨q, hq⟩ : ∃ q, q = w1.heap.size := ⟨_, rfl⟩
   rw [← hq] at HXM HMM ⊢
   have hqm : q < wm6.heap.size := HXM.out.lt
   have hqr : q ≠ w.heap.size := by rw [hq, HS1.out]; omega
   have hwq : w.heap.size ≤ q := by rw [hq, HS1.out]; omega
   have hrw : w.heap.size < wm6.heap.size := HRM.out.lt
   clear hq HBM HR1
   rcases HOP.out with ⟨h5, hop2⟩ | ⟨h5, hjf, h21, h20⟩
   ·rw [← HSH.out] at h5
    subst h5
    rcases hop2 with rfl | rfl
    ·-- 20
     have hso : sizO 20 false = 2 := by
      rw [sizO_tab (by decide)]
      decide
     have HSO := Lib.hid hso
     clear hso
     by_cases hRs : R < 2
     ·have gR : (R : Int) < 2 := by omega
      have HX : Hid (oneN cs at_ = none) := Lib.hid (by
       rw [HONE.out, HSO.out, if_neg]
       have := HR.out
       simp
       intros
       omega)
      obtain ⟨r0, r1, r2, r3, r4⟩ := c5_of HRM.out
      have f0 := HRM.out.frozen 0; have f1 := HRM.out.frozen 1; have f2 := HRM.out.frozen 2; have f3 := HRM.out.frozen 3; have f4 := HRM.out.frozen 4
      clear hRs
      go_wp2_with (first | (refine wpList_lookup_own_int _ rfl _ _ 189 rfl 188 3 .i64 shape_keyed Tryd.underlying189 Tryd.underlying3 (zero_int _) _ 6 _ rfl HMM.out _ _ rfl (Go.Maps.keyOf_int_mk Tryd.underlying188 (by decide)) ?_; intro c hat hwc; obtain rfl : c = 2 := tab_at (sh := 5) (by decide) hat; clear hat hwc) | fail)
      refine bodyPost_ret (v := .tuple #[.agg #[.int .i64 0, .int .i64 0, .int .i64 0, .int .i64 0, .int .i64 0], .int .i64 0]) (by simp [results, Tryd.results119, go_sem, r0, r1, r2, r3, r4]) rfl ?_
      exact HNO.out _ HX.out (bel5 HBW.out (Nat.le_refl _) _ _ _ _ _)
     ·have gR : decide ((R : Int) < 2) = false := by simp; omega
      have hRL : at_ + R ≤ cs.length := by rw [← HLL.out, HR.out]; omega
      have hsl2 : ∀ w', (Instr.slice 22 (.slice (some ⟨g, off, none⟩) R cap') none (some (.int .i64 2)) none).run Tryd.prog w' = .ok (.slice (some ⟨g, off, none⟩) 2 cap') w' := slice_h (n := 2) (by omega) HCA.out
      have HMP := Lib.hid (mapped_any wm6 (.slice (some ⟨g, off, none⟩) 2 cap') (cutN cs at_ 2) (CsAt.below (csAt_prefix HC.out (by omega) hRL HCS.out.1.choose_spec.choose_spec.2.1) HBW.out) (by rw [cutN_len (by omega)]; omega))
      unfold MapP at HMP
      rw [cutN_len (by omega)] at HMP
      have hOK : oneN cs at_ = some (decI cs at_ 20 false 2, 2) := by
       rw [HONE.out, HSO.out, if_pos]
       have h1 := ho1.1
       have h2 := ho1.2
       have h3 : at_ + 2 ≤ L := by rw [HLL.out]; omega
       have h4 : (!false || jmpN 20) = true := by decide
       simp only [h4, Bool.and_true, Bool.and_eq_true, decide_eq_true_eq]
       exact ⟨⟨h1, h2⟩, h3⟩
      have HOK := Lib.hid hOK
      have hq2 : at_ + 2 ≤ cs.length := by omega
      have hRge : 2 ≤ R := by omega
      clear hRs hRL hOK
      go_wp2_with (first | (refine wpList_lookup_own_int _ rfl _ _ 189 rfl 188 3 .i64 shape_keyed Tryd.underlying189 Tryd.underlying3 (zero_int _) _ 6 _ rfl HMM.out _ _ rfl (Go.Maps.keyOf_int_mk Tryd.underlying188 (by decide)) ?_; intro c hat hwc; obtain rfl : c = 2 := tab_at (sh := 5) (by decide) hat; clear hat hwc) | fail)
      go_at_call 144
      refine HMP.out.mono ?_
      rintro e w7 ⟨v7, rfl, hv7, hb7⟩
      obtain ⟨g7, c7, rfl⟩ := own_form hv7 (by omega)
      have hg7 := (World.ownsRow.lt hv7 g7 rfl)
      have d1 := own_cell1 hv7 (j := 1) (by omega)
      rw [nats_byte hq2 (by omega)] at d1
      have HX7 := Lib.hid (HXM.out.below hb7)
      have HR7 := Lib.hid (HRM.out.below hb7)
      have HB7 := Lib.hid (HBW.out.trans (hb7.mono HBW.out.size))
      obtain ⟨b1, hb1⟩ : ∃ b1, b1 = byteN cs (at_ + 1) := ⟨_, rfl⟩
      rw [← hb1] at d1
      have hb16 : b1 < 256 := by rw [hb1]; exact HB6.out _
      have HBE1 := Lib.hid hb1
      have hgq : g7 ≠ q := by omega
      have hqg : q ≠ g7 := by omega
      have hgr : g7 ≠ w.heap.size := by omega
      obtain ⟨x0, x1, x2, x3, x4⟩ := c5_of HX7.out
      have xf0 := HX7.out.frozen 0; have xf1 := HX7.out.frozen 1; have xf2 := HX7.out.frozen 2; have xf3 := HX7.out.frozen 3; have xf4 := HX7.out.frozen 4
      clear hb1 hv7 hb7 hsl2 gR HMP HMM HXM HRM HBW
      obtain ⟨r0, r1, r2, r3, r4⟩ := c5_of HR7.out
      have f0 := HR7.out.frozen 0; have f1 := HR7.out.frozen 1; have f2 := HR7.out.frozen 2; have f3 := HR7.out.frozen 3; have f4 := HR7.out.frozen 4
      have hqr2 : w.heap.size ≠ q := fun h => hqr h.symm
      go_wp2_with (fail)
      go_at_call 143
      refine (HSHP.out _).mono ?_
      rintro e _ ⟨rfl, rfl⟩
      obtain ⟨gg, oo, hgo, hcl⟩ := HC.out 1 (by omega)
      injection hgo with hgo; injection hgo with hg1 hg2 hg3; subst hg1 hg2
      rw [← HBE1.out] at hcl
      have t7 := cellB HB7.out hcl
      have s1 : IntKind.i64.wrap ((at_ : Int) + 2) = (at_ : Int) + 2 := IntWalk.i64_in _ (by omega)
      have s2 : IntKind.i8.wrap (b1 : Int) = sgnN b1 := i8_wrap _ hb16
      have hsg := sgnN_le hb16
      have s3 : IntKind.i64.wrap (sgnN b1) = sgnN b1 := IntWalk.i64_in _ (by omega)
      have s4 : IntKind.i64.wrap ((at_ : Int) + 2 + sgnN b1) = (at_ : Int) + 2 + sgnN b1 := IntWalk.i64_in _ (by omega)
      have hlR : (1 : Int) < R := by omega
      clear hcl
      have hdec : decI cs at_ 20 false 2 = ⟨20, 0, 0, 0, (at_ : Int) + 2 + sgnN b1⟩ := by
       unfold decI
       simp [jmpN, HBE1.out]
      have HDE := Lib.hid hdec
      clear hdec
      go_wp2_with (fail)
      refine bodyPost_ret (v := .tuple #[.agg #[.int .i64 (20), .int .i64 (0), .int .i64 (0), .int .i64 (0), .int .i64 ((at_ : Int) + 2 + sgnN b1)], .int .i64 2]) (by simp [results, Tryd.results119, go_sem, r0, r1, r2, r3, r4, hqr, hqr2]) rfl ?_
      exact HYES.out _ _ _ _ _ _ 2 (by rw [HOK.out, HDE.out]) (bel5 (HB7.out.setCell (p := ⟨q, 4, none⟩) hwq _) (Nat.le_refl _) _ _ _ _ _)
    ·-- 21
     have hso : sizO 21 false = 3 := by
      rw [sizO_tab (by decide)]
      decide
     have HSO := Lib.hid hso
     clear hso
     by_cases hRs : R < 3
     ·have gR : (R : Int) < 3 := by omega
      have HX : Hid (oneN cs at_ = none) := Lib.hid (by
       rw [HONE.out, HSO.out, if_neg]
       have := HR.out
       simp
       intros
       omega)
      obtain ⟨r0, r1, r2, r3, r4⟩ := c5_of HRM.out
      have f0 := HRM.out.frozen 0; have f1 := HRM.out.frozen 1; have f2 := HRM.out.frozen 2; have f3 := HRM.out.frozen 3; have f4 := HRM.out.frozen 4
      clear hRs
      go_wp2_with (first | (refine wpList_lookup_own_int _ rfl _ _ 189 rfl 188 3 .i64 shape_keyed Tryd.underlying189 Tryd.underlying3 (zero_int _) _ 6 _ rfl HMM.out _ _ rfl (Go.Maps.keyOf_int_mk Tryd.underlying188 (by decide)) ?_; intro c hat hwc; obtain rfl : c = 2 := tab_at (sh := 5) (by decide) hat; clear hat hwc) | fail)
      refine bodyPost_ret (v := .tuple #[.agg #[.int .i64 0, .int .i64 0, .int .i64 0, .int .i64 0, .int .i64 0], .int .i64 0]) (by simp [results, Tryd.results119, go_sem, r0, r1, r2, r3, r4]) rfl ?_
      exact HNO.out _ HX.out (bel5 HBW.out (Nat.le_refl _) _ _ _ _ _)
     ·have gR : decide ((R : Int) < 3) = false := by simp; omega
      have hRL : at_ + R ≤ cs.length := by rw [← HLL.out, HR.out]; omega
      have hsl2 : ∀ w', (Instr.slice 22 (.slice (some ⟨g, off, none⟩) R cap') none (some (.int .i64 3)) none).run Tryd.prog w' = .ok (.slice (some ⟨g, off, none⟩) 3 cap') w' := slice_h (n := 3) (by omega) HCA.out
      have HMP := Lib.hid (mapped_any wm6 (.slice (some ⟨g, off, none⟩) 3 cap') (cutN cs at_ 3) (CsAt.below (csAt_prefix HC.out (by omega) hRL HCS.out.1.choose_spec.choose_spec.2.1) HBW.out) (by rw [cutN_len (by omega)]; omega))
      unfold MapP at HMP
      rw [cutN_len (by omega)] at HMP
      have hOK : oneN cs at_ = some (decI cs at_ 21 false 3, 3) := by
       rw [HONE.out, HSO.out, if_pos]
       have h1 := ho1.1
       have h2 := ho1.2
       have h3 : at_ + 3 ≤ L := by rw [HLL.out]; omega
       have h4 : (!false || jmpN 21) = true := by decide
       simp only [h4, Bool.and_true, Bool.and_eq_true, decide_eq_true_eq]
       exact ⟨⟨h1, h2⟩, h3⟩
      have HOK := Lib.hid hOK
      have hq2 : at_ + 3 ≤ cs.length := by omega
      have hRge : 3 ≤ R := by omega
      clear hRs hRL hOK
      go_wp2_with (first | (refine wpList_lookup_own_int _ rfl _ _ 189 rfl 188 3 .i64 shape_keyed Tryd.underlying189 Tryd.underlying3 (zero_int _) _ 6 _ rfl HMM.out _ _ rfl (Go.Maps.keyOf_int_mk Tryd.underlying188 (by decide)) ?_; intro c hat hwc; obtain rfl : c = 2 := tab_at (sh := 5) (by decide) hat; clear hat hwc) | fail)
      go_at_call 144
      refine HMP.out.mono ?_
      rintro e w7 ⟨v7, rfl, hv7, hb7⟩
      obtain ⟨g7, c7, rfl⟩ := own_form hv7 (by omega)
      have hg7 := (World.ownsRow.lt hv7 g7 rfl)
      have d1 := own_cell1 hv7 (j := 1) (by omega)
      rw [nats_byte hq2 (by omega)] at d1
      have d2 := own_cell1 hv7 (j := 2) (by omega)
      rw [nats_byte hq2 (by omega)] at d2
      have HX7 := Lib.hid (HXM.out.below hb7)
      have HR7 := Lib.hid (HRM.out.below hb7)
      have HB7 := Lib.hid (HBW.out.trans (hb7.mono HBW.out.size))
      obtain ⟨b1, hb1⟩ : ∃ b1, b1 = byteN cs (at_ + 1) := ⟨_, rfl⟩
      rw [← hb1] at d1
      have hb16 : b1 < 256 := by rw [hb1]; exact HB6.out _
      have HBE1 := Lib.hid hb1
      obtain ⟨b2, hb2⟩ : ∃ b2, b2 = byteN cs (at_ + 2) := ⟨_, rfl⟩
      rw [← hb2] at d2
      have hb26 : b2 < 256 := by rw [hb2]; exact HB6.out _
      have HBE2 := Lib.hid hb2
      clear hb2
      have hgq : g7 ≠ q := by omega
      have hqg : q ≠ g7 := by omega
      have hgr : g7 ≠ w.heap.size := by omega
      obtain ⟨x0, x1, x2, x3, x4⟩ := c5_of HX7.out
      have xf0 := HX7.out.frozen 0; have xf1 := HX7.out.frozen 1; have xf2 := HX7.out.frozen 2; have xf3 := HX7.out.frozen 3; have xf4 := HX7.out.frozen 4
      clear hb1 hv7 hb7 hsl2 gR HMP HMM HXM HRM HBW
      obtain ⟨r0, r1, r2, r3, r4⟩ := c5_of HR7.out
      have f0 := HR7.out.frozen 0; have f1 := HR7.out.frozen 1; have f2 := HR7.out.frozen 2; have f3 := HR7.out.frozen 3; have f4 := HR7.out.frozen 4
      have hqr2 : w.heap.size ≠ q := fun h => hqr h.symm
      go_wp2_with (fail)
      go_at_call 143
      refine (HSHP.out _).mono ?_
      rintro e _ ⟨rfl, rfl⟩
      obtain ⟨gg, oo, hgo, hcl⟩ := HC.out 2 (by omega)
      injection hgo with hgo; injection hgo with hg1 hg2 hg3; subst hg1 hg2
      rw [← HBE2.out] at hcl
      have t7 := cellB HB7.out hcl
      have s1 : IntKind.i64.wrap ((at_ : Int) + 3) = (at_ : Int) + 3 := IntWalk.i64_in _ (by omega)
      have s2 : IntKind.i8.wrap (b2 : Int) = sgnN b2 := i8_wrap _ hb26
      have hsg := sgnN_le hb26
      have s3 : IntKind.i64.wrap (sgnN b2) = sgnN b2 := IntWalk.i64_in _ (by omega)
      have s4 : IntKind.i64.wrap ((at_ : Int) + 3 + sgnN b2) = (at_ : Int) + 3 + sgnN b2 := IntWalk.i64_in _ (by omega)
      have hlR : (2 : Int) < R := by omega
      clear hcl
      have hdec : decI cs at_ 21 false 3 = ⟨21, (b1 : Int), 0, 0, (at_ : Int) + 3 + sgnN b2⟩ := by
       unfold decI
       simp [jmpN, HBE1.out, HBE2.out]
      have HDE := Lib.hid hdec
      clear hdec
      go_wp2_with (fail)
      refine bodyPost_ret (v := .tuple #[.agg #[.int .i64 (21), .int .i64 ((b1 : Int)), .int .i64 (0), .int .i64 (0), .int .i64 ((at_ : Int) + 3 + sgnN b2)], .int .i64 3]) (by simp [results, Tryd.results119, go_sem, r0, r1, r2, r3, r4, hqr, hqr2]) rfl ?_
      exact HYES.out _ _ _ _ _ _ 3 (by rw [HOK.out, HDE.out]) (bel5 ((HB7.out.setCell (p := ⟨q, 1, none⟩) hwq _).setCell (p := ⟨q, 4, none⟩) hwq _) (Nat.le_refl _) _ _ _ _ _)
   ·rw [← HSH.out] at h5
    have hc5 : sh = 0 ∨ sh = 1 ∨ sh = 2 ∨ sh = 3 ∨ sh = 4 := by omega
    have HJF := Lib.hid hjf
    have b21 : ((op : Int) == 21) = false := by simp; omega
    have bn21 : ((op : Int) != 21) = true := by simp; omega
    have H21 := Lib.hid h21
    clear hjf h21 h20 h5
    rcases hc5 with rfl | rfl | rfl | rfl | rfl
    ·-- shape 0
     exact absurd (HSH.out.trans HCASE.out.2) (by decide)
    ·-- shape 1
     exact absurd (HSH.out.trans HCASE.out.2) (by decide)
    ·-- shape 2
     exact absurd (HSH.out.trans HCASE.out.2) (by decide)
    ·-- shape 3
     exact absurd (HSH.out.trans HCASE.out.2) (by decide)
    ·-- shape 4
     exact absurd (HSH.out.trans HCASE.out.2) (by decide)
 |true => exact absurd hlg.symm (by rw [HCASE.out.1]; decide)
end Go.Proofs.YtbdbmmdnidonjaaDoor
