/- The reference's run of a program. The reference's RunProgram. The reference's RunProgram. The reference's SameOutcome. -/
import Derived.Test.YtpnliencahnmoaaGreatDoorQ17
set_option linter.unusedVariables false
set_option linter.unusedSimpArgs false
set_option linter.unusedVariables false
set_option linter.unusedSimpArgs false
set_option maxRecDepth 100000
namespace Go.Proofs.YtpnliencahnmoaaGreatDoor
open Go.RowKit
def startCm (fuel : Nat) : Cm := ⟨List.replicate 16 0, [], fuel, []⟩
theorem startCm_ok (fuel : Nat) : CmOk (startCm fuel) := ⟨by simp [startCm], fun x hx => by simp [startCm] at hx; omega, fun x hx => by simp [startCm] at hx⟩
def valOf : Rs → Nat
  | .ret v _ => v
  | .stop _ _ => 0
theorem app_below {X w3 : World} {o : Obj} (hg : (X.alloc o).grownBy w3 (some X.heap.size)) : Below X.heap.size X w3 :=
  Only.below (Below.refl _ X) ((Only.of_below (below1 X o) []).grown hg (fun z hz => by injection hz; omega)) (Nat.le_refl _) (fun b hb => by cases hb)
theorem app_new {X : World} {o : Obj} {v : Value} (hv : v.ownBlock = some X.heap.size ∨ v.ownBlock = some (X.alloc o).heap.size) : ∀ q, v.ownBlock = some q → X.heap.size ≤ q := fun q hq => by
  rcases hv with e | e
  · rw [e] at hq; injection hq; omega
  · rw [e] at hq; injection hq with hq; simp at hq; omega
/-- what a run of a program gives -/
def DoP (fs : List Fx) (k : Nat) (xs : List Nat) (w : World) (e : Ending) (w' : World) : Prop :=
  ∃ (r : Rs) (g : Nat) (sv : Value) (CB : Nat), evC fs g k xs (startCm 400) = some r ∧ e = .returned (.tuple #[.agg #[sv, .int .i64 (r.en : Int), .int .i64 (valOf r : Int), .slice (some ⟨CB, 0, none⟩) 16 16], .int .i64 (r.cm.left : Int)]) ∧
    w'.ownsRow w.heap.size 3 1 sv r.cm.said.length (nats r.cm.said) ∧ Blk w' CB (nats r.cm.cells) ∧ w.heap.size ≤ CB ∧ CmOk r.cm ∧ Below w.heap.size w w' ∧ r.cm.said.length ≤ 8000
theorem do_en {w : World} {V B : Nat} {nv vv : Value} {ps : List ByteArray} {xs : List Nat} (hl : ps.length = xs.length) (hb : Blk w V [nv, vv, .bool false, .int .i64 0]) (hn : w.ownsRow B 9 1 nv ps.length (ps.map Value.string)) (hv : w.ownsRow B 3 1 vv xs.length (nats xs)) (hs : Small xs) : En w V B nv vv (ps.zip xs).reverse false 0 := by
  have h1 : envN (ps.zip xs).reverse = ps := by simp [envN, List.map_fst_zip (Nat.le_of_eq hl)]
  have h2 : envV (ps.zip xs).reverse = xs := by simp [envV, List.map_snd_zip (Nat.le_of_eq hl.symm)]
  have h3 : (ps.zip xs).reverse.length = ps.length := by simp [hl]
  refine ⟨hb, by rw [h1, h3]; exact hn, by rw [h2, h3, hl]; exact hv, fun p hp => ?_⟩
  rw [List.mem_reverse] at hp
  exact hs _ (List.of_mem_zip hp).2
theorem strs_at {w : World} {a : Option Addr} {n c : Nat} {ss : List ByteArray} (h : StrsAt w (.slice a n c) ss) {wx : World} (hb : Below w.heap.size w wx) : ∀ ad, a = some ad → ∀ j u, (ss.map Value.string)[j]? = some u → wx.cell? (ad.add j) = some u := by
  intro ad had j u hu
  rw [List.getElem?_map] at hu
  cases hj : ss[j]? with
  | none => rw [hj] at hu; cases hu
  | some x =>
    rw [hj] at hu
    injection hu with hu
    subst hu
    obtain ⟨_, b, o, hb', _, e0⟩ := h.get hj
    rw [had] at hb'
    injection hb' with hb'
    subst hb'
    have e1 := cellB hb e0
    by_cases hj0 : j = 0
    · subst hj0; simpa [Addr.add] using e1
    · simpa [Addr.add, hj0] using e1
theorem strs_no {w : World} {a : Option Addr} {n c : Nat} {ss : List ByteArray} (h : StrsAt w (.slice a n c) ss) (hn : n = ss.length) : a = none → n = 0 := by
  intro e
  rcases Nat.eq_zero_or_pos n with h0 | h0
  · exact h0
  · obtain ⟨x, hx⟩ : ∃ x, ss[0]? = some x := ⟨_, List.getElem?_eq_getElem (by omega)⟩
    obtain ⟨_, b, o, hb, _⟩ := h.get hx
    rw [e] at hb; cases hb
theorem own_at {w : World} {B : Nat} {e : TypeId} {a : Option Addr} {n c : Nat} {xs : List Value} (h : w.ownsRow B e 1 (.slice a n c) n xs) {wx : World} (hb : Below w.heap.size w wx) : ∀ ad, a = some ad → ∀ j u, xs[j]? = some u → wx.cell? (ad.add j) = some u := by
  intro ad had j u hu
  subst had
  have hjn : j < n := by have h1 := idx_lt hu; have h2 := h.1; omega
  obtain ⟨g, cap, hf⟩ := own_form h (by omega)
  injection hf with hf _ _
  injection hf with hf
  subst hf
  have e0 := own_cell1 h hjn
  rw [hu] at e0
  have e1 := cellB hb e0
  by_cases hj0 : j = 0
  · subst hj0; simpa [Addr.add] using e1
  · simpa [Addr.add, hj0] using e1
theorem own_no {w : World} {B : Nat} {e : TypeId} {a : Option Addr} {n c : Nat} {xs : List Value} (h : w.ownsRow B e 1 (.slice a n c) n xs) : a = none → n = 0 := by
  intro ha
  subst ha
  rcases Nat.eq_zero_or_pos n with h0 | h0
  · exact h0
  · obtain ⟨g, cap, hf⟩ := own_form h h0
    injection hf with hf _ _
    cases hf
theorem do_rn1 (wa : World) (fv : Value) (B S CB R : Nat) (tr : TypeId) (hB : B ≤ wa.heap.size) (hS : S = wa.heap.size) (hC : CB = wa.heap.size + 1) (hR : R = wa.heap.size + 2) :
    Rn ((((wa.alloc (.cells #[] 3)).alloc (.cells (madeCells #[Value.int .i64 0] 16) 3)).alloc (.cells #[fv, .slice (some ⟨S, 0, none⟩) 0 0, .int .i64 0, .int .i64 0, .slice (some ⟨CB, 0, none⟩) 16 16, .int .i64 400, .bool false] tr)).drew) R CB B fv (.slice (some ⟨S, 0, none⟩) 0 0) (startCm 400) 0 false := by
  subst hS hC hR
  have h0 := Blk.new ((wa.alloc (.cells #[] 3)).alloc (.cells (madeCells #[Value.int .i64 0] 16) 3)) #[fv, .slice (some ⟨wa.heap.size, 0, none⟩) 0 0, .int .i64 0, .int .i64 0, .slice (some ⟨wa.heap.size + 1, 0, none⟩) 16 16, .int .i64 400, .bool false] tr
  have e0 : ((wa.alloc (.cells #[] 3)).alloc (.cells (madeCells #[Value.int .i64 0] 16) 3)).heap.size = wa.heap.size + 2 := by simp
  rw [e0] at h0
  have h1 := Blk.new (wa.alloc (.cells #[] 3)) (madeCells #[Value.int .i64 0] 16) 3
  have e1 : (wa.alloc (.cells #[] 3)).heap.size = wa.heap.size + 1 := by simp
  rw [e1, toList_madeCells_one, nats_zeros 16] at h1
  exact ⟨h0.drew, (h1.alloc _).drew, ((ownLit0 wa _ 3 rfl hB).alloc _).alloc _, ⟨by omega, by simp [Value.ownBlock], by simp [Value.ownBlock]⟩, startCm_ok 400, by simp [startCm]⟩
theorem do_rn2 (wa : World) (fv : Value) (B S CB R : Nat) (tr : TypeId) (hB : B ≤ wa.heap.size) (hS : S = wa.heap.size + 1) (hC : CB = wa.heap.size) (hR : R = wa.heap.size + 2) :
    Rn ((((wa.alloc (.cells (madeCells #[Value.int .i64 0] 16) 3)).alloc (.cells #[] 3)).alloc (.cells #[fv, .slice (some ⟨S, 0, none⟩) 0 0, .int .i64 0, .int .i64 0, .slice (some ⟨CB, 0, none⟩) 16 16, .int .i64 400, .bool false] tr)).drew) R CB B fv (.slice (some ⟨S, 0, none⟩) 0 0) (startCm 400) 0 false := by
  subst hS hC hR
  have h0 := Blk.new ((wa.alloc (.cells (madeCells #[Value.int .i64 0] 16) 3)).alloc (.cells #[] 3)) #[fv, .slice (some ⟨wa.heap.size + 1, 0, none⟩) 0 0, .int .i64 0, .int .i64 0, .slice (some ⟨wa.heap.size, 0, none⟩) 16 16, .int .i64 400, .bool false] tr
  have e0 : ((wa.alloc (.cells (madeCells #[Value.int .i64 0] 16) 3)).alloc (.cells #[] 3)).heap.size = wa.heap.size + 2 := by simp
  rw [e0] at h0
  have h1 := Blk.new wa (madeCells #[Value.int .i64 0] 16) 3
  rw [toList_madeCells_one, nats_zeros 16] at h1
  exact ⟨h0.drew, ((h1.alloc _).alloc _).drew, (ownLit0 (wa.alloc _) (wa.heap.size + 1) 3 (by simp) (by simp; omega)).alloc _, ⟨by omega, by simp [Value.ownBlock], by simp [Value.ownBlock]⟩, startCm_ok 400, by simp [startCm]⟩
set_option maxHeartbeats 8000000 in
theorem l5Do_any (w : World) (fs : List Fx) (v iv : Value) (xs : List Nat) (hX : FxsAt w v fs) (hfine : prFine isNB fs) {k : Nat} (hk : fs.length = k + 1) {f : Fx} (hf : fs[k]? = some f) (hI : w.ownsRow 0 3 1 iv xs.length (nats xs)) (hl : xs.length = f.params.length) (hs : Small xs) (hl3 : xs.length ≤ 3) :
    Calls Tryz.prog 47 #[.agg #[v], iv, .int .i64 400] w (DoP fs k xs w) := by
  obtain ⟨fa, fc, hvf, hfm⟩ := hX.form
  rw [hk] at hvf hfm
  subst hvf
  obtain ⟨_, fb, fo, pv, bv, rfl, hbl, x0, x1, x2, hpv, hbv⟩ := hX.get hf
  obtain ⟨pa, pc, hpf, hpm⟩ := hpv.form
  obtain ⟨ia, ic, hif⟩ := rowForm hI
  obtain ⟨m, hm⟩ : ∃ m, m = xs.length := ⟨_, rfl⟩
  rw [← hl, ← hm] at hpf hpm
  rw [← hm] at hif hl3
  subst hpf hif
  obtain ⟨bl, bc, hbf⟩ := hbv.form
  obtain ⟨bn, hbn⟩ : ∃ bn, bn = f.body.length := ⟨_, rfl⟩
  have hbm : bn ≤ big := by rw [hbn]; exact hbv.lens.1
  rw [← hbn] at hbf
  subst hbf
  unfold big at hfm hpm hbm
  obtain ⟨g, r, hgr, hgood⟩ := ends_c hfine (k + 1) k (by omega) f hf xs (startCm 400) (by omega) hs (startCm_ok 400)
  obtain ⟨g', rb, rfl, _, hrb, rfl⟩ := evC_parts hgr hf
  have hok : ∀ f ∈ fs, fxOk isNB f = true ∧ f.body.all (stA fs 4) = true := by
    intro f' hf'
    obtain ⟨j, hj, hfj⟩ := List.getElem_of_mem hf'
    have h1 := hfine.2 j f' (by rw [← hfj]; exact List.getElem?_eq_getElem hj)
    have h0 := hfine.1
    unfold prVal at h0
    unfold chkF at h1
    simp only [Bool.and_eq_true] at h0 h1
    exact ⟨List.all_eq_true.1 h0.1.2 f' hf', stA_all (by first | exact h1.2 | exact h1)⟩
  have HI := Lib.hid hI; have HX := Lib.hid hX; have HPV := Lib.hid hpv; have HBV := Lib.hid hbv; have HM := Lib.hid hm; have HL := Lib.hid hl; have HS := Lib.hid hs; have HGR := Lib.hid hgr; have HRB := Lib.hid hrb; have HOK := Lib.hid hok; have HF := Lib.hid hf; have HK := Lib.hid hk
  have HX0 := Lib.hid x0; have HX1 := Lib.hid x1; have HX2 := Lib.hid x2
  obtain ⟨i0, hi, hz0, hz1, hz2⟩ := info_parts info_str
  obtain ⟨j0, hj, hy0, hy1, hy2⟩ := info_parts info_int
  have hmk : ∀ w : World, (Instr.makeSlice 26 (.int .i64 16) (.int .i64 16)).run Tryz.prog w = .ok (.slice (some ⟨w.heap.size, 0, none⟩) 16 16) (w.alloc (.cells (madeCells (Value.int .i64 0).cells 16) 3)) := by
    intro w
    have h := run_make (P := Tryz.prog) w 26 3 j0 (.int .i64 0) Tryz.underlying26 hj hy0 .i64 .i64 16 16 (by omega) (by omega) (by rw [hy2]; omega) (by omega)
    rw [hy1, Nat.mul_one] at h
    exact h
  have hmz : (madeCells (Value.int .i64 0).cells 16).toList = nats (startCm 400).cells := (toList_madeCells_one _ _).trans (nats_zeros 16)
  have HMZ := Lib.hid hmz
  clear hI hX hpv hbv hm hl hs hgr hrb hok hf hk hmz hgood hfine hbn
  go_enter Tryz.func47, Tryz.ntmps47
  go_upto_region 1 with (fail)
  go_cut [8] from 11 to 17 (fun c wx => ∃ (S CB : Nat), c = .pointer (some ⟨w.heap.size + 1 + 1 + 1 + 1, 0, none⟩) ∧ Hid (Rn wx (w.heap.size + 1 + 1 + 1 + 1) CB w.heap.size (.slice (some ⟨fb, fo, none⟩) (k + 1) fc) (.slice (some ⟨S, 0, none⟩) 0 0) (startCm 400) 0 false ∧ Below w.heap.size w wx ∧ Blk wx w.heap.size [.slice (some ⟨fb, fo, none⟩) (k + 1) fc] ∧ Blk wx (w.heap.size + 1) [.slice none 0 0, .int .i64 0, .int .i64 0, .slice none 0 0] ∧ w.heap.size + 1 < S ∧ w.heap.size + 1 < CB ∧ S < w.heap.size + 4 ∧ CB < w.heap.size + 4))
  case first =>
    go_region
    · go_wp2_with (fail)
      go_meet
      case rel =>
        have hB1 : Blk (w.alloc (.cells #[.slice (some ⟨fb, fo, none⟩) (k + 1) fc] 31)) w.heap.size [.slice (some ⟨fb, fo, none⟩) (k + 1) fc] := Blk.new _ _ _
        have hB2 := Blk.new (w.alloc (.cells #[.slice (some ⟨fb, fo, none⟩) (k + 1) fc] 31)) #[.slice none 0 0, .int .i64 0, .int .i64 0, .slice none 0 0] 44
        rw [show (w.alloc (.cells #[.slice (some ⟨fb, fo, none⟩) (k + 1) fc] 31)).heap.size = w.heap.size + 1 by simp] at hB2
        exact ⟨w.heap.size + 1 + 1, w.heap.size + 1 + 1 + 1, rfl, Lib.hid ⟨do_rn1 _ _ _ _ _ _ _ (by simp; omega) (by simp) (by simp) (by simp), (((((Below.refl _ w).alloc (Nat.le_refl _) _).alloc (by simp) _).alloc (by simp; omega) _).alloc (by simp; omega) _).alloc (by simp; omega) _ |>.drew, ((((hB1.alloc _).alloc _).alloc _).alloc _).drew, (((hB2.alloc _).alloc _).alloc _).drew, by omega, by omega, by omega, by omega⟩⟩
    · go_wp2_with (fail)
      go_meet
      case rel =>
        have hB1 : Blk (w.alloc (.cells #[.slice (some ⟨fb, fo, none⟩) (k + 1) fc] 31)) w.heap.size [.slice (some ⟨fb, fo, none⟩) (k + 1) fc] := Blk.new _ _ _
        have hB2 := Blk.new (w.alloc (.cells #[.slice (some ⟨fb, fo, none⟩) (k + 1) fc] 31)) #[.slice none 0 0, .int .i64 0, .int .i64 0, .slice none 0 0] 44
        rw [show (w.alloc (.cells #[.slice (some ⟨fb, fo, none⟩) (k + 1) fc] 31)).heap.size = w.heap.size + 1 by simp] at hB2
        exact ⟨w.heap.size + 1 + 1 + 1, w.heap.size + 1 + 1, rfl, Lib.hid ⟨do_rn2 _ _ _ _ _ _ _ (by simp; omega) (by simp) (by simp) (by simp), (((((Below.refl _ w).alloc (Nat.le_refl _) _).alloc (by simp) _).alloc (by simp; omega) _).alloc (by simp; omega) _).alloc (by simp; omega) _ |>.drew, ((((hB1.alloc _).alloc _).alloc _).alloc _).drew, (((hB2.alloc _).alloc _).alloc _).drew, by omega, by omega, by omega, by omega⟩⟩
  case rest =>
  obtain ⟨S, CB, rfl, hI⟩ := hcut
  obtain ⟨hR, hbel, hbx, hrs, hS1, hC1, hS2, hC2⟩ := hI.out
  obtain ⟨R, hRd⟩ : ∃ R, R = w.heap.size + 1 + 1 + 1 + 1 := ⟨_, rfl⟩
  rw [← hRd] at hR ⊢
  have hRf : w.heap.size + 1 < R := by omega
  clear hRd
  have q0 : wc.cell? ⟨w.heap.size, 0, none⟩ = some (.slice (some ⟨fb, fo, none⟩) (k + 1) fc) := by rw [hbx.cell]; rfl
  have x0 := cellB hbel HX0.out; have x1 := cellB hbel HX1.out; have x2 := cellB hbel HX2.out
  have k0 : (0 : Int) ≤ k := by omega
  have HR := Lib.hid hR; have HBE := Lib.hid hbel; have HRS := Lib.hid hrs
  have hRl := hR.blk.lt; have hCl := hR.cells.lt
  have hSl : S < wc.heap.size := (World.ownsRow.lt hR.said S rfl).2
  clear hI hR hrs
  go_upto_region 3 with (fail)
  generalize hwd : World.alloc wc _ = wd
  have hcd : Below wc.heap.size wc wd := by rw [← hwd]; exact below1 _ _
  have hsd : wd.heap.size = wc.heap.size + 1 := by rw [← hwd]; simp
  have HFN : Hid (Blk wd wc.heap.size [.string f.name, .slice pa m pc, .slice bl bn bc]) := Lib.hid (by rw [← hwd]; exact Blk.new _ _ _)
  have HRD := Lib.hid (HR.out.below hcd); have HRSD := Lib.hid (HRS.out.below hcd); have hbd := hbel.trans (hcd.mono hbel.size)
  have HBD := Lib.hid hbd
  obtain ⟨_, g1, _⟩ := blkc3 HFN.out
  have hwsd : w.heap.size ≤ wd.heap.size := hbd.size
  have hpl : (f.params.map Value.string).length = m * 1 := by simp; rw [HM.out, HL.out]
  have hil : (nats xs).length = m * 1 := by rw [nats_len, ← HM.out]; omega
  have HPL := Lib.hid hpl; have HIL := Lib.hid hil
  have HIx : Hid (w.ownsRow 0 3 1 (.slice ia m ic) m (nats xs)) := Lib.hid (by have := HI.out; rw [← HM.out] at this; exact this)
  have HSD := Lib.hid hsd
  have hFl := HFN.out.lt
  clear hsd hwd hcd hpl hil hbel hbx q0 x0 x1 x2
  go_upto_region 4 with (first
    | (at_builtin; refine wpList_app _ rfl (.tmp 26) (.tmp 28) 61 (by rfl) w.heap.size 9 i0 _ 1 16 Tryz.underlying61 hi hz0 hz1 hz2 rfl (by decide) _ 0 [] (by rfl) (ownLit0 _ _ _ rfl hwsd) pa m pc (f.params.map Value.string) (by rfl) HPL.out (strs_at HPV.out (HBD.out.trans ((below1 wd _).mono HBD.out.size))) (strs_no HPV.out (HM.out.trans HL.out)) (by simp [Value.oneCell']) (by unfold maxLen; omega) (by omega) (by simp; omega) ?_; intro nv1 w3 ho hg hv; rw [Nat.zero_add, List.nil_append] at ho; have HO := Lib.hid ho; have HB3 := Lib.hid (app_below hg); have HN3 := Lib.hid (app_new hv); clear ho hg hv; obtain ⟨na, nc, hnf⟩ := rowForm HO.out; subst hnf; have hws3 : w.heap.size ≤ w3.heap.size := Nat.le_trans hwsd HB3.out.size)
    | (at_builtin; refine wpList_app _ rfl (.tmp 30) (.tmp 31) 26 (by rfl) w.heap.size 3 j0 _ 1 8 Tryz.underlying26 hj hy0 hy1 hy2 rfl (by decide) _ 0 [] (by rfl) (ownLit0 _ _ _ rfl hws3) ia m ic (nats xs) (by rfl) HIL.out (own_at HIx.out ((HBD.out.trans (HB3.out.mono HBD.out.size)).trans ((below1 w3 _).mono hws3))) (own_no HIx.out) (by unfold nats; simp [Value.oneCell']) (by unfold maxLen; omega) (by omega) (by simp; omega) ?_; intro vv1 w4 ho hg hv; rw [Nat.zero_add, List.nil_append] at ho; have HO4 := Lib.hid ho; have HB4 := Lib.hid (app_below hg); have HN4 := Lib.hid (app_new hv); clear ho hg hv; obtain ⟨ua, uc, huf⟩ := rowForm HO4.out; subst huf; have hws4 : w.heap.size ≤ w4.heap.size := Nat.le_trans hws3 HB4.out.size))
  generalize hw6 : World.alloc w4 _ = w6
  obtain ⟨V, hVd⟩ : ∃ V, w4.heap.size = V := ⟨_, rfl⟩
  rw [hVd]
  have hb46 : Below w4.heap.size w4 w6 := by rw [← hw6]; exact below1 _ _
  have hvb : Blk w6 V [.slice na m nc, .slice ua m uc, .bool false, .int .i64 0] := by rw [← hVd, ← hw6]; exact Blk.new _ _ _
  have hb36 := HB4.out.trans (hb46.mono HB4.out.size)
  have hbd6 := HB3.out.trans (hb36.mono HB3.out.size)
  have hb06 := HBD.out.trans (hbd6.mono HBD.out.size)
  have hR6 := HRD.out.below hbd6
  have hN6 := ownsRow_below HO.out hb36
  have hV6 := ownsRow_below HO4.out hb46
  have hE6 := do_en (HL.out.symm) hvb (by rw [← HL.out, ← HM.out]; exact hN6) (by rw [← HM.out]; exact hV6) HS.out
  have hSd := HSD.out
  have hs3 := HB3.out.size
  have hs4 := HB4.out.size
  have hwc : w.heap.size ≤ wc.heap.size := HBE.out.size
  have hA6 : Ap R CB V (.slice (some ⟨S, 0, none⟩) 0 0) (.slice na m nc) (.slice ua m uc) := by
    refine ⟨⟨by omega, by omega, by simp [Value.ownBlock]; omega⟩, fun q hq => ?_, fun q hq => ?_⟩
    · have h1 := HN3.out q hq
      have h2 := (World.ownsRow.lt HO.out q hq).2
      exact ⟨by omega, by omega, by omega, by simp [Value.ownBlock]; omega, fun e => by have := HN4.out q e; omega⟩
    · have h1 := HN4.out q hq
      have h2 := (World.ownsRow.lt HO4.out q hq).2
      exact ⟨by omega, by omega, by omega, by simp [Value.ownBlock]; omega⟩
  have hCx : Cx w fs (.slice (some ⟨fb, fo, none⟩) (k + 1) fc) R CB w.heap.size := ⟨HX.out, Nat.le_refl _, by omega, by omega, HOK.out⟩
  have hok := HOK.out f (List.mem_of_getElem? HF.out)
  have hfo := hok.1
  simp only [fxOk, Bool.and_eq_true, decide_eq_true_eq] at hfo
  have hel : (f.params.zip xs).reverse.length = m := by simp [← HL.out, ← HM.out]
  have HC := Lib.hid ((runs_all hCx g').2.1 4 f.body _ _ (startCm 400) rb w6 V _ _ _ HRB.out hfo.2 hok.2 HBV.out hb06 hR6 hE6 hA6 (by omega) (by rw [hel]; show m + 400 ≤ 20000; omega))
  obtain ⟨_, _, p2⟩ := blkc3 (HFN.out.below hbd6)
  have hrs6 := HRSD.out.below hbd6
  have hfoot : ∀ z ∈ foot R CB V (.slice (some ⟨S, 0, none⟩) 0 0) (.slice na m nc) (.slice ua m uc), w.heap.size + 1 < z := by
    intro z hz
    rw [mem_foot] at hz
    rcases hz with e | e | e | e | e | e
    · omega
    · omega
    · omega
    · simp [Value.ownBlock] at e; omega
    · have := HN3.out z e; omega
    · have := HN4.out z e; omega
  have HFT := Lib.hid hfoot; have HRS6 := Lib.hid hrs6; have HB06 := Lib.hid hb06
  clear hw6 hVd hb46 hvb hb36 hbd6 hR6 hN6 hV6 hE6 hSd hs3 hs4 hwc hA6 hCx hok hfo hel hrs6 hfoot hb06 g1
  go_wp2_with (fail)
  go_at_call 82
  refine HC.out.mono ?_
  rintro e w7 ⟨sv', nv', vv', env', bk', bv', rfl, hR7, hE7, hA7, hlo7, hob, hF7, hL7⟩
  have hbel7 : Below w.heap.size w w7 := hF7.only.below HB06.out HB06.out.size (fun z hz => by have := HFT.out z hz; omega)
  have hrs7 := HRS6.out.same (hF7.only.block _ HRS6.out.lt (fun hm => by have := HFT.out _ hm; omega))
  obtain ⟨sa, sc, hsf⟩ := rowForm hR7.said
  subst hsf
  obtain ⟨c0, c1, c2, c3, c4, c5, c6⟩ := blkc7 hR7.blk
  obtain ⟨_, _, _, d3⟩ := blkc4 hE7.blk
  obtain ⟨t0, t1, t2, t3⟩ := blkc4 hrs7
  have u0 := hrs7.frozen 0; have u1 := hrs7.frozen 1; have u2 := hrs7.frozen 2; have u3 := hrs7.frozen 3
  have s3 := hR7.blk.frozen 3
  have hRl7 := hR7.blk.lt
  have hRn7 : ¬ R = w.heap.size + 1 := by omega
  have HR7 := Lib.hid hR7; have HBL7 := Lib.hid hbel7; have HRS7 := Lib.hid hrs7; have HOB := Lib.hid hob
  have HSX : Hid (∀ q, (Value.slice sa rb.cm.said.length sc).ownBlock = some q → w.heap.size + 1 < q) := Lib.hid (fun q hq => (hF7.row q (mem_foot.2 (.inr (.inr (.inr (.inl hq)))))).elim (fun hm => HFT.out q hm) (fun hm => by have := HRS6.out.lt; omega))
  clear hR7 hE7 hA7 hlo7 hob hF7 hL7 hbel7 hrs7
  cases rb with
  | stop en s2 =>
    simp only [Rb.over, Rb.en, Rb.cm] at c1 c2 c5 c6
    have hkeep : ∀ q, q ≠ w.heap.size + 1 → q ≠ R → (((((w7.drew.setCell ⟨w.heap.size + 1, 0, none⟩ (.slice sa s2.said.length sc)).setCell ⟨w.heap.size + 1, 1, none⟩ (.int .i64 (en : Int))).setCell ⟨w.heap.size + 1, 2, none⟩ (.int .i64 0)).setCell ⟨w.heap.size + 1, 3, none⟩ (.slice (some ⟨CB, 0, none⟩) 16 16))).heap[q]? = w7.heap[q]? := fun q e1 e2 => (Below.heap_setCell _ _ _ _ (by simp; exact e1)).trans ((Below.heap_setCell _ _ _ _ (by simp; exact e1)).trans ((Below.heap_setCell _ _ _ _ (by simp; exact e1)).trans (Below.heap_setCell _ _ _ _ (by simp; exact e1))))
    have HKP : Hid (∀ q, (Value.slice sa s2.said.length sc).ownBlock = some q → (((((w7.drew.setCell ⟨w.heap.size + 1, 0, none⟩ (.slice sa s2.said.length sc)).setCell ⟨w.heap.size + 1, 1, none⟩ (.int .i64 (en : Int))).setCell ⟨w.heap.size + 1, 2, none⟩ (.int .i64 0)).setCell ⟨w.heap.size + 1, 3, none⟩ (.slice (some ⟨CB, 0, none⟩) 16 16))).heap[q]? = w7.heap[q]?) := Lib.hid (fun q hq => hkeep q (by have := HSX.out q hq; omega) (fun e => HR7.out.ne.2.1 (by rw [← e]; exact hq)))
    have HKC : Hid ((((((w7.drew.setCell ⟨w.heap.size + 1, 0, none⟩ (.slice sa s2.said.length sc)).setCell ⟨w.heap.size + 1, 1, none⟩ (.int .i64 (en : Int))).setCell ⟨w.heap.size + 1, 2, none⟩ (.int .i64 0)).setCell ⟨w.heap.size + 1, 3, none⟩ (.slice (some ⟨CB, 0, none⟩) 16 16))).heap[CB]? = w7.heap[CB]?) := Lib.hid (hkeep CB (by omega) (fun e => HR7.out.ne.1 e.symm))
    have HKB : Hid (Below w.heap.size w (((((w7.drew.setCell ⟨w.heap.size + 1, 0, none⟩ (.slice sa s2.said.length sc)).setCell ⟨w.heap.size + 1, 1, none⟩ (.int .i64 (en : Int))).setCell ⟨w.heap.size + 1, 2, none⟩ (.int .i64 0)).setCell ⟨w.heap.size + 1, 3, none⟩ (.slice (some ⟨CB, 0, none⟩) 16 16)))) := Lib.hid (((((HBL7.out.drew.setCell (p := ⟨w.heap.size + 1, 0, none⟩) (by simp) _).setCell (p := ⟨w.heap.size + 1, 1, none⟩) (by simp) _).setCell (p := ⟨w.heap.size + 1, 2, none⟩) (by simp) _).setCell (p := ⟨w.heap.size + 1, 3, none⟩) (by simp) _))
    clear hkeep
    go_wp2_with (fail)
    go_region
    go_wp2_with (fail)
    refine bodyPost_ret (v := .tuple #[.agg #[.slice sa s2.said.length sc, .int .i64 (en : Int), .int .i64 0, .slice (some ⟨CB, 0, none⟩) 16 16], .int .i64 (s2.left : Int)]) (by simp [results, Tryz.results47, go_sem, hRn7, t0, t1, t2, t3]) rfl ?_
    refine ⟨_, g' + 1, .slice sa s2.said.length sc, CB, HGR.out, rfl, ?_, ?_, by omega, HR7.out.cm, ?_, by have := HR7.out.bd; simp only [Rb.cm] at this; show s2.said.length ≤ 8000; omega⟩
    · exact ownsRow_same HR7.out.said (fun q hq => HKP.out q hq)
    · exact HR7.out.cells.same HKC.out
    · exact HKB.out
  | go e1 s2 =>
    simp only [Rb.over, Rb.en, Rb.cm] at c1 c2 c5 c6
    have hkeep : ∀ q, q ≠ w.heap.size + 1 → q ≠ R → ((((((w7.setCell ⟨R, 3, none⟩ (.int .i64 (bv' : Int))).drew.setCell ⟨w.heap.size + 1, 0, none⟩ (.slice sa s2.said.length sc)).setCell ⟨w.heap.size + 1, 1, none⟩ (.int .i64 0)).setCell ⟨w.heap.size + 1, 2, none⟩ (.int .i64 (bv' : Int))).setCell ⟨w.heap.size + 1, 3, none⟩ (.slice (some ⟨CB, 0, none⟩) 16 16))).heap[q]? = w7.heap[q]? := fun q e1 e2 => (Below.heap_setCell _ _ _ _ (by simp; exact e1)).trans ((Below.heap_setCell _ _ _ _ (by simp; exact e1)).trans ((Below.heap_setCell _ _ _ _ (by simp; exact e1)).trans ((Below.heap_setCell _ _ _ _ (by simp; exact e1)).trans (Below.heap_setCell _ _ _ _ (by simp; exact e2)))))
    have HKP : Hid (∀ q, (Value.slice sa s2.said.length sc).ownBlock = some q → ((((((w7.setCell ⟨R, 3, none⟩ (.int .i64 (bv' : Int))).drew.setCell ⟨w.heap.size + 1, 0, none⟩ (.slice sa s2.said.length sc)).setCell ⟨w.heap.size + 1, 1, none⟩ (.int .i64 0)).setCell ⟨w.heap.size + 1, 2, none⟩ (.int .i64 (bv' : Int))).setCell ⟨w.heap.size + 1, 3, none⟩ (.slice (some ⟨CB, 0, none⟩) 16 16))).heap[q]? = w7.heap[q]?) := Lib.hid (fun q hq => hkeep q (by have := HSX.out q hq; omega) (fun e => HR7.out.ne.2.1 (by rw [← e]; exact hq)))
    have HKC : Hid (((((((w7.setCell ⟨R, 3, none⟩ (.int .i64 (bv' : Int))).drew.setCell ⟨w.heap.size + 1, 0, none⟩ (.slice sa s2.said.length sc)).setCell ⟨w.heap.size + 1, 1, none⟩ (.int .i64 0)).setCell ⟨w.heap.size + 1, 2, none⟩ (.int .i64 (bv' : Int))).setCell ⟨w.heap.size + 1, 3, none⟩ (.slice (some ⟨CB, 0, none⟩) 16 16))).heap[CB]? = w7.heap[CB]?) := Lib.hid (hkeep CB (by omega) (fun e => HR7.out.ne.1 e.symm))
    have HKB : Hid (Below w.heap.size w ((((((w7.setCell ⟨R, 3, none⟩ (.int .i64 (bv' : Int))).drew.setCell ⟨w.heap.size + 1, 0, none⟩ (.slice sa s2.said.length sc)).setCell ⟨w.heap.size + 1, 1, none⟩ (.int .i64 0)).setCell ⟨w.heap.size + 1, 2, none⟩ (.int .i64 (bv' : Int))).setCell ⟨w.heap.size + 1, 3, none⟩ (.slice (some ⟨CB, 0, none⟩) 16 16)))) := Lib.hid ((((((HBL7.out.setCell (p := ⟨R, 3, none⟩) (by simp; omega) _).drew.setCell (p := ⟨w.heap.size + 1, 0, none⟩) (by simp) _).setCell (p := ⟨w.heap.size + 1, 1, none⟩) (by simp) _).setCell (p := ⟨w.heap.size + 1, 2, none⟩) (by simp) _).setCell (p := ⟨w.heap.size + 1, 3, none⟩) (by simp) _))
    clear hkeep
    go_wp2_with (fail)
    go_region
    go_wp2_with (fail)
    refine bodyPost_ret (v := .tuple #[.agg #[.slice sa s2.said.length sc, .int .i64 0, .int .i64 (bv' : Int), .slice (some ⟨CB, 0, none⟩) 16 16], .int .i64 (s2.left : Int)]) (by simp [results, Tryz.results47, go_sem, hRn7, t0, t1, t2, t3]) rfl ?_
    refine ⟨_, g' + 1, .slice sa s2.said.length sc, CB, HGR.out, by rw [(HOB.out.2.1 e1 s2 rfl).2.2]; rfl, ?_, ?_, by omega, HR7.out.cm, ?_, by have := HR7.out.bd; simp only [Rb.cm] at this; show s2.said.length ≤ 8000; omega⟩
    · exact ownsRow_same HR7.out.said (fun q hq => HKP.out q hq)
    · exact HR7.out.cells.same HKC.out
    · exact HKB.out
  | back u s2 =>
    simp only [Rb.over, Rb.en, Rb.cm] at c1 c2 c5 c6
    have hkeep : ∀ q, q ≠ w.heap.size + 1 → q ≠ R → ((((((w7.setCell ⟨R, 3, none⟩ (.int .i64 (bv' : Int))).drew.setCell ⟨w.heap.size + 1, 0, none⟩ (.slice sa s2.said.length sc)).setCell ⟨w.heap.size + 1, 1, none⟩ (.int .i64 0)).setCell ⟨w.heap.size + 1, 2, none⟩ (.int .i64 (bv' : Int))).setCell ⟨w.heap.size + 1, 3, none⟩ (.slice (some ⟨CB, 0, none⟩) 16 16))).heap[q]? = w7.heap[q]? := fun q e1 e2 => (Below.heap_setCell _ _ _ _ (by simp; exact e1)).trans ((Below.heap_setCell _ _ _ _ (by simp; exact e1)).trans ((Below.heap_setCell _ _ _ _ (by simp; exact e1)).trans ((Below.heap_setCell _ _ _ _ (by simp; exact e1)).trans (Below.heap_setCell _ _ _ _ (by simp; exact e2)))))
    have HKP : Hid (∀ q, (Value.slice sa s2.said.length sc).ownBlock = some q → ((((((w7.setCell ⟨R, 3, none⟩ (.int .i64 (bv' : Int))).drew.setCell ⟨w.heap.size + 1, 0, none⟩ (.slice sa s2.said.length sc)).setCell ⟨w.heap.size + 1, 1, none⟩ (.int .i64 0)).setCell ⟨w.heap.size + 1, 2, none⟩ (.int .i64 (bv' : Int))).setCell ⟨w.heap.size + 1, 3, none⟩ (.slice (some ⟨CB, 0, none⟩) 16 16))).heap[q]? = w7.heap[q]?) := Lib.hid (fun q hq => hkeep q (by have := HSX.out q hq; omega) (fun e => HR7.out.ne.2.1 (by rw [← e]; exact hq)))
    have HKC : Hid (((((((w7.setCell ⟨R, 3, none⟩ (.int .i64 (bv' : Int))).drew.setCell ⟨w.heap.size + 1, 0, none⟩ (.slice sa s2.said.length sc)).setCell ⟨w.heap.size + 1, 1, none⟩ (.int .i64 0)).setCell ⟨w.heap.size + 1, 2, none⟩ (.int .i64 (bv' : Int))).setCell ⟨w.heap.size + 1, 3, none⟩ (.slice (some ⟨CB, 0, none⟩) 16 16))).heap[CB]? = w7.heap[CB]?) := Lib.hid (hkeep CB (by omega) (fun e => HR7.out.ne.1 e.symm))
    have HKB : Hid (Below w.heap.size w ((((((w7.setCell ⟨R, 3, none⟩ (.int .i64 (bv' : Int))).drew.setCell ⟨w.heap.size + 1, 0, none⟩ (.slice sa s2.said.length sc)).setCell ⟨w.heap.size + 1, 1, none⟩ (.int .i64 0)).setCell ⟨w.heap.size + 1, 2, none⟩ (.int .i64 (bv' : Int))).setCell ⟨w.heap.size + 1, 3, none⟩ (.slice (some ⟨CB, 0, none⟩) 16 16)))) := Lib.hid ((((((HBL7.out.setCell (p := ⟨R, 3, none⟩) (by simp; omega) _).drew.setCell (p := ⟨w.heap.size + 1, 0, none⟩) (by simp) _).setCell (p := ⟨w.heap.size + 1, 1, none⟩) (by simp) _).setCell (p := ⟨w.heap.size + 1, 2, none⟩) (by simp) _).setCell (p := ⟨w.heap.size + 1, 3, none⟩) (by simp) _))
    clear hkeep
    go_wp2_with (fail)
    go_region
    go_wp2_with (fail)
    refine bodyPost_ret (v := .tuple #[.agg #[.slice sa s2.said.length sc, .int .i64 0, .int .i64 (bv' : Int), .slice (some ⟨CB, 0, none⟩) 16 16], .int .i64 (s2.left : Int)]) (by simp [results, Tryz.results47, go_sem, hRn7, t0, t1, t2, t3]) rfl ?_
    refine ⟨_, g' + 1, .slice sa s2.said.length sc, CB, HGR.out, by rw [(HOB.out.2.2.1 u s2 rfl).2]; rfl, ?_, ?_, by omega, HR7.out.cm, ?_, by have := HR7.out.bd; simp only [Rb.cm] at this; show s2.said.length ≤ 8000; omega⟩
    · exact ownsRow_same HR7.out.said (fun q hq => HKP.out q hq)
    · exact HR7.out.cells.same HKC.out
    · exact HKB.out
end Go.Proofs.YtpnliencahnmoaaGreatDoor

set_option linter.unusedVariables false
set_option linter.unusedSimpArgs false
set_option maxRecDepth 100000
namespace Go.Proofs.YtpnliencahnmoaaGreatDoor
open Go.RowKit
set_option maxHeartbeats 2000000 in
theorem l5Values_any (w : World) (v : Value) (xs : List Nat) (h : w.ownsRow 0 3 1 v xs.length (nats xs)) (hs : Small xs) (hl : xs.length ≤ 3) : Calls Tryz.prog 81 #[v] w fun e w' => e = .returned (.bool true) ∧ w' = w := by
  obtain ⟨m, hm⟩ : ∃ m, m = xs.length := ⟨_, rfl⟩
  rw [← hm] at h hl
  obtain ⟨a, c, hf⟩ := rowForm h
  subst hf
  have H := Lib.hid h; have HM := Lib.hid hm; have HS := Lib.hid hs
  have HI := Lib.hid (fun w' n => l1In_any w' n 0 255)
  clear h hm hs
  go_enter Tryz.func81, Tryz.ntmps81
  go_wp2_with (fail)
  go_loop [3] (fun k => ∃ j : Nat, j ≤ m ∧ k = .int .i64 (j : Int)) (fun k => m - (intOf k).toNat)
  case atStart => exact ⟨0, Nat.zero_le _, rfl⟩
  case round =>
    obtain ⟨j, hj, rfl⟩ := hrel
    by_cases hlt : j < m
    · obtain ⟨g, c', hf⟩ := own_form H.out (by omega)
      injection hf with hf _ hc
      subst hf hc
      have c0 := own_cell1 H.out hlt
      rw [nats_get (by rw [← HM.out]; exact hlt)] at c0
      have hx := HS.out.at j
      obtain ⟨x, hxd⟩ : ∃ x, x = xs.getD j 0 := ⟨_, rfl⟩
      rw [← hxd] at c0 hx
      have hr : inR 0 255 (x : Int) = true := (inR_iff ..).2 ⟨by omega, by omega⟩
      have HR := Lib.hid hr
      have k0 : (0 : Int) ≤ j := by omega
      have k1 : (j : Int) < m := by omega
      clear hxd hr
      go_wp2_with (fail)
      go_at_call 46
      refine (HI.out _ _).mono ?_
      rintro e w2 ⟨rfl, rfl⟩
      rw [HR.out]
      go_wp2_with (fail)
      go_round
      case rel => exact ⟨j + 1, by omega, by go_num⟩
      case measure => simp [intOf]; omega
    · obtain rfl : j = m := by omega
      go_wp2_with (fail)
      go_ret
      exact ⟨rfl, rfl⟩
/-- a program can be run with so many numbers -/
def Fits (fs : List Fx) (xs : List Nat) : Prop := prFine isNB fs ∧ ∃ f, fs[fs.length - 1]? = some f ∧ xs.length = f.params.length
set_option maxHeartbeats 4000000 in
theorem l5Fits_any (w : World) (fs : List Fx) (v iv : Value) (xs : List Nat) (hX : FxsAt w v fs) (hle : fxsW fs ≤ 4194304) (hI : w.ownsRow 0 3 1 iv xs.length (nats xs)) (hs : Small xs) (hl3 : xs.length ≤ 3) (q : Bool) (hq : q = true ↔ Fits fs xs) :
    Calls Tryz.prog 45 #[.agg #[v], iv] w (BoolP q w) := by
  obtain ⟨fa, fc, hvf, hfm⟩ := hX.form
  obtain ⟨m, hm⟩ : ∃ m, m = xs.length := ⟨_, rfl⟩
  obtain ⟨ia, ic, hif⟩ := rowForm hI
  rw [← hm] at hif hl3
  subst hif
  by_cases hp : prFine isNB fs
  · have hlen : 1 ≤ fs.length := by
      have h0 := hp.1
      unfold prVal at h0
      simp only [Bool.and_eq_true, decide_eq_true_eq] at h0
      omega
    obtain ⟨k, hk⟩ : ∃ k, fs.length = k + 1 := ⟨fs.length - 1, by omega⟩
    obtain ⟨f, hf⟩ : ∃ f, fs[k]? = some f := ⟨_, List.getElem?_eq_getElem (by omega)⟩
    rw [hk] at hvf hfm
    subst hvf
    obtain ⟨_, fb, fo, pv, bv, rfl, hbl, x0, x1, x2, hpv, hbv⟩ := hX.get hf
    obtain ⟨pa, pc, hpf, hpm⟩ := hpv.form
    obtain ⟨n, hn⟩ : ∃ n, n = f.params.length := ⟨_, rfl⟩
    rw [← hn] at hpf hpm
    subst hpf
    have hb1 := below1 w (.cells #[.slice (some ⟨fb, fo, none⟩) (k + 1) fc] 31)
    have HFI := Lib.hid (specFine_any fs _ (.slice (some ⟨fb, fo, none⟩) (k + 1) fc) true (hX.below hb1) hle ⟨fun _ => hp, fun _ => rfl⟩)
    have HVA := Lib.hid (fun w' (hb : Below w.heap.size w w') => l5Values_any w' (.slice ia m ic) xs (ownsRow_below hI hb) hs (by omega))
    have hqq : q = decide (m = n) := by
      rw [Bool.eq_iff_iff, hq, decide_eq_true_eq, hm, hn]
      unfold Fits
      rw [hk, Nat.add_sub_cancel, hf]
      exact ⟨fun ⟨_, f', e, h⟩ => by injection e with e; rw [e]; exact h, fun h => ⟨hp, f, rfl, h⟩⟩
    subst hqq
    have HX1 := Lib.hid x1; have HB1 := Lib.hid hb1
    unfold big at hfm hpm
    have k0 : (0 : Int) ≤ k := by omega
    clear hX hle hI hs hq hp hlen hk hf hbv hpv hm hn x0 x1 x2 hb1
    by_cases hmn : m = n
    · subst hmn
      go_enter Tryz.func45, Tryz.ntmps45
      go_wp2_with (fail)
      go_at_call 43
      refine HFI.out.mono ?_
      rintro e w2 ⟨rfl, hb2⟩
      have hbw := HB1.out.trans (hb2.mono HB1.out.size)
      have x1 := cellB hbw HX1.out
      have q0 : w2.cell? ⟨w.heap.size, 0, none⟩ = some (.slice (some ⟨fb, fo, none⟩) (k + 1) fc) := by
        have hq : Blk (w.alloc (.cells #[.slice (some ⟨fb, fo, none⟩) (k + 1) fc] 31)) w.heap.size [.slice (some ⟨fb, fo, none⟩) (k + 1) fc] := Blk.new _ _ _
        rw [(hq.below hb2).cell]; rfl
      have HBW := Lib.hid hbw
      have HV2 := Lib.hid (HVA.out w2 hbw)
      clear hb2 hbw
      go_wp2_with (fail)
      go_at_call 81
      refine HV2.out.mono ?_
      rintro e _ ⟨rfl, rfl⟩
      go_wp2_with (fail)
      go_ret
      exact ⟨by simp, HBW.out⟩
    · have hmi := neI (show ¬ (m : Int) = n by omega)
      have HMN := Lib.hid hmn
      clear hmn
      go_enter Tryz.func45, Tryz.ntmps45
      go_wp2_with (fail)
      go_at_call 43
      refine HFI.out.mono ?_
      rintro e w2 ⟨rfl, hb2⟩
      have hbw := HB1.out.trans (hb2.mono HB1.out.size)
      have x1 := cellB hbw HX1.out
      have q0 : w2.cell? ⟨w.heap.size, 0, none⟩ = some (.slice (some ⟨fb, fo, none⟩) (k + 1) fc) := by
        have hq : Blk (w.alloc (.cells #[.slice (some ⟨fb, fo, none⟩) (k + 1) fc] 31)) w.heap.size [.slice (some ⟨fb, fo, none⟩) (k + 1) fc] := Blk.new _ _ _
        rw [(hq.below hb2).cell]; rfl
      have HBW := Lib.hid hbw
      have HV2 := Lib.hid (HVA.out w2 hbw)
      clear hb2 hbw
      go_wp2_with (fail)
      go_at_call 81
      refine HV2.out.mono ?_
      rintro e _ ⟨rfl, rfl⟩
      go_wp2_with (fail)
      go_ret
      exact ⟨by simp [HMN.out], HBW.out⟩
  · have hqf : q = false := by
      cases q
      · rfl
      · exact absurd (hq.1 rfl).1 hp
    subst hqf
    subst hvf
    have hb1 := below1 w (.cells #[.slice fa fs.length fc] 31)
    have HFI := Lib.hid (specFine_any fs _ (.slice fa fs.length fc) false (hX.below hb1) hle ⟨fun h => (by cases h), fun h => absurd h hp⟩)
    have HB1 := Lib.hid hb1
    clear hX hle hI hs hq hp hb1 hm
    go_enter Tryz.func45, Tryz.ntmps45
    go_wp2_with (fail)
    go_at_call 43
    refine HFI.out.mono ?_
    rintro e w2 ⟨rfl, hb2⟩
    have HBW := Lib.hid (HB1.out.trans (hb2.mono HB1.out.size))
    clear hb2
    go_wp2_with (fail)
    go_ret
    exact ⟨rfl, HBW.out⟩
end Go.Proofs.YtpnliencahnmoaaGreatDoor

set_option linter.unusedVariables false
set_option linter.unusedSimpArgs false
set_option maxRecDepth 100000
namespace Go.Proofs.YtpnliencahnmoaaGreatDoor
open Go.RowKit
/-- an outcome lies in memory -/
def OutAt (w : World) (B : Nat) (v : Value) (r : Rs) : Prop := ∃ (sa : Option Addr) (sc CB : Nat), v = .agg #[.slice sa r.cm.said.length sc, .int .i64 (r.en : Int), .int .i64 (valOf r : Int), .slice (some ⟨CB, 0, none⟩) 16 16] ∧
  w.ownsRow B 3 1 (.slice sa r.cm.said.length sc) r.cm.said.length (nats r.cm.said) ∧ Blk w CB (nats r.cm.cells) ∧ B ≤ CB ∧ CmOk r.cm ∧ r.cm.said.length ≤ 8000
theorem OutAt.below {w w' : World} {B : Nat} {v : Value} {r : Rs} (h : OutAt w B v r) (hb : Below w.heap.size w w') : OutAt w' B v r := by
  obtain ⟨sa, sc, CB, h1, h2, h3, h4, h5, h6⟩ := h
  exact ⟨sa, sc, CB, h1, ownsRow_below h2 hb, h3.below hb, h4, h5, h6⟩
theorem OutAt.only {w w' : World} {B z : Nat} {v : Value} {r : Rs} (h : OutAt w B v r) (hO : Only [z] w w') (hz : ∀ sa n c CB e1 e2, v = .agg #[.slice sa n c, e1, e2, .slice (some ⟨CB, 0, none⟩) 16 16] → CB ≠ z ∧ (Value.slice sa n c).ownBlock ≠ some z) : OutAt w' B v r := by
  obtain ⟨sa, sc, CB, h1, h2, h3, h4, h5, h6⟩ := h
  obtain ⟨k1, k2⟩ := hz _ _ _ _ _ _ h1
  exact ⟨sa, sc, CB, h1, ownsRow_same h2 (fun q hq => hO.block q (World.ownsRow.lt h2 q hq).2 (by simp; rintro rfl; exact k2 hq)), h3.same (hO.block CB h3.lt (by simp; exact k1)), h4, h5, h6⟩
/-- how RunProgram answers -/
def RunP (fs : List Fx) (xs : List Nat) (w : World) (e : Ending) (w' : World) : Prop :=
  ∃ (v : Value) (b : Bool), e = .returned (.tuple #[v, .bool b]) ∧ Below w.heap.size w w' ∧ (b = true ↔ Fits fs xs) ∧ (b = false → v = .agg #[.slice none 0 0, .int .i64 0, .int .i64 0, .slice none 0 0]) ∧ (b = true → ∃ r g, evC fs g (fs.length - 1) xs (startCm 400) = some r ∧ OutAt w' w.heap.size v r)
set_option maxHeartbeats 4000000 in
theorem specRun_any (w : World) (fs : List Fx) (v iv : Value) (xs : List Nat) (hX : FxsAt w v fs) (hle : fxsW fs ≤ 4194304) (hI : w.ownsRow 0 3 1 iv xs.length (nats xs)) (hs : Small xs) (hl3 : xs.length ≤ 3) :
    Calls Tryz.prog 21 #[.agg #[v], iv, .int .i64 400] w (RunP fs xs w) := by
  obtain ⟨fa, fc, hvf, hfm⟩ := hX.form
  obtain ⟨ia, ic, hif⟩ := rowForm hI
  obtain ⟨m, hm⟩ : ∃ m, m = xs.length := ⟨_, rfl⟩
  obtain ⟨l, hl⟩ : ∃ l, l = fs.length := ⟨_, rfl⟩
  rw [← hm] at hif
  rw [← hl] at hvf hfm
  subst hif hvf
  have hb1 : Below w.heap.size w ((w.alloc (.cells #[.slice fa l fc] 31)).alloc (.cells #[.slice none 0 0, .int .i64 0, .int .i64 0, .slice none 0 0] 44)) := (below1 w _).trans ((below1 _ _).mono (by simp))
  have hrs := Blk.new (w.alloc (.cells #[.slice fa l fc] 31)) #[.slice none 0 0, .int .i64 0, .int .i64 0, .slice none 0 0] 44
  rw [show (w.alloc (.cells #[.slice fa l fc] 31)).heap.size = w.heap.size + 1 by simp] at hrs
  have hbx : Blk ((w.alloc (.cells #[.slice fa l fc] 31)).alloc (.cells #[.slice none 0 0, .int .i64 0, .int .i64 0, .slice none 0 0] 44)) w.heap.size [.slice fa l fc] := (Blk.new w #[.slice fa l fc] 31).alloc _
  have HX := Lib.hid hX; have HI := Lib.hid hI; have HB1 := Lib.hid hb1; have HRS := Lib.hid hrs; have HBX := Lib.hid hbx; have HS := Lib.hid hs; have HL3 := Lib.hid hl3; have HL := Lib.hid hl; have HM := Lib.hid hm
  have hIN : inR 0 4000 400 = true := by decide
  have HIN := Lib.hid (fun w' => l1In_any w' 400 0 4000)
  rw [hIN] at HIN
  by_cases hq : Fits fs xs
  · have HF := Lib.hid (l5Fits_any _ fs _ _ xs (hX.below hb1) hle (ownsRow_below hI hb1) hs hl3 true ⟨fun _ => hq, fun _ => rfl⟩)
    have HQ := Lib.hid hq
    rw [← hm] at hl3
    clear hX hle hI hs hq hb1 hrs hbx hIN hl hm
    go_enter Tryz.func21, Tryz.ntmps21
    go_wp2_with (fail)
    go_at_call 45
    refine HF.out.mono ?_
    rintro e w2 ⟨rfl, hb2⟩
    have HB2 := Lib.hid (HB1.out.trans (hb2.mono HB1.out.size)); have HRS2 := Lib.hid (HRS.out.below hb2)
    have q0 : w2.cell? ⟨w.heap.size, 0, none⟩ = some (.slice fa l fc) := by rw [(HBX.out.below hb2).cell]; rfl
    clear hb2
    go_wp2_with (fail)
    go_at_call 46
    refine (HIN.out _).mono ?_
    rintro e _ ⟨rfl, rfl⟩
    obtain ⟨f, hf, hlf⟩ := HQ.out.2
    have hlen : 1 ≤ fs.length := by have := idx_lt hf; omega
    have HDO := Lib.hid (l5Do_any w2 fs _ _ xs (HX.out.below HB2.out) HQ.out.1 (k := fs.length - 1) (by omega) hf (ownsRow_below HI.out HB2.out) hlf HS.out HL3.out)
    clear hf hlf hlen
    go_wp2_with (fail)
    go_at_call 47
    refine HDO.out.mono ?_
    rintro e w3 ⟨r, g, sv, CB, hev, rfl, hso, hcb, hCB, hcm, hb3, h80⟩
    obtain ⟨sa, sc, hsf⟩ := rowForm hso
    subst hsf
    have HB3 := Lib.hid (HB2.out.trans (hb3.mono HB2.out.size))
    have hrs3 := HRS2.out.below hb3
    have HOA : Hid (OutAt w3 w.heap.size (.agg #[.slice sa r.cm.said.length sc, .int .i64 (r.en : Int), .int .i64 (valOf r : Int), .slice (some ⟨CB, 0, none⟩) 16 16]) r) := Lib.hid ⟨sa, sc, CB, rfl, ownsRow_mono hso HB2.out.size, hcb, Nat.le_trans HB2.out.size hCB, hcm, h80⟩
    have HGE : Hid (w2.heap.size ≤ CB ∧ ∀ q, (Value.slice sa r.cm.said.length sc).ownBlock = some q → w2.heap.size ≤ q) := Lib.hid ⟨hCB, fun q hq => ownBlock_of hso q hq⟩
    obtain ⟨t0, t1, t2, t3⟩ := blkc4 hrs3
    have HRS3 := Lib.hid hrs3
    have u0 := hrs3.frozen 0; have u1 := hrs3.frozen 1; have u2 := hrs3.frozen 2; have u3 := hrs3.frozen 3
    have hRl := hrs3.lt
    have HR2l := Lib.hid HRS2.out.lt
    have HEV := Lib.hid hev
    clear hev hso hcb hCB hcm hb3 h80 hrs3 q0
    have hne3 : ¬ w3.heap.size = w.heap.size + 1 := by omega
    have hne4 : ¬ w.heap.size + 1 = w3.heap.size := by omega
    go_wp2_with (fail)
    have hO : Only [w.heap.size + 1] w3 ((((w3.setCell ⟨w.heap.size + 1, 0, none⟩ (.slice sa r.cm.said.length sc)).setCell ⟨w.heap.size + 1, 1, none⟩ (.int .i64 (r.en : Int))).setCell ⟨w.heap.size + 1, 2, none⟩ (.int .i64 (valOf r : Int))).setCell ⟨w.heap.size + 1, 3, none⟩ (.slice (some ⟨CB, 0, none⟩) 16 16)) := ((((Only.refl _ _).setCell (by simp) _).setCell (by simp) _).setCell (by simp) _).setCell (by simp) _
    have HOW := Lib.hid ((HOA.out.only hO (fun sa' n c CB' e1 e2 e => by
      injection e with e
      simp at e
      obtain ⟨⟨rfl, rfl, rfl⟩, _, _, ⟨⟨rfl, _⟩, _⟩, _⟩ := e
      have hr2 := HR2l.out
      exact ⟨by have := HGE.out.1; omega, fun hq => by have := HGE.out.2 _ hq; omega⟩)).below (below1 _ (.cells #[.slice sa r.cm.said.length sc, .int .i64 (r.en : Int), .int .i64 (valOf r : Int), .slice (some ⟨CB, 0, none⟩) 16 16] 44)))
    have HBW : Hid (Below w.heap.size w _) := Lib.hid ((((((HB3.out.setCell (p := ⟨w.heap.size + 1, 0, none⟩) (by simp) (.slice sa r.cm.said.length sc)).setCell (p := ⟨w.heap.size + 1, 1, none⟩) (by simp) (.int .i64 (r.en : Int))).setCell (p := ⟨w.heap.size + 1, 2, none⟩) (by simp) (.int .i64 (valOf r : Int))).setCell (p := ⟨w.heap.size + 1, 3, none⟩) (by simp) (.slice (some ⟨CB, 0, none⟩) 16 16)).alloc (by simp; omega) (.cells #[.slice sa r.cm.said.length sc, .int .i64 (r.en : Int), .int .i64 (valOf r : Int), .slice (some ⟨CB, 0, none⟩) 16 16] 44)))
    have HZ := Lib.hid (((((HRS3.out.set 0 (.slice sa r.cm.said.length sc)).set 1 (.int .i64 (r.en : Int))).set 2 (.int .i64 (valOf r : Int))).set 3 (.slice (some ⟨CB, 0, none⟩) 16 16)).alloc (.cells #[.slice sa r.cm.said.length sc, .int .i64 (r.en : Int), .int .i64 (valOf r : Int), .slice (some ⟨CB, 0, none⟩) 16 16] 44))
    generalize hWW : World.alloc (World.setCell _ _ _) _ = W
    rw [hWW] at HOW HBW HZ
    obtain ⟨z0, z1, z2, z3⟩ := blkc4 (show Blk W (w.heap.size + 1) [.slice sa r.cm.said.length sc, .int .i64 (r.en : Int), .int .i64 (valOf r : Int), .slice (some ⟨CB, 0, none⟩) 16 16] from HZ.out)
    clear hWW hO
    refine bodyPost_ret (v := .tuple #[.agg #[.slice sa r.cm.said.length sc, .int .i64 (r.en : Int), .int .i64 (valOf r : Int), .slice (some ⟨CB, 0, none⟩) 16 16], .bool true]) (by simp [results, Tryz.results21, go_sem, z0, z1, z2, z3]) rfl ?_
    exact ⟨_, true, rfl, HBW.out, ⟨fun _ => HQ.out, fun _ => rfl⟩, (fun h => by cases h), fun _ => ⟨r, g, HEV.out, HOW.out⟩⟩
  · have HF := Lib.hid (l5Fits_any _ fs _ _ xs (hX.below hb1) hle (ownsRow_below hI hb1) hs hl3 false ⟨fun h => (by cases h), fun h => absurd h hq⟩)
    have HQ := Lib.hid hq
    clear hX hle hI hs hl3 hq hb1 hrs hbx hIN hl hm
    go_enter Tryz.func21, Tryz.ntmps21
    go_wp2_with (fail)
    go_at_call 45
    refine HF.out.mono ?_
    rintro e w2 ⟨rfl, hb2⟩
    have HB2 := Lib.hid (HB1.out.trans (hb2.mono HB1.out.size))
    have hrs3 := HRS.out.below hb2
    obtain ⟨t0, t1, t2, t3⟩ := blkc4 hrs3
    have u0 := hrs3.frozen 0; have u1 := hrs3.frozen 1; have u2 := hrs3.frozen 2; have u3 := hrs3.frozen 3
    clear hb2 hrs3
    go_wp2_with (fail)
    refine bodyPost_ret (v := .tuple #[.agg #[.slice none 0 0, .int .i64 0, .int .i64 0, .slice none 0 0], .bool false]) (by simp [results, Tryz.results21, go_sem, t0, t1, t2, t3]) rfl ?_
    exact ⟨_, false, rfl, (((HB2.out.setCell (p := ⟨w.heap.size + 1, 0, none⟩) (by simp) _).setCell (p := ⟨w.heap.size + 1, 1, none⟩) (by simp) _).setCell (p := ⟨w.heap.size + 1, 2, none⟩) (by simp) _).setCell (p := ⟨w.heap.size + 1, 3, none⟩) (by simp) _, ⟨fun h => (by cases h), fun h => absurd h HQ.out⟩, fun _ => rfl, (fun h => by cases h)⟩
end Go.Proofs.YtpnliencahnmoaaGreatDoor

set_option linter.unusedVariables false
set_option linter.unusedSimpArgs false
set_option maxRecDepth 100000
namespace Go.Proofs.YtpnliencahnmoaaGreatDoor
open Go.RowKit
/-- a row of numbers lies in memory -/
def NAt (w : World) (v : Value) (xs : List Nat) : Prop := ∃ a c, v = .slice a xs.length c ∧ ∀ i, i < xs.length → ∃ b o, a = some ⟨b, o, none⟩ ∧ b < w.heap.size ∧ w.cell? ⟨b, o + i, none⟩ = some (.int .i64 ((xs.getD i 0 : Nat) : Int))
theorem NAt.below {w w' : World} {v : Value} {xs : List Nat} (h : NAt w v xs) (hb : Below w.heap.size w w') : NAt w' v xs := by
  obtain ⟨a, c, h1, h2⟩ := h
  refine ⟨a, c, h1, fun i hi => ?_⟩
  obtain ⟨b, o, h3, h4, h5⟩ := h2 i hi
  exact ⟨b, o, h3, Nat.lt_of_lt_of_le h4 hb.size, cellB hb h5⟩
theorem NAt.of_own {w : World} {B : Nat} {v : Value} {xs : List Nat} (h : w.ownsRow B 3 1 v xs.length (nats xs)) : NAt w v xs := by
  obtain ⟨a, c, hf⟩ := rowForm h
  refine ⟨a, c, hf, fun i hi => ?_⟩
  obtain ⟨g, c', hf'⟩ := own_form h (by omega)
  rw [hf'] at hf h
  injection hf with hf _ _
  exact ⟨g, 0, hf.symm, (World.ownsRow.lt h g rfl).2, by rw [Nat.zero_add, own_cell1 h hi, nats_get hi]⟩
theorem NAt.of_blk {w : World} {g n : Nat} {xs : List Nat} (h : Blk w g (nats xs)) (hn : xs.length = n) : NAt w (.slice (some ⟨g, 0, none⟩) n n) xs := by
  subst hn
  exact ⟨_, _, rfl, fun i hi => ⟨g, 0, rfl, h.lt, by rw [Nat.zero_add, h.cell, nats_get hi]⟩⟩
set_option maxHeartbeats 4000000 in
theorem l5Ints_any (w : World) (u v : Value) (xs ys : List Nat) (hx : NAt w u xs) (hy : NAt w v ys) (hlx : xs.length ≤ 10000) (hly : ys.length ≤ 10000) :
    Calls Tryz.prog 48 #[u, v] w (BoolP (decide (xs = ys)) w) := by
  obtain ⟨a, c, hu, hxc⟩ := hx
  obtain ⟨b, c2, hv, hyc⟩ := hy
  obtain ⟨n, hn⟩ : ∃ n, n = xs.length := ⟨_, rfl⟩
  obtain ⟨m, hm⟩ : ∃ m, m = ys.length := ⟨_, rfl⟩
  rw [← hn] at hu hlx hxc
  rw [← hm] at hv hly hyc
  subst hu hv
  have HN := Lib.hid hn; have HM := Lib.hid hm; have HXC := Lib.hid hxc; have HYC := Lib.hid hyc
  clear hxc hyc
  by_cases hnm : n = m
  · subst hnm
    clear hn hm
    go_enter Tryz.func48, Tryz.ntmps48
    go_wp2_with (fail)
    go_loopw [5] (fun i wr => ∃ j : Nat, j ≤ n ∧ i = .int .i64 (j : Int) ∧ Hid (Below w.heap.size w wr ∧ xs.take j = ys.take j)) (fun i _ => n - (intOf i).toNat)
    case atStart => exact ⟨0, Nat.zero_le _, rfl, Lib.hid ⟨Below.refl _ _, rfl⟩⟩
    case round =>
    obtain ⟨j, hj, rfl, HB⟩ := hrel
    by_cases hlt : j < n
    · obtain ⟨b1, o1, rfl, hb1, e1⟩ := HXC.out j hlt
      obtain ⟨b2, o2, rfl, hb2, e2⟩ := HYC.out j hlt
      have e1 := cellB HB.out.1 e1
      have e2 := cellB HB.out.1 e2
      have HXJ : Hid (xs[j]? = some (xs.getD j 0)) := Lib.hid (by rw [List.getD_eq_getElem?_getD, List.getElem?_eq_getElem (by rw [← HN.out]; exact hlt)]; rfl)
      have HYJ : Hid (ys[j]? = some (ys.getD j 0)) := Lib.hid (by rw [List.getD_eq_getElem?_getD, List.getElem?_eq_getElem (by rw [← HM.out]; exact hlt)]; rfl)
      obtain ⟨x, hx⟩ : ∃ x, x = xs.getD j 0 := ⟨_, rfl⟩
      obtain ⟨y, hy⟩ : ∃ y, y = ys.getD j 0 := ⟨_, rfl⟩
      rw [← hx] at e1 HXJ
      rw [← hy] at e2 HYJ
      have k0 : (0 : Int) ≤ j := by omega
      have k1 : (j : Int) < n := by omega
      clear hx hy
      by_cases hxy : x = y
      · subst hxy
        have n1 : ((x : Int) != (x : Int)) = false := by simp [bne]
        go_upto_region 6 with (fail)
        go_region
        go_wp2_with (fail)
        go_roundw
        case rel => exact ⟨j + 1, by omega, by go_num, Lib.hid ⟨HB.out.1.drew, by rw [take_snoc' HXJ.out, take_snoc' HYJ.out, HB.out.2]⟩⟩
        case measure => simp [intOf]; omega
      · have hq : decide (xs = ys) = false := by
          rw [decide_eq_false_iff_not]
          intro e
          have h1 := HXJ.out
          rw [e, HYJ.out] at h1
          injection h1 with h1
          exact hxy h1.symm
        have HQ := Lib.hid hq
        have n1 : ((x : Int) != (y : Int)) = true := by simp [bne]; omega
        clear hxy hq
        go_upto_region 6 with (fail)
        go_region
        go_wp2_with (fail)
        go_ret
        exact ⟨congrArg (fun b => Ending.returned (Value.bool b)) HQ.out.symm, HB.out.1.drew⟩
    · obtain rfl : n = j := by omega
      have hq : decide (xs = ys) = true := by
        rw [decide_eq_true_eq]
        have h := HB.out.2
        rw [List.take_of_length_le (by rw [← HN.out]; exact Nat.le_refl _), List.take_of_length_le (by rw [← HM.out]; exact Nat.le_refl _)] at h
        exact h
      have HQ := Lib.hid hq
      clear hq
      go_wp2_with (fail)
      go_ret
      exact ⟨congrArg (fun b => Ending.returned (Value.bool b)) HQ.out.symm, HB.out.1⟩
  · have hq : decide (xs = ys) = false := by rw [decide_eq_false_iff_not]; rintro rfl; exact hnm (hn.trans hm.symm)
    have HQ := Lib.hid hq
    have n1 : ((n : Int) != (m : Int)) = true := by simp [bne]; omega
    clear hnm hq hn hm
    go_enter Tryz.func48, Tryz.ntmps48
    go_wp2_with (fail)
    go_ret
    exact ⟨congrArg (fun b => Ending.returned (Value.bool b)) HQ.out.symm, Below.refl _ _⟩
/-- two runs end alike -/
def Alike (r q : Rs) : Prop := r.cm.said = q.cm.said ∧ r.en = q.en ∧ valOf r = valOf q ∧ r.cm.cells = q.cm.cells
instance (r q : Rs) : Decidable (Alike r q) := by unfold Alike; infer_instance
set_option maxHeartbeats 4000000 in
theorem specSame_any (w : World) (B1 B2 : Nat) (va vb : Value) (r q : Rs) (h1 : OutAt w B1 va r) (h2 : OutAt w B2 vb q) : Calls Tryz.prog 22 #[va, vb] w (BoolP (decide (Alike r q)) w) := by
  obtain ⟨sa, sc, C1, rfl, ho1, hc1, _, hm1, hl1⟩ := h1
  obtain ⟨sb, sd, C2, rfl, ho2, hc2, _, hm2, hl2⟩ := h2
  obtain ⟨p, hp⟩ : ∃ p, p = r.cm.said.length := ⟨_, rfl⟩
  obtain ⟨p2, hp2⟩ : ∃ p, p = q.cm.said.length := ⟨_, rfl⟩
  have hx1 : NAt w (.slice sa p sc) r.cm.said := by rw [hp]; exact NAt.of_own ho1
  have hx2 : NAt w (.slice sb p2 sd) q.cm.said := by rw [hp2]; exact NAt.of_own ho2
  have hy1 : NAt w (.slice (some ⟨C1, 0, none⟩) 16 16) r.cm.cells := NAt.of_blk hc1 hm1.cells
  have hy2 : NAt w (.slice (some ⟨C2, 0, none⟩) 16 16) q.cm.cells := NAt.of_blk hc2 hm2.cells
  have HI := Lib.hid (fun w' (hb : Below w.heap.size w w') => l5Ints_any w' _ _ _ _ (hx1.below hb) (hx2.below hb) (by omega) (by omega))
  have HJ := Lib.hid (fun w' (hb : Below w.heap.size w w') => l5Ints_any w' _ _ _ _ (hy1.below hb) (hy2.below hb) (by rw [hm1.cells]; omega) (by rw [hm2.cells]; omega))
  rw [← hp, ← hp2]
  obtain ⟨e1, he1⟩ : ∃ e, e = r.en := ⟨_, rfl⟩
  obtain ⟨e2, he2⟩ : ∃ e, e = q.en := ⟨_, rfl⟩
  obtain ⟨z1, hz1⟩ : ∃ e, e = valOf r := ⟨_, rfl⟩
  obtain ⟨z2, hz2⟩ : ∃ e, e = valOf q := ⟨_, rfl⟩
  have hA : decide (Alike r q) = (decide (r.cm.said = q.cm.said) && (decide (e1 = e2) && (decide (z1 = z2) && decide (r.cm.cells = q.cm.cells)))) := by
    rw [he1, he2, hz1, hz2, Bool.eq_iff_iff, decide_eq_true_eq]
    simp only [decide_eq_true_eq, Bool.and_eq_true]
    exact Iff.rfl
  rw [hA, ← he1, ← he2, ← hz1, ← hz2]
  obtain ⟨t1, ht1⟩ : ∃ t, t = decide (r.cm.said = q.cm.said) := ⟨_, rfl⟩
  obtain ⟨t2, ht2⟩ : ∃ t, t = decide (r.cm.cells = q.cm.cells) := ⟨_, rfl⟩
  rw [← ht1] at HI ⊢
  rw [← ht2] at HJ ⊢
  have hb1 : Below w.heap.size w ((w.alloc (.cells #[.slice sa p sc, .int .i64 (e1 : Int), .int .i64 (z1 : Int), .slice (some ⟨C1, 0, none⟩) 16 16] 44)).alloc (.cells #[.slice sb p2 sd, .int .i64 (e2 : Int), .int .i64 (z2 : Int), .slice (some ⟨C2, 0, none⟩) 16 16] 44)) := (below1 w _).trans ((below1 _ _).mono (by simp))
  have hbx : Blk ((w.alloc (.cells #[.slice sa p sc, .int .i64 (e1 : Int), .int .i64 (z1 : Int), .slice (some ⟨C1, 0, none⟩) 16 16] 44)).alloc (.cells #[.slice sb p2 sd, .int .i64 (e2 : Int), .int .i64 (z2 : Int), .slice (some ⟨C2, 0, none⟩) 16 16] 44)) w.heap.size [.slice sa p sc, .int .i64 (e1 : Int), .int .i64 (z1 : Int), .slice (some ⟨C1, 0, none⟩) 16 16] := (Blk.new w _ _).alloc _
  have hby := Blk.new (w.alloc (.cells #[.slice sa p sc, .int .i64 (e1 : Int), .int .i64 (z1 : Int), .slice (some ⟨C1, 0, none⟩) 16 16] 44)) #[.slice sb p2 sd, .int .i64 (e2 : Int), .int .i64 (z2 : Int), .slice (some ⟨C2, 0, none⟩) 16 16] 44
  rw [show (w.alloc (.cells #[.slice sa p sc, .int .i64 (e1 : Int), .int .i64 (z1 : Int), .slice (some ⟨C1, 0, none⟩) 16 16] 44)).heap.size = w.heap.size + 1 by simp] at hby
  have HB1 := Lib.hid hb1; have HBX := Lib.hid hbx; have HBY := Lib.hid hby
  clear hp hp2 hx1 hx2 hy1 hy2 ho1 hc1 hm1 hl1 ho2 hc2 hm2 hl2 hA ht1 ht2 he1 he2 hz1 hz2 hb1 hbx hby
  go_enter Tryz.func22, Tryz.ntmps22
  go_wp2_with (fail)
  go_at_call 48
  refine (HI.out _ HB1.out).mono ?_
  rintro e w2 ⟨rfl, hb2⟩
  obtain ⟨x0, x1, x2, x3⟩ := blkc4 (HBX.out.below hb2)
  obtain ⟨y0, y1, y2, y3⟩ := blkc4 (show Blk w2 (w.heap.size + 1) [.slice sb p2 sd, .int .i64 (e2 : Int), .int .i64 (z2 : Int), .slice (some ⟨C2, 0, none⟩) 16 16] from HBY.out.below hb2)
  have HB2 := Lib.hid (HB1.out.trans (hb2.mono HB1.out.size))
  have HJ2 := Lib.hid (HJ.out w2 HB2.out)
  clear hb2
  cases t1
  · go_wp2_with (fail)
    go_ret
    exact ⟨rfl, HB2.out⟩
  · by_cases h1 : e1 = e2
    · have h1i := eqI (show (e1 : Int) = e2 by omega)
      by_cases h2 : z1 = z2
      · have h2i := eqI (show (z1 : Int) = z2 by omega)
        have HH : Hid ((true && (decide (e1 = e2) && (decide (z1 = z2) && t2))) = t2) := Lib.hid (by simp [h1, h2])
        clear h1 h2
        go_wp2_with (fail)
        go_at_call 48
        refine HJ2.out.mono ?_
        rintro e w3 ⟨rfl, hb3⟩
        have HB3 := Lib.hid (HB2.out.trans (hb3.mono HB2.out.size))
        clear hb3
        go_wp2_with (fail)
        go_ret
        exact ⟨congrArg (fun b => Ending.returned (Value.bool b)) HH.out.symm, HB3.out⟩
      · have h2i := neI (show ¬ (z1 : Int) = z2 by omega)
        have HH : Hid ((true && (decide (e1 = e2) && (decide (z1 = z2) && t2))) = false) := Lib.hid (by simp [h2])
        clear h1 h2
        go_wp2_with (fail)
        go_ret
        exact ⟨congrArg (fun b => Ending.returned (Value.bool b)) HH.out.symm, HB2.out⟩
    · have h1i := neI (show ¬ (e1 : Int) = e2 by omega)
      have HH : Hid ((true && (decide (e1 = e2) && (decide (z1 = z2) && t2))) = false) := Lib.hid (by simp [h1])
      clear h1
      go_wp2_with (fail)
      go_ret
      exact ⟨congrArg (fun b => Ending.returned (Value.bool b)) HH.out.symm, HB2.out⟩
end Go.Proofs.YtpnliencahnmoaaGreatDoor
