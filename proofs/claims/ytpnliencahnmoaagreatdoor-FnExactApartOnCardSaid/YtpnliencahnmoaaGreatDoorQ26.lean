/- Functions and programs are copied. Trees that are alike are found to be equal: eqStringS, eqExprS, eqStmtS, eqFnS, eqProgram. Marks in trees of the call's own: only blocks of the tree change. -/
import Derived.Test.YtpnliencahnmoaaGreatDoorQ25
import Derived.StillTailTactics
import Derived.Lib.ItoaNum
import Derived.Lib.ItoaLen
import Derived.Lib.Join
set_option linter.unusedVariables false
set_option linter.unusedSimpArgs false
set_option linter.unusedVariables false
set_option linter.unusedSimpArgs false
set_option maxRecDepth 100000
namespace Go.Proofs.YtpnliencahnmoaaGreatDoor
open Go.RowKit
theorem info_fx : (Tryz.prog.info? 64).map (fun i => (i.zero, i.size, i.bytes)) = some (some (.agg #[.string .empty, .slice none 0 0, .slice none 0 0]), 3, 64) := by kernel_rfl
theorem blkq3 {w : World} {p : Nat} {a b c : Value} (h : Blk w p [a, b, c]) : w.cell? ⟨p, 0, none⟩ = some a ∧ w.cell? ⟨p, 1, none⟩ = some b ∧ w.cell? ⟨p, 2, none⟩ = some c := by
  refine ⟨?_, ?_, ?_⟩
  all_goals rw [h.cell]; rfl
theorem OStrs.wide {w : World} {lo hi lo' hi' : Nat} {v : Value} {ss : List ByteArray} (h : OStrs w lo hi v ss) (h1 : lo' ≤ lo) (h2 : hi ≤ hi') : OStrs w lo' hi' v ss := by
  obtain ⟨g, e, a, b, c, d, f⟩ := h
  exact ⟨g, e, by omega, by omega, c, d, ownsRow_mono f h1⟩
theorem OStrs.form {w : World} {lo hi : Nat} {v : Value} {ss : List ByteArray} (h : OStrs w lo hi v ss) : ∃ g, v = .slice (some ⟨g, 0, none⟩) ss.length ss.length ∧ lo ≤ g ∧ g < hi := by
  obtain ⟨g, e, a, b, _⟩ := h
  exact ⟨g, e, a, b⟩
def FxO (w : World) (lo m1 hi : Nat) (x : Fx) (pv bv : Value) : Prop := lo ≤ m1 ∧ m1 ≤ hi ∧ OStrs w lo m1 pv x.params ∧ OSts w m1 hi bv x.body
theorem FxO.keep {w w' : World} {lo m1 hi : Nat} {x : Fx} {pv bv : Value} (h : FxO w lo m1 hi x pv bv) (hh : ∀ k, lo ≤ k → k < hi → w'.heap[k]? = w.heap[k]?) : FxO w' lo m1 hi x pv bv := by
  obtain ⟨h1, h2, h3, h4⟩ := h
  exact ⟨h1, h2, h3.keep (fun k a b => hh k (by omega) (by omega)), h4.keep (fun k a b => hh k (by omega) (by omega))⟩
def ToFx (x : Fx) (w : World) (e : Ending) (w' : World) : Prop := ∃ pv bv m1, e = .returned (.agg #[.string x.name, pv, bv]) ∧ Below w.heap.size w w' ∧ FxO w' w.heap.size m1 w'.heap.size x pv bv
/-- functions of the call's own, whatever their rows -/
def OFs (w : World) (lo hi : Nat) (v : Value) (fs : List Fx) : Prop := ∃ g n ys pv bv ls m1 hs, v = .slice (some ⟨g, 0, none⟩) n n ∧ OFxs w lo hi g n fs ys pv bv ls m1 hs
def ToFs (fs : List Fx) (w : World) (e : Ending) (w' : World) : Prop := ∃ v, e = .returned v ∧ Below w.heap.size w w' ∧ OFs w' w.heap.size w'.heap.size v fs
def ToPr (fs : List Fx) (w : World) (e : Ending) (w' : World) : Prop := ∃ v, e = .returned (.agg #[v]) ∧ Below w.heap.size w w' ∧ OFs w' w.heap.size w'.heap.size v fs
theorem OFs.read {w : World} {lo hi : Nat} {v : Value} {fs : List Fx} (h : OFs w lo hi v fs) : FxsAt w v fs := by
  obtain ⟨g, n, ys, pv, bv, ls, m1, hs, rfl, h⟩ := h
  exact h.read
theorem OFs.keep {w w' : World} {lo hi : Nat} {v : Value} {fs : List Fx} (h : OFs w lo hi v fs) (hh : ∀ k, lo ≤ k → k < hi → w'.heap[k]? = w.heap[k]?) : OFs w' lo hi v fs := by
  obtain ⟨g, n, ys, pv, bv, ls, m1, hs, rfl, h⟩ := h
  exact ⟨g, n, ys, pv, bv, ls, m1, hs, rfl, h.keep hh⟩
theorem OFs.wide {w : World} {lo hi lo' hi' : Nat} {v : Value} {fs : List Fx} (h : OFs w lo hi v fs) (h1 : lo' ≤ lo) (h2 : hi ≤ hi') : OFs w lo' hi' v fs := by
  obtain ⟨g, n, ys, pv, bv, ls, m1, hs, rfl, h⟩ := h
  exact ⟨g, n, ys, pv, bv, ls, m1, hs, rfl, h.hn, h.hm, h.hsz, by have := h.hg; omega, by have := h.hgh; omega, h.hlo, fun i hi => by have := h.hhi i hi; omega, h.hmid, h.hd, ownsRow_mono h.hrow h1, h.hc, h.hp, h.hb⟩
theorem OFs.form {w : World} {lo hi : Nat} {v : Value} {fs : List Fx} (h : OFs w lo hi v fs) : ∃ g, v = .slice (some ⟨g, 0, none⟩) fs.length fs.length ∧ lo ≤ g ∧ g < hi := by
  obtain ⟨g, n, ys, pv, bv, ls, m1, hs, rfl, h⟩ := h
  exact ⟨g, by rw [h.hn], h.hg, h.hgh⟩
set_option maxHeartbeats 4000000 in
theorem toFx_of (w : World) (x : Fx) (pv bv : Value) (hz : x.name.size ≤ big) (hA : ∀ w', Below w.heap.size w w' → Calls Tryz.prog 83 #[pv] w' (ToStr x.params w')) (hB : ∀ w', Below w.heap.size w w' → Calls Tryz.prog 84 #[bv] w' (ToSs x.body w')) :
    Calls Tryz.prog 49 #[.agg #[.string x.name, pv, bv]] w (ToFx x w) := by
  have HA := Lib.hid hA; have HB := Lib.hid hB
  unfold ToFx
  obtain ⟨nm, hnm⟩ : ∃ z, z = x.name := ⟨_, rfl⟩
  rw [← hnm]
  rw [← hnm] at hz
  unfold big at hz
  obtain ⟨P, hP⟩ : ∃ p, p = w.heap.size := ⟨_, rfl⟩
  obtain ⟨R, hR⟩ : ∃ p, p = P + 1 := ⟨_, rfl⟩
  obtain ⟨O, hO⟩ : ∃ p, p = R + 1 := ⟨_, rfl⟩
  obtain ⟨w1, hw1⟩ : ∃ w1, w1 = ((w.alloc (.cells #[.string nm, pv, bv] 79)).alloc (.cells #[.string ⟨#[]⟩, .slice none 0 0, .slice none 0 0] 64)).alloc (.cells #[.string nm, .slice none 0 0, .slice none 0 0] 64) := ⟨_, rfl⟩
  have HW1 : Hid (Below P w w1 ∧ w1.heap.size = O + 1 ∧ Blk w1 P [.string nm, pv, bv] ∧ Blk w1 R [.string ⟨#[]⟩, .slice none 0 0, .slice none 0 0] ∧ Blk w1 O [.string nm, .slice none 0 0, .slice none 0 0]) := Lib.hid (by
    rw [hw1]
    refine ⟨by rw [hP]; exact below3 _ _ _ _, by rw [hO, hR, hP]; simp, ?_, ?_, ?_⟩
    · rw [hP]; exact ((Blk.new _ _ _).alloc _).alloc _
    · exact (Blk.fresh (by rw [hR, hP]; simp) rfl).alloc _
    · exact Blk.fresh (by rw [hO, hR, hP]; simp) rfl)
  have HP : Hid (P = w.heap.size ∧ R = P + 1 ∧ O = R + 1) := Lib.hid ⟨hP, hR, hO⟩
  clear hA hB hnm
  go_enter Tryz.func49, Tryz.ntmps49
  go_upto_region 3 with (fail)
  rw [← hP, ← hR, ← hO]
  rw [← hw1]
  clear hP hR hO hw1
  obtain ⟨p0, p1, p2⟩ := blkq3 HW1.out.2.2.1
  go_wp2_with (fail)
  go_at_call 83
  have hbp : ∀ W, Below P w W → Below w.heap.size w W := fun W h => by rw [← HP.out.1]; exact h
  have HBP := Lib.hid hbp
  refine (HA.out _ (hbp _ HW1.out.1)).mono ?_
  rintro e w2 ⟨av', rfl, hb2, hO2⟩
  obtain ⟨g1, hvf, _, _⟩ := hO2.form
  obtain ⟨n1, hn1⟩ : ∃ m, m = x.params.length := ⟨_, rfl⟩
  rw [← hn1] at hvf
  subst hvf
  have hQ2 := HW1.out.2.2.2.2.below hb2
  obtain ⟨o0, o1, o2⟩ := blkq3 hQ2
  have y1 := hQ2.frozen 1
  have hol := hQ2.lt
  obtain ⟨w3, hw3⟩ : ∃ w3, w3 = w2.setCell ⟨O, 1, none⟩ (.slice (some ⟨g1, 0, none⟩) n1 n1) := ⟨_, rfl⟩
  have HW3 : Hid (Below P w w3 ∧ w3.heap.size = w2.heap.size ∧ w1.heap.size ≤ w2.heap.size ∧ Blk w3 P [.string nm, pv, bv] ∧ Blk w3 R [.string ⟨#[]⟩, .slice none 0 0, .slice none 0 0] ∧ Blk w3 O [.string nm, .slice (some ⟨g1, 0, none⟩) n1 n1, .slice none 0 0] ∧ OStrs w3 w1.heap.size w2.heap.size (.slice (some ⟨g1, 0, none⟩) n1 n1) x.params) := Lib.hid (by
    rw [hw3]
    have hpo := HP.out
    have hs1 := HW1.out.2.1
    refine ⟨(HW1.out.1.trans (hb2.mono (by omega))).setCell (p := ⟨O, 1, none⟩) (by simp only []; omega) _, by simp, hb2.size, (HW1.out.2.2.1.below hb2).other (a := ⟨O, 1, none⟩) (by simp only []; omega) _, (HW1.out.2.2.2.1.below hb2).other (a := ⟨O, 1, none⟩) (by simp only []; omega) _, hQ2.set 1 _, hO2.keep (fun k h1 h2 => Below.heap_setCell _ _ _ _ (by simp only []; omega))⟩)
  clear hb2 hO2 hn1 hQ2 HA p0 p1 p2
  go_upto_region 4 with (fail)
  rw [← hw3]
  clear hw3 o0 o1 o2 y1 hol hbp
  obtain ⟨p0, p1, p2⟩ := blkq3 HW3.out.2.2.2.1
  go_wp2_with (fail)
  go_at_call 84
  refine (HB.out _ (HBP.out _ HW3.out.1)).mono ?_
  rintro e w4 ⟨bv', rfl, hb4, hO4⟩
  obtain ⟨g2, hvf, _, _⟩ := hO4.form
  obtain ⟨n2, hn2⟩ : ∃ m, m = x.body.length := ⟨_, rfl⟩
  rw [← hn2] at hvf
  subst hvf
  have hQ4 := HW3.out.2.2.2.2.2.1.below hb4
  obtain ⟨o0, o1, o2⟩ := blkq3 hQ4
  have y2 := hQ4.frozen 2
  have hol := hQ4.lt
  obtain ⟨w5, hw5⟩ : ∃ w5, w5 = w4.setCell ⟨O, 2, none⟩ (.slice (some ⟨g2, 0, none⟩) n2 n2) := ⟨_, rfl⟩
  have HW5 : Hid (Below P w w5 ∧ w5.heap.size = w4.heap.size ∧ w3.heap.size ≤ w4.heap.size ∧ Blk w5 R [.string ⟨#[]⟩, .slice none 0 0, .slice none 0 0] ∧ Blk w5 O [.string nm, .slice (some ⟨g1, 0, none⟩) n1 n1, .slice (some ⟨g2, 0, none⟩) n2 n2] ∧ FxO w5 w1.heap.size w3.heap.size w5.heap.size x (.slice (some ⟨g1, 0, none⟩) n1 n1) (.slice (some ⟨g2, 0, none⟩) n2 n2)) := Lib.hid (by
    rw [hw5]
    have hpo := HP.out
    have hs1 := HW1.out.2.1
    have hs3 := HW3.out.2.1
    have hs2 := HW3.out.2.2.1
    have h4 := hb4.size
    refine ⟨(HW3.out.1.trans (hb4.mono (by omega))).setCell (p := ⟨O, 2, none⟩) (by simp only []; omega) _, by simp, hb4.size, (HW3.out.2.2.2.2.1.below hb4).other (a := ⟨O, 2, none⟩) (by simp only []; omega) _, hQ4.set 2 _, by omega, by simp; omega, ?_, ?_⟩
    · rw [hs3]
      exact HW3.out.2.2.2.2.2.2.keep (fun k h1 h2 => by rw [Below.heap_setCell _ _ _ _ (by simp only []; omega), hb4.block k (by omega)])
    · rw [World.size_setCell]
      exact hO4.keep (fun k h1 h2 => Below.heap_setCell _ _ _ _ (by simp only []; omega)))
  clear hb4 hO4 hn2 hQ4 HB p0 p1 p2
  go_upto_region 5 with (fail)
  rw [← hw5]
  clear hw5 o0 o1 o2 y2 hol
  obtain ⟨o0, o1, o2⟩ := blkq3 HW5.out.2.2.2.2.1
  obtain ⟨r0, r1, r2⟩ := blkq3 HW5.out.2.2.2.1
  have f0 := HW5.out.2.2.2.1.frozen 0; have f1 := HW5.out.2.2.2.1.frozen 1; have f2 := HW5.out.2.2.2.1.frozen 2
  have HS : Hid (R < w5.heap.size ∧ R < w1.heap.size ∧ P ≤ R ∧ P = w.heap.size ∧ w.heap.size ≤ w1.heap.size) := Lib.hid (by
    have hpo := HP.out
    have hs1 := HW1.out.2.1
    have hs3 := HW3.out.2.1
    have hs2 := HW3.out.2.2.1
    have hs5 := HW5.out.2.1
    have hs4 := HW5.out.2.2.1
    omega)
  go_wp2_with (fail)
  refine bodyPost_ret (v := .agg #[.string nm, .slice (some ⟨g1, 0, none⟩) n1 n1, .slice (some ⟨g2, 0, none⟩) n2 n2]) (by simp [results, Tryz.results49, go_sem, r0, r1, r2]) rfl ⟨_, _, w3.heap.size, rfl, ?_, ?_⟩
  · have hh := HS.out
    rw [← hh.2.2.2.1]
    repeat' (first | exact HW5.out.1 | (refine Below.setCell ?_ ?_ _))
    all_goals (simp only []; omega)
  · have hh := HS.out
    obtain ⟨k1, k2, k3, k4⟩ := HW5.out.2.2.2.2.2
    simp only [World.size_setCell]
    have key : ∀ k, w1.heap.size ≤ k → k ≠ R := fun k h => by omega
    refine ⟨by omega, k2, (k3.keep (fun k h1 h2 => ?_)).wide hh.2.2.2.2 (Nat.le_refl _), k4.keep (fun k h1 h2 => ?_)⟩
    all_goals
      have := key k (by omega)
      repeat rw [Below.heap_setCell _ _ _ _ (by simp only []; omega)]
def FxD (w : World) (g hi k : Nat) (fs : List Fx) (ys : List Value) (pv bv : Nat → Value) (ls m1 hs : Nat → Nat) : Prop :=
  ∀ (i : Nat) (f : Fx), i < k → fs[i]? = some f → g < ls i ∧ hs i ≤ hi ∧ (∀ j, j < i → hs j ≤ ls i) ∧ FxIn ys i f (pv i) (bv i) ∧ FxO w (ls i) (m1 i) (hs i) f (pv i) (bv i)
theorem FxD.done {w : World} {B g hi n : Nat} {fs : List Fx} {ys : List Value} {pv bv : Nat → Value} {ls m1 hs : Nat → Nat} (h : FxD w g hi n fs ys pv bv ls m1 hs) (hn : n = fs.length) (hl : fs.length ≤ big) (hz : ∀ (i : Nat) (f : Fx), fs[i]? = some f → f.name.size ≤ big) (hB : B ≤ g) (hg : g < hi)
    (ho : w.ownsRow B 64 3 (.slice (some ⟨g, 0, none⟩) n n) n ys) : OFs w B hi (.slice (some ⟨g, 0, none⟩) n n) fs := by
  have hx : ∀ i, i < n → ∃ e, fs[i]? = some e := fun i hi => ⟨fs[i]'(by omega), List.getElem?_eq_getElem (by omega)⟩
  refine ⟨g, n, ys, pv, bv, ls, m1, hs, rfl, hn, hl, hz, hB, hg, (fun i hi => ?_), (fun i hi => ?_), (fun i hi => ?_), (fun i j hij hj => ?_), ho, (fun i e hi => ?_), (fun i e hi => ?_), (fun i e hi => ?_)⟩
  · obtain ⟨e, he⟩ := hx i hi; exact (h i e hi he).1
  · obtain ⟨e, he⟩ := hx i hi; exact (h i e hi he).2.1
  · obtain ⟨e, he⟩ := hx i hi; obtain ⟨_, _, _, _, a, b, _⟩ := h i e hi he; exact ⟨a, b⟩
  · obtain ⟨e, he⟩ := hx j hj; exact (h j e hj he).2.2.1 i hij
  · exact (h i e (by have := idx_lt hi; omega) hi).2.2.2.1
  · exact (h i e (by have := idx_lt hi; omega) hi).2.2.2.2.2.2.1
  · exact (h i e (by have := idx_lt hi; omega) hi).2.2.2.2.2.2.2
theorem FxD.step {w w2 : World} {g k n : Nat} {fs : List Fx} {ys : List Value} {pv bv : Nat → Value} {ls m1 hs : Nat → Nat} {x : Fx} {a1 b1 : Value} {p1 : Nat} (h : FxD w g w.heap.size k fs ys pv bv ls m1 hs) (hx : fs[k]? = some x) (hk : k < n) (hy : ys.length = n * 3) (hb : Below w.heap.size w w2) (hg : g < w.heap.size)
    (hO : FxO w2 w.heap.size p1 w2.heap.size x a1 b1) {W : World} (hW : W = ((w2.setCell ⟨g, k * 3, none⟩ (.string x.name)).setCell ⟨g, k * 3 + 1, none⟩ a1).setCell ⟨g, k * 3 + 2, none⟩ b1) : FxD W g W.heap.size (k + 1) fs (set3 ys k (.string x.name) a1 b1)
      (fun i => if i = k then a1 else pv i) (fun i => if i = k then b1 else bv i) (fun i => if i = k then w.heap.size else ls i) (fun i => if i = k then p1 else m1 i) (fun i => if i = k then w2.heap.size else hs i) := by
  have hWs : W.heap.size = w2.heap.size := by rw [hW]; simp
  rw [hWs]
  subst hW
  intro i e hi he
  by_cases hik : i = k
  · subst hik
    rw [hx] at he
    injection he with he
    subst he
    simp only [if_pos]
    refine ⟨hg, Nat.le_refl _, fun j hj => ?_, ⟨set3_at0 (by omega), set3_at1 (by omega), set3_at2 (by omega)⟩, hO.keep (fun q h1 h2 => heap_3 _ _ _ _ _ _ _ (by omega))⟩
    rw [if_neg (by omega)]
    exact (h j (fs[j]'(by have := idx_lt hx; omega)) hj (List.getElem?_eq_getElem _)).2.1
  · obtain ⟨h1, h2, h3, ⟨i0, i1, i2⟩, h5⟩ := h i e (by omega) he
    simp only [if_neg hik]
    refine ⟨h1, Nat.le_trans h2 hb.size, fun j hj => ?_, ⟨(set3_ne0 hik).trans i0, (set3_ne1 hik).trans i1, (set3_ne2 hik).trans i2⟩, h5.keep (fun q q1 q2 => ?_)⟩
    · rw [if_neg (by omega)]; exact h3 j hj
    · rw [heap_3 _ _ _ _ _ _ _ (by omega), hb.block q (by omega)]
theorem fxW_le {fs : List Fx} {i : Nat} {f : Fx} (h : fs[i]? = some f) : 1 + fxW f ≤ fxsW fs := by
  have h1 := sum_take_succ fxW fs i f h
  have h2 := sum_take_le fxW fs (i + 1)
  have h3 := idx_lt h
  unfold fxsW
  omega
set_option maxHeartbeats 4000000 in
theorem toFxs_any (w : World) (v : Value) (fs : List Fx) (h : FxsAt w v fs) (hw : fxsW fs ≤ 1048576) : Calls Tryz.prog 23 #[v] w (ToFs fs w) := by
  obtain ⟨i0, hi, hz0, hz1, hz2⟩ := info_parts info_fx
  obtain ⟨a, cap, hvf, hm⟩ := h.form
  have hz : ∀ (i : Nat) (f : Fx), fs[i]? = some f → f.name.size ≤ big := fun i f hi => by obtain ⟨_, _, _, _, hc⟩ := h; exact (hc i f hi).1
  obtain ⟨n, hn⟩ : ∃ n, n = fs.length := ⟨_, rfl⟩
  have hnm : n ≤ 1048576 := by have : fs.length ≤ fxsW fs := by unfold fxsW; omega
                               omega
  rw [← hn] at hvf hm
  subst hvf
  have HX := Lib.hid h; have Hl := Lib.hid hn; have HZ := Lib.hid hz; have HW := Lib.hid hw; have HM := Lib.hid hm
  clear h hn hz hw hm
  go_enter Tryz.func23, Tryz.ntmps23
  go_wp2_with (refine wpList_make_full _ rfl _ _ 29 rfl w.heap.size 64 i0 _ 3 Tryz.underlying29 hi hz0 hz1 .i64 .i64 n n n (by rfl) (by rfl) rfl rfl (by rw [hz2]; omega) (by unfold maxLen; omega) (Nat.le_refl _) ?_; intro w1 hown hg; have HOWN := Lib.hid hown; have HB := Lib.hid ((Below.refl w.heap.size w).grown hg (Nat.le_refl _) (fun k hk => by cases hk)); clear hown hg)
  go_loopw [4] (fun i wr => ∃ (k : Nat) (ys : List Value) (pv bv : Nat → Value) (ls m1 hs : Nat → Nat), k ≤ n ∧ i = .int .i64 k ∧ wr.ownsRow w.heap.size 64 3 (.slice (some ⟨w.heap.size, 0, none⟩) n n) n ys ∧ Hid (FxD wr w.heap.size wr.heap.size k fs ys pv bv ls m1 hs) ∧ Below w.heap.size w wr) (fun i _ => n - (intOf i).toNat)
  case atStart => exact ⟨0, _, fun _ => .slice none 0 0, fun _ => .slice none 0 0, fun _ => 0, fun _ => 0, fun _ => 0, Nat.zero_le _, rfl, HOWN.out, Lib.hid (fun i x hi => by omega), HB.out⟩
  case round =>
    obtain ⟨k, ys, ua, ub, ls, m1, hs, hk, rfl, hown, hys, hB⟩ := hrel
    by_cases hlt : k < n
    · obtain ⟨x, hx⟩ : ∃ x, fs[k]? = some x := ⟨_, List.getElem?_eq_getElem (by rw [← Hl.out]; exact hlt)⟩
      obtain ⟨_, b, off, pv, bv, rfl, hbl, c0, c1, c2, hpv, hbv⟩ := HX.out.get hx
      have c0 := cellB hB c0
      have c1 := cellB hB c1
      have c2 := cellB hB c2
      have hww : strsW x.params ≤ 1048576 ∧ stsW x.body ≤ 1048576 := by
        have h1 := fxW_le hx
        have h2 := HW.out
        unfold fxW at h1
        omega
      have HE := Lib.hid (toFx_of wr x pv bv (HZ.out k x hx) (fun w2 hb => toStrs_any w2 _ _ ((hpv.below hB).below hb) hww.1) (fun w2 hb => toSts_any hbv w2 (hB.trans (hb.mono hB.size)) hww.2))
      have HB' := Lib.hid hB; have HOW := Lib.hid hown; have HXK := Lib.hid hx
      have hg0 := (ownsRow_lt hown).1
      have k0 : (0 : Int) ≤ k := by omega
      have k1 : (k : Int) < n := by omega
      clear hB hown hx hww hpv hbv
      go_wp2_with (fail)
      go_at_call 49
      refine HE.out.mono ?_
      rintro e w2 ⟨xa, xb, p1, rfl, hb, hO⟩
      obtain ⟨g1, hv1, _, _⟩ := hO.2.2.1.form
      obtain ⟨g2, hv2, _, _⟩ := hO.2.2.2.form
      obtain ⟨n1, hn1⟩ : ∃ m, m = x.params.length := ⟨_, rfl⟩
      obtain ⟨n2, hn2⟩ : ∃ m, m = x.body.length := ⟨_, rfl⟩
      rw [← hn1] at hv1
      rw [← hn2] at hv2
      subst hv1 hv2
      have hsz := HB'.out.size
      have hO2 := ownsRow_below HOW.out hb
      obtain ⟨⟨y0, d0⟩, ⟨y1, d1⟩, ⟨y2, d2⟩, f0, f1, f2⟩ := own3 hO2 k hlt
      have HD := Lib.hid (hys.out.step HXK.out hlt HOW.out.1 hb hg0 hO rfl)
      have HB2 := Lib.hid (HB'.out.trans (hb.mono hsz)); have HO2 := Lib.hid hO2
      generalize x.name = nm at *
      clear hb hO hO2 c0 c1 c2 hys HE hn1 hn2
      go_wp2_with (fail)
      go_roundw
      case rel =>
        exact ⟨k + 1, _, _, _, _, _, _, by omega, by go_num, stored3 HO2.out k _ _ _, HD, below_3 HB2.out (Nat.le_refl _) k _ _ _⟩
      case measure => simp [intOf]; omega
    · obtain rfl : k = n := by omega
      have HO := Lib.hid hown; have HB' := Lib.hid hB
      clear hown hB
      go_wp2_with (fail)
      go_ret
      exact ⟨_, rfl, HB'.out, hys.out.done Hl.out (by rw [← Hl.out]; exact HM.out) HZ.out (Nat.le_refl _) (ownsRow_lt HO.out).1 HO.out⟩
set_option maxHeartbeats 1000000 in
theorem toProg_any (w : World) (v : Value) (fs : List Fx) (h : FxsAt w v fs) (hw : fxsW fs ≤ 1048576) : Calls Tryz.prog 7 #[.agg #[v]] w (ToPr fs w) := by
  have HK := Lib.hid (fun w' (hb : Below w.heap.size w w') => toFxs_any w' v fs (h.below hb) hw)
  obtain ⟨a, cap, hvf, hm⟩ := h.form
  generalize fs.length = n at hvf
  subst hvf
  clear h hw hm
  go_enter Tryz.func7, Tryz.ntmps7
  go_wp2_with (fail)
  go_at_call 23
  refine (HK.out _ (below3 _ _ _ _)).mono ?_
  rintro e w1 ⟨v, rfl, hb, hO⟩
  obtain ⟨g, hvf, hg1, hg2⟩ := hO.form
  obtain ⟨m, hm⟩ : ∃ m, m = fs.length := ⟨_, rfl⟩
  rw [← hm] at hvf
  subst hvf
  obtain ⟨hc, hf⟩ := bcell hb
  have hsz : w.heap.size + 3 ≤ w1.heap.size := by have := hb.size; simp at this; omega
  have HB := Lib.hid ((below3 w _ _ _).trans (hb.mono (by simp; omega)))
  have HO := Lib.hid hO
  clear hb hO hm HK
  go_wp2_with (fail)
  refine bodyPost_ret (v := .agg #[.slice (some ⟨g, 0, none⟩) m m]) (by simp [results, Tryz.results7, go_sem, hc]) rfl ⟨_, rfl, ?_, ?_⟩
  · repeat' (first | exact HB.out | (refine Below.setCell ?_ ?_ _))
    all_goals (first | omega | (simp; done) | (simp; omega))
  · refine (HO.out.keep (fun k h1 h2 => ?_)).wide (by simp; omega) (by simp)
    simp at h1
    repeat rw [Below.heap_setCell _ _ _ _ (by simp only []; omega)]
end Go.Proofs.YtpnliencahnmoaaGreatDoor

set_option linter.unusedVariables false
set_option linter.unusedSimpArgs false
set_option maxRecDepth 100000
namespace Go.Proofs.YtpnliencahnmoaaGreatDoor
open Go.RowKit
set_option maxHeartbeats 2000000 in
theorem eqStrs_any (w : World) (u v : Value) (ss : List ByteArray) (h : StrsAt w u ss) (h2 : StrsAt w v ss) : Calls Tryz.prog 85 #[u, v] w (BoolP true w) := by
  obtain ⟨a, cap, hvf, hm, hc⟩ := h
  subst hvf
  obtain ⟨a2, cap2, hvf, hm2, hc2⟩ := h2
  subst hvf
  obtain ⟨n, hn⟩ : ∃ n, n = ss.length := ⟨_, rfl⟩
  rw [← hn] at hm ⊢
  unfold big at hm
  have Hc := Lib.hid hc; have Hc2 := Lib.hid hc2; have Hl := Lib.hid hn
  clear hc hc2 hn hm2
  go_enter Tryz.func85, Tryz.ntmps85
  go_wp2_with (fail)
  go_loopw [5] (fun i wr => ∃ k : Nat, k ≤ n ∧ i = .int .i64 k ∧ Hid (Below w.heap.size w wr)) (fun i _ => n - (intOf i).toNat)
  case atStart => exact ⟨0, Nat.zero_le _, rfl, Lib.hid (Below.refl _ _)⟩
  case round =>
    obtain ⟨k, hk, rfl, HB⟩ := hrel
    by_cases hlt : k < n
    · obtain ⟨x, hx⟩ : ∃ x, ss[k]? = some x := ⟨_, List.getElem?_eq_getElem (by rw [← Hl.out]; exact hlt)⟩
      obtain ⟨_, b, off, rfl, c0⟩ := Hc.out k x hx
      obtain ⟨_, b2, off2, rfl, d0⟩ := Hc2.out k x hx
      have c0 := cellB HB.out c0
      have d0 := cellB HB.out d0
      have k0 : (0 : Int) ≤ k := by omega
      have k1 : (k : Int) < n := by omega
      clear hx
      go_wp2_with (fail)
      go_quiet (fail)
      go_wp2_with (fail)
      go_roundw
      case rel => exact ⟨k + 1, by omega, by go_num, Lib.hid (belowDrewN HB.out _)⟩
      case measure => simp [intOf]; omega
    · obtain rfl : k = n := by omega
      go_wp2_with (fail)
      go_ret
      exact ⟨rfl, HB.out⟩
set_option maxHeartbeats 1000000 in
theorem eqEx_of (w : World) (op en : Int) (nm : ByteArray) (u v : Value) (hu : ∃ a n c, u = .slice a n c) (hv : ∃ a n c, v = .slice a n c) (hk : ∀ w', Below w.heap.size w w' → Calls Tryz.prog 158 #[u, v] w' (BoolP true w')) :
    Calls Tryz.prog 195 #[.agg #[.int .i64 op, .int .i64 en, .string nm, u], .agg #[.int .i64 op, .int .i64 en, .string nm, v]] w (BoolP true w) := by
  have HK := Lib.hid hk
  obtain ⟨a, n, c, rfl⟩ := hu
  obtain ⟨a2, n2, c2, rfl⟩ := hv
  clear hk
  go_enter Tryz.func195, Tryz.ntmps195
  go_wp2_with (fail)
  go_at_call 158
  refine (HK.out _ (below2 _ _ _)).mono ?_
  rintro e w1 ⟨rfl, hb⟩
  have HB := Lib.hid ((below2 w _ _).trans (hb.mono (by simp; omega)))
  clear hb
  go_wp2_with (fail)
  go_ret
  exact ⟨rfl, HB.out⟩
set_option maxHeartbeats 2000000 in
theorem eqExs_any {w0 : World} {v : Value} {es : List Ex} (h : ExsAt w0 v es) : ∀ (w : World) (v2 : Value), Below w0.heap.size w0 w → ExsAt w v2 es → Calls Tryz.prog 158 #[v, v2] w (BoolP true w) := by
  induction h with
  | mk a n cap es vals hn hm hs hc hk ih =>
    intro w v2 hb0 h2
    obtain ⟨a2, cap2, hvf⟩ := h2.form
    rw [← hn] at hvf hm
    subst hvf
    unfold big at hm
    have Hc := Lib.hid hc; have Hl := Lib.hid hn; have IH := Lib.hid (fun i e hi => ih i e hi); have HK := Lib.hid (fun i e hi => hk i e hi); have H2 := Lib.hid h2; have HB0 := Lib.hid hb0
    clear hc hn hs hk ih hb0 h2
    go_enter Tryz.func158, Tryz.ntmps158
    go_wp2_with (fail)
    go_loopw [5] (fun i wr => ∃ k : Nat, k ≤ n ∧ i = .int .i64 k ∧ Hid (Below w.heap.size w wr)) (fun i _ => n - (intOf i).toNat)
    case atStart => exact ⟨0, Nat.zero_le _, rfl, Lib.hid (Below.refl _ _)⟩
    case round =>
      obtain ⟨k, hk, rfl, HB⟩ := hrel
      obtain ⟨wo, rfl⟩ : ∃ wo : World, wo = wr := ⟨_, rfl⟩
      by_cases hlt : k < n
      · obtain ⟨x, hx⟩ : ∃ x, es[k]? = some x := ⟨_, List.getElem?_eq_getElem (by rw [← Hl.out]; exact hlt)⟩
        obtain ⟨b, off, rfl, c0, c1, c2, c3⟩ := Hc.out k x hx
        obtain ⟨b2, off2, kv, rfl, _, d0, d1, d2, d3, hkv⟩ := H2.out.get hx
        have hb1 := HB0.out.trans (HB.out.mono HB0.out.size)
        have c0 := cellB hb1 c0
        have c1 := cellB hb1 c1
        have c2 := cellB hb1 c2
        have c3 := cellB hb1 c3
        have d0 := cellB HB.out d0
        have d1 := cellB HB.out d1
        have d2 := cellB HB.out d2
        have d3 := cellB HB.out d3
        have HE := Lib.hid (fun w' (hb : Below wo.heap.size wo w') => eqEx_of w' x.op x.n x.name (vals k) kv (by obtain ⟨a, c, e⟩ := (HK.out k x hx).form; exact ⟨a, _, c, e⟩) (by obtain ⟨a, c, e⟩ := hkv.form; exact ⟨a, _, c, e⟩) (fun w2 hb2 => IH.out k x hx w2 kv ((hb1.trans (hb.mono hb1.size)).trans (hb2.mono (by have := hb1.size; have := hb.size; omega))) (((hkv.dn HB.out).dn hb).dn hb2)))
        generalize hvk : vals k = vk at *
        clear hvk
        generalize x.op = op at *
        generalize x.n = en at *
        generalize x.name = nm at *
        have k0 : (0 : Int) ≤ k := by omega
        have k1 : (k : Int) < n := by omega
        clear hx hb1 hkv
        go_wp2_with (fail)
        go_still_tail 8, (by kernel_rfl)
        change wpList _ _ _ _ _ wo.drew
        have HD : Hid (Below wo.heap.size wo wo.drew) := Lib.hid (Below.refl _ _).drew
        generalize wo.drew = w2 at *
        go_wp2_with (fail)
        go_at_call 195
        refine (HE.out w2 HD.out).mono ?_
        rintro e w3 ⟨rfl, hb⟩
        have HB3 : Hid (Below w.heap.size w w3) := Lib.hid ((HB.out.trans (HD.out.mono HB.out.size)).trans (hb.mono (by have := HB.out.size; have := HD.out.size; omega)))
        clear hb
        go_wp2_with (fail)
        go_roundw
        case rel => exact ⟨k + 1, by omega, by go_num, HB3⟩
        case measure => simp [intOf]; omega
      · obtain rfl : k = n := by omega
        go_wp2_with (fail)
        go_ret
        exact ⟨rfl, HB.out⟩
set_option maxHeartbeats 1000000 in
theorem eqSt_of (w : World) (op : Int) (nm : ByteArray) (u1 u2 u3 v1 v2 v3 : Value) (hf : ∀ x ∈ [u1, u2, u3, v1, v2, v3], ∃ a n c, x = .slice a n c) (hA : ∀ w', Below w.heap.size w w' → Calls Tryz.prog 158 #[u1, v1] w' (BoolP true w')) (hB : ∀ w', Below w.heap.size w w' → Calls Tryz.prog 86 #[u2, v2] w' (BoolP true w')) (hE : ∀ w', Below w.heap.size w w' → Calls Tryz.prog 86 #[u3, v3] w' (BoolP true w')) :
    Calls Tryz.prog 123 #[.agg #[.int .i64 op, .string nm, u1, u2, u3], .agg #[.int .i64 op, .string nm, v1, v2, v3]] w (BoolP true w) := by
  have HA := Lib.hid hA; have HB := Lib.hid hB; have HE := Lib.hid hE
  obtain ⟨a1, n1, c1, rfl⟩ := hf u1 (by simp)
  obtain ⟨a2, n2, c2, rfl⟩ := hf u2 (by simp)
  obtain ⟨a3, n3, c3, rfl⟩ := hf u3 (by simp)
  obtain ⟨b1, m1, d1, rfl⟩ := hf v1 (by simp)
  obtain ⟨b2, m2, d2, rfl⟩ := hf v2 (by simp)
  obtain ⟨b3, m3, d3, rfl⟩ := hf v3 (by simp)
  clear hA hB hE hf
  obtain ⟨P, hP⟩ : ∃ p, p = w.heap.size := ⟨_, rfl⟩
  obtain ⟨R, hR⟩ : ∃ p, p = P + 1 := ⟨_, rfl⟩
  obtain ⟨w1, hw1⟩ : ∃ w1, w1 = (w.alloc (.cells #[.int .i64 op, .string nm, .slice a1 n1 c1, .slice a2 n2 c2, .slice a3 n3 c3] 70)).alloc (.cells #[.int .i64 op, .string nm, .slice b1 m1 d1, .slice b2 m2 d2, .slice b3 m3 d3] 70) := ⟨_, rfl⟩
  have HW1 : Hid (Below w.heap.size w w1 ∧ Blk w1 P [.int .i64 op, .string nm, .slice a1 n1 c1, .slice a2 n2 c2, .slice a3 n3 c3] ∧ Blk w1 R [.int .i64 op, .string nm, .slice b1 m1 d1, .slice b2 m2 d2, .slice b3 m3 d3]) := Lib.hid (by
    rw [hw1]
    refine ⟨below2 _ _ _, ?_, ?_⟩
    · rw [hP]; exact (Blk.new _ _ _).alloc _
    · exact Blk.fresh (by rw [hR, hP]; simp) rfl)
  go_enter Tryz.func123, Tryz.ntmps123
  go_upto_region 1 with (fail)
  rw [← hP, ← hR, ← hw1]
  clear hP hR hw1
  obtain ⟨p0, p1, p2, p3, p4⟩ := blkq5 HW1.out.2.1
  obtain ⟨r0, r1, r2, r3, r4⟩ := blkq5 HW1.out.2.2
  go_wp2_with (fail)
  go_at_call 158
  refine (HA.out _ HW1.out.1).mono ?_
  rintro e w2 ⟨rfl, hb⟩
  have p3 := cellB hb p3; have p4 := cellB hb p4; have r3 := cellB hb r3; have r4 := cellB hb r4
  have HB2 := Lib.hid (HW1.out.1.trans (hb.mono HW1.out.1.size))
  clear hb p0 p1 p2 r0 r1 r2
  go_wp2_with (fail)
  go_at_call 86
  refine (HB.out _ HB2.out).mono ?_
  rintro e w3 ⟨rfl, hb⟩
  have p4 := cellB hb p4; have r4 := cellB hb r4
  have HB3 := Lib.hid (HB2.out.trans (hb.mono HB2.out.size))
  clear hb p3 r3
  go_wp2_with (fail)
  go_at_call 86
  refine (HE.out _ HB3.out).mono ?_
  rintro e w4 ⟨rfl, hb⟩
  have HB4 := Lib.hid (HB3.out.trans (hb.mono HB3.out.size))
  clear hb
  go_wp2_with (fail)
  go_ret
  exact ⟨rfl, HB4.out⟩
set_option maxHeartbeats 4000000 in
theorem eqSts_any {w0 : World} {v : Value} {ss : List St} (h : StsAt w0 v ss) : ∀ (w : World) (v2 : Value), Below w0.heap.size w0 w → StsAt w v2 ss → Calls Tryz.prog 86 #[v, v2] w (BoolP true w) := by
  induction h with
  | mk a n cap ss av bv ev hn hm hs hc ha hb he ihb ihe =>
    intro w v2 hb0 h2
    obtain ⟨a2, cap2, hvf⟩ := h2.form
    rw [← hn] at hvf hm
    subst hvf
    unfold big at hm
    have Hc := Lib.hid hc; have Hl := Lib.hid hn; have IHB := Lib.hid (fun i e hi => ihb i e hi); have IHE := Lib.hid (fun i e hi => ihe i e hi); have HKA := Lib.hid (fun i e hi => ha i e hi); have HKB := Lib.hid (fun i e hi => hb i e hi); have HKE := Lib.hid (fun i e hi => he i e hi); have H2 := Lib.hid h2; have HB0 := Lib.hid hb0
    clear hc hn hs ha hb he ihb ihe hb0 h2
    go_enter Tryz.func86, Tryz.ntmps86
    go_wp2_with (fail)
    go_loopw [5] (fun i wr => ∃ k : Nat, k ≤ n ∧ i = .int .i64 k ∧ Hid (Below w.heap.size w wr)) (fun i _ => n - (intOf i).toNat)
    case atStart => exact ⟨0, Nat.zero_le _, rfl, Lib.hid (Below.refl _ _)⟩
    case round =>
      obtain ⟨k, hk, rfl, HB⟩ := hrel
      obtain ⟨wo, rfl⟩ : ∃ wo : World, wo = wr := ⟨_, rfl⟩
      by_cases hlt : k < n
      · obtain ⟨x, hx⟩ : ∃ x, ss[k]? = some x := ⟨_, List.getElem?_eq_getElem (by rw [← Hl.out]; exact hlt)⟩
        obtain ⟨b, off, rfl, c0, c1, c2, c3, c4⟩ := Hc.out k x hx
        obtain ⟨b2, off2, xa, xb, xe, rfl, _, d0, d1, d2, d3, d4, ka, kb, ke⟩ := H2.out.get hx
        have hb1 := HB0.out.trans (HB.out.mono HB0.out.size)
        have c0 := cellB hb1 c0
        have c1 := cellB hb1 c1
        have c2 := cellB hb1 c2
        have c3 := cellB hb1 c3
        have c4 := cellB hb1 c4
        have d0 := cellB HB.out d0
        have d1 := cellB HB.out d1
        have d2 := cellB HB.out d2
        have d3 := cellB HB.out d3
        have d4 := cellB HB.out d4
        have hbb : ∀ w' w2, Below wo.heap.size wo w' → Below w'.heap.size w' w2 → Below w0.heap.size w0 w2 ∧ Below w.heap.size w w2 := fun w' w2 h1 h2 => ⟨(hb1.trans (h1.mono hb1.size)).trans (h2.mono (by have := hb1.size; have := h1.size; omega)), (HB.out.trans (h1.mono HB.out.size)).trans (h2.mono (by have := HB.out.size; have := h1.size; omega))⟩
        have HE := Lib.hid (fun w' (hb : Below wo.heap.size wo w') => eqSt_of w' x.op x.name (av k) (bv k) (ev k) xa xb xe (by
          obtain ⟨a1, c1, e1⟩ := (HKA.out k x hx).form
          obtain ⟨a2, c2, e2⟩ := (HKB.out k x hx).form
          obtain ⟨a3, c3, e3⟩ := (HKE.out k x hx).form
          obtain ⟨a4, c4, e4⟩ := ka.form
          obtain ⟨a5, c5, e5⟩ := kb.form
          obtain ⟨a6, c6, e6⟩ := ke.form
          intro y hy
          simp only [List.mem_cons, List.not_mem_nil, or_false] at hy
          rcases hy with rfl | rfl | rfl | rfl | rfl | rfl
          · exact ⟨_, _, _, e1⟩
          · exact ⟨_, _, _, e2⟩
          · exact ⟨_, _, _, e3⟩
          · exact ⟨_, _, _, e4⟩
          · exact ⟨_, _, _, e5⟩
          · exact ⟨_, _, _, e6⟩) (fun w2 hb2 => eqExs_any (HKA.out k x hx) w2 xa (hbb w' w2 hb hb2).1 (ka.dn (hbb w' w2 hb hb2).2)) (fun w2 hb2 => IHB.out k x hx w2 xb (hbb w' w2 hb hb2).1 (kb.dn (hbb w' w2 hb hb2).2)) (fun w2 hb2 => IHE.out k x hx w2 xe (hbb w' w2 hb hb2).1 (ke.dn (hbb w' w2 hb hb2).2)))
        generalize hvk : av k = vk at *
        generalize hvk2 : bv k = vk2 at *
        generalize hvk3 : ev k = vk3 at *
        clear hvk hvk2 hvk3
        generalize x.op = op at *
        generalize x.name = nm at *
        have k0 : (0 : Int) ≤ k := by omega
        have k1 : (k : Int) < n := by omega
        clear hx hb1 ka kb ke hbb
        go_wp2_with (fail)
        go_still_tail 8, (by kernel_rfl)
        change wpList _ _ _ _ _ wo.drew
        have HD : Hid (Below wo.heap.size wo wo.drew) := Lib.hid (Below.refl _ _).drew
        generalize wo.drew = w2 at *
        go_wp2_with (fail)
        go_at_call 123
        refine (HE.out w2 HD.out).mono ?_
        rintro e w3 ⟨rfl, hb⟩
        have HB3 : Hid (Below w.heap.size w w3) := Lib.hid ((HB.out.trans (HD.out.mono HB.out.size)).trans (hb.mono (by have := HB.out.size; have := HD.out.size; omega)))
        clear hb
        go_wp2_with (fail)
        go_roundw
        case rel => exact ⟨k + 1, by omega, by go_num, HB3⟩
        case measure => simp [intOf]; omega
      · obtain rfl : k = n := by omega
        go_wp2_with (fail)
        go_ret
        exact ⟨rfl, HB.out⟩
set_option maxHeartbeats 1000000 in
theorem eqFx_of (w : World) (nm : ByteArray) (u1 u2 v1 v2 : Value) (hf : ∀ x ∈ [u1, u2, v1, v2], ∃ a n c, x = .slice a n c) (hA : ∀ w', Below w.heap.size w w' → Calls Tryz.prog 85 #[u1, v1] w' (BoolP true w')) (hB : ∀ w', Below w.heap.size w w' → Calls Tryz.prog 86 #[u2, v2] w' (BoolP true w')) :
    Calls Tryz.prog 51 #[.agg #[.string nm, u1, u2], .agg #[.string nm, v1, v2]] w (BoolP true w) := by
  have HA := Lib.hid hA; have HB := Lib.hid hB
  obtain ⟨a1, n1, c1, rfl⟩ := hf u1 (by simp)
  obtain ⟨a2, n2, c2, rfl⟩ := hf u2 (by simp)
  obtain ⟨b1, m1, d1, rfl⟩ := hf v1 (by simp)
  obtain ⟨b2, m2, d2, rfl⟩ := hf v2 (by simp)
  clear hA hB hf
  obtain ⟨P, hP⟩ : ∃ p, p = w.heap.size := ⟨_, rfl⟩
  obtain ⟨R, hR⟩ : ∃ p, p = P + 1 := ⟨_, rfl⟩
  obtain ⟨w1, hw1⟩ : ∃ w1, w1 = (w.alloc (.cells #[.string nm, .slice a1 n1 c1, .slice a2 n2 c2] 64)).alloc (.cells #[.string nm, .slice b1 m1 d1, .slice b2 m2 d2] 64) := ⟨_, rfl⟩
  have HW1 : Hid (Below w.heap.size w w1 ∧ Blk w1 P [.string nm, .slice a1 n1 c1, .slice a2 n2 c2] ∧ Blk w1 R [.string nm, .slice b1 m1 d1, .slice b2 m2 d2]) := Lib.hid (by
    rw [hw1]
    refine ⟨below2 _ _ _, ?_, ?_⟩
    · rw [hP]; exact (Blk.new _ _ _).alloc _
    · exact Blk.fresh (by rw [hR, hP]; simp) rfl)
  go_enter Tryz.func51, Tryz.ntmps51
  go_upto_region 1 with (fail)
  rw [← hP, ← hR, ← hw1]
  clear hP hR hw1
  obtain ⟨p0, p1, p2⟩ := blkq3 HW1.out.2.1
  obtain ⟨r0, r1, r2⟩ := blkq3 HW1.out.2.2
  go_wp2_with (fail)
  go_at_call 85
  refine (HA.out _ HW1.out.1).mono ?_
  rintro e w2 ⟨rfl, hb⟩
  have p2 := cellB hb p2; have r2 := cellB hb r2
  have HB2 := Lib.hid (HW1.out.1.trans (hb.mono HW1.out.1.size))
  clear hb p0 p1 r0 r1
  go_wp2_with (fail)
  go_at_call 86
  refine (HB.out _ HB2.out).mono ?_
  rintro e w3 ⟨rfl, hb⟩
  have HB3 := Lib.hid (HB2.out.trans (hb.mono HB2.out.size))
  clear hb
  go_wp2_with (fail)
  go_ret
  exact ⟨rfl, HB3.out⟩
set_option maxHeartbeats 4000000 in
theorem eqFxs_any (w : World) (v v2 : Value) (fs : List Fx) (h : FxsAt w v fs) (h2 : FxsAt w v2 fs) : Calls Tryz.prog 25 #[v, v2] w (BoolP true w) := by
  obtain ⟨a, cap, hvf, hm⟩ := h.form
  obtain ⟨a2, cap2, hvf2, _⟩ := h2.form
  obtain ⟨n, hn⟩ : ∃ n, n = fs.length := ⟨_, rfl⟩
  rw [← hn] at hvf hvf2 hm
  subst hvf hvf2
  unfold big at hm
  have HX := Lib.hid h; have HY := Lib.hid h2; have Hl := Lib.hid hn
  clear h h2 hn
  go_enter Tryz.func25, Tryz.ntmps25
  go_wp2_with (fail)
  go_loopw [5] (fun i wr => ∃ k : Nat, k ≤ n ∧ i = .int .i64 k ∧ Hid (Below w.heap.size w wr)) (fun i _ => n - (intOf i).toNat)
  case atStart => exact ⟨0, Nat.zero_le _, rfl, Lib.hid (Below.refl _ _)⟩
  case round =>
    obtain ⟨k, hk, rfl, HB⟩ := hrel
    obtain ⟨wo, rfl⟩ : ∃ wo : World, wo = wr := ⟨_, rfl⟩
    by_cases hlt : k < n
    · obtain ⟨x, hx⟩ : ∃ x, fs[k]? = some x := ⟨_, List.getElem?_eq_getElem (by rw [← Hl.out]; exact hlt)⟩
      obtain ⟨_, b, off, pv, bv, rfl, _, c0, c1, c2, ka, kb⟩ := HX.out.get hx
      obtain ⟨_, b2, off2, qv, dv, rfl, _, d0, d1, d2, ja, jb⟩ := HY.out.get hx
      have c0 := cellB HB.out c0
      have c1 := cellB HB.out c1
      have c2 := cellB HB.out c2
      have d0 := cellB HB.out d0
      have d1 := cellB HB.out d1
      have d2 := cellB HB.out d2
      have hbb : ∀ w' w2, Below wo.heap.size wo w' → Below w'.heap.size w' w2 → Below w.heap.size w w2 := fun w' w2 h1 h2 => (HB.out.trans (h1.mono HB.out.size)).trans (h2.mono (by have := HB.out.size; have := h1.size; omega))
      have HE := Lib.hid (fun w' (hb : Below wo.heap.size wo w') => eqFx_of w' x.name pv bv qv dv (by
        obtain ⟨a1, c1, e1, _⟩ := ka.form
        obtain ⟨a2, c2, e2⟩ := kb.form
        obtain ⟨a4, c4, e4, _⟩ := ja.form
        obtain ⟨a5, c5, e5⟩ := jb.form
        intro y hy
        simp only [List.mem_cons, List.not_mem_nil, or_false] at hy
        rcases hy with rfl | rfl | rfl | rfl
        · exact ⟨_, _, _, e1⟩
        · exact ⟨_, _, _, e2⟩
        · exact ⟨_, _, _, e4⟩
        · exact ⟨_, _, _, e5⟩) (fun w2 hb2 => eqStrs_any w2 pv qv _ (ka.below (hbb w' w2 hb hb2)) (ja.below (hbb w' w2 hb hb2))) (fun w2 hb2 => eqSts_any kb w2 dv (hbb w' w2 hb hb2) (jb.dn (hbb w' w2 hb hb2))))
      generalize x.name = nm at *
      have k0 : (0 : Int) ≤ k := by omega
      have k1 : (k : Int) < n := by omega
      clear hx ka kb ja jb hbb
      go_wp2_with (fail)
      go_still_tail 8, (by kernel_rfl)
      change wpList _ _ _ _ _ wo.drew
      have HD : Hid (Below wo.heap.size wo wo.drew) := Lib.hid (Below.refl _ _).drew
      generalize wo.drew = w2 at *
      go_wp2_with (fail)
      go_at_call 51
      refine (HE.out w2 HD.out).mono ?_
      rintro e w3 ⟨rfl, hb⟩
      have HB3 : Hid (Below w.heap.size w w3) := Lib.hid ((HB.out.trans (HD.out.mono HB.out.size)).trans (hb.mono (by have := HB.out.size; have := HD.out.size; omega)))
      clear hb
      go_wp2_with (fail)
      go_roundw
      case rel => exact ⟨k + 1, by omega, by go_num, HB3⟩
      case measure => simp [intOf]; omega
    · obtain rfl : k = n := by omega
      go_wp2_with (fail)
      go_ret
      exact ⟨rfl, HB.out⟩
set_option maxHeartbeats 1000000 in
theorem eqProg_any (w : World) (v v2 : Value) (fs : List Fx) (h : FxsAt w v fs) (h2 : FxsAt w v2 fs) : Calls Tryz.prog 10 #[.agg #[v], .agg #[v2]] w (BoolP true w) := by
  have HK := Lib.hid (fun w' (hb : Below w.heap.size w w') => eqFxs_any w' v v2 fs (h.below hb) (h2.below hb))
  obtain ⟨a, cap, hvf, hm⟩ := h.form
  obtain ⟨a2, cap2, hvf2, _⟩ := h2.form
  generalize fs.length = n at hvf hvf2
  subst hvf hvf2
  clear h h2 hm
  go_enter Tryz.func10, Tryz.ntmps10
  go_wp2_with (fail)
  go_at_call 25
  refine (HK.out _ (below2 _ _ _)).mono ?_
  rintro e w1 ⟨rfl, hb⟩
  have HB := Lib.hid ((below2 w _ _).trans (hb.mono (by simp; omega)))
  clear hb
  go_wp2_with (fail)
  go_ret
  exact ⟨rfl, HB.out⟩
end Go.Proofs.YtpnliencahnmoaaGreatDoor

set_option linter.unusedVariables false
set_option linter.unusedSimpArgs false
set_option maxRecDepth 100000
namespace Go.Proofs.YtpnliencahnmoaaGreatDoor
open Go.RowKit
/-- string([]byte{x}) over the block that has just been laid -/
theorem conv_one (W : World) (x : Int) : (convert 38 9 (.slice (some ⟨W.heap.size, 0, none⟩) 1 1)).run Tryz.prog (W.alloc (.cells #[.int .u8 x] 5)) = .ok (.string (strOfNums [x])) (W.alloc (.cells #[.int .u8 x] 5)) := by
  refine run_convert_bytes_arg _ 38 5 Tryz.underlying38 Tryz.underlying5 _ 0 1 1 [x] rfl (fun i hi => ?_) 9 Tryz.underlying9
  obtain rfl : i = 0 := by omega
  rw [World.cell?_alloc_at _ _ _ _ rfl]; rfl
theorem num_one (x : Int) : (strOfNums [x]).size = 1 := by simp [strOfNums_size]
set_option maxHeartbeats 1000000 in
theorem markText_any (w : World) (k : Nat) (hk : k ≤ 1099511627776) : Calls Tryz.prog 52 #[.int .i64 (k : Int)] w (fun e w' => ∃ s, e = .returned (.string s) ∧ Below w.heap.size w w') := by
  have kc := conv_one
  have ko := num_one
  by_cases h0 : k = 0
  · subst h0
    go_enter Tryz.func52, Tryz.ntmps52
    go_wp2_with (fail)
    go_ret
    exact ⟨_, rfl, Below.refl _ _⟩
  · have h1 : ¬ (k : Int) ≤ 0 := by omega
    clear h0
    go_enter Tryz.func52, Tryz.ntmps52
    go_wp2_with (fail)
    go_loopw [0, 3] (fun i s wr => ∃ (j : Nat) (x : ByteArray), i = .int .i64 (j : Int) ∧ s = .string x ∧ x.size + j ≤ k ∧ Hid (Below w.heap.size w wr)) (fun i _ _ => (intOf i).toNat)
    case atStart => exact ⟨k, ⟨#[]⟩, rfl, rfl, by show 0 + k ≤ k; omega, Lib.hid (Below.refl _ _)⟩
    case round =>
      obtain ⟨j, x, rfl, rfl, hj, HB⟩ := hrel
      by_cases hlt : 0 < j
      · have k0 : (0 : Int) < j := by omega
        have hsz := HB.out.size
        have hxs : x.size ≤ 1099511627776 := by omega
        go_wp2_with (fail)
        go_roundw
        case rel => exact ⟨j / 10, _, by go_num, rfl, by rw [ByteArray.size_append, ko]; omega, Lib.hid (HB.out.alloc HB.out.size _)⟩
        case measure => simp [intOf]; omega
      · obtain rfl : j = 0 := by omega
        have hxs : x.size ≤ 1099511627776 := by omega
        go_wp2_with (fail)
        go_ret
        exact ⟨_, rfl, HB.out⟩
/-- only blocks of an interval may change -/
structure MidB (lo hi : Nat) (w w' : World) : Prop where
  os : w'.os = w.os
  tape : w'.tape = w.tape
  output : w'.output = w.output
  size : w.heap.size ≤ w'.heap.size
  block : ∀ q, q < w.heap.size → ¬ (lo ≤ q ∧ q < hi) → w'.heap[q]? = w.heap[q]?
theorem MidB.refl (lo hi : Nat) (w : World) : MidB lo hi w w := ⟨rfl, rfl, rfl, Nat.le_refl _, fun _ _ _ => rfl⟩
theorem MidB.trans {lo hi : Nat} {a b c : World} (h : MidB lo hi a b) (k : MidB lo hi b c) : MidB lo hi a c :=
  ⟨k.os.trans h.os, k.tape.trans h.tape, k.output.trans h.output, Nat.le_trans h.size k.size, fun q h1 h2 => by rw [k.block q (Nat.lt_of_lt_of_le h1 h.size) h2, h.block q h1 h2]⟩
theorem MidB.wide {lo hi lo' hi' : Nat} {a b : World} (h : MidB lo hi a b) (h1 : lo' ≤ lo) (h2 : hi ≤ hi') : MidB lo' hi' a b :=
  ⟨h.os, h.tape, h.output, h.size, fun q q1 q2 => h.block q q1 (fun ⟨x, y⟩ => q2 ⟨by omega, by omega⟩)⟩
theorem MidB.of_below {lo hi : Nat} {a b : World} (h : Below a.heap.size a b) : MidB lo hi a b := ⟨h.os, h.tape, h.output, h.size, fun q q1 _ => h.block q q1⟩
theorem MidB.setCell {lo hi : Nat} {a b : World} (h : MidB lo hi a b) {p : Addr} (h1 : lo ≤ p.block) (h2 : p.block < hi) (u : Value) : MidB lo hi a (b.setCell p u) :=
  h.trans ⟨rfl, rfl, rfl, by simp, fun q _ hn => Below.heap_setCell _ _ _ _ (fun e => hn ⟨by omega, by omega⟩)⟩
theorem MidB.below {lo hi B : Nat} {a b : World} (h : MidB lo hi a b) (hB : B ≤ lo) (hs : B ≤ a.heap.size) : Below B a b :=
  ⟨h.os, h.tape, h.output, h.size, fun q hq => h.block q (by omega) (fun ⟨x, _⟩ => by omega)⟩
/-- how a marker answers -/
def MkP (lo hi k W : Nat) (w : World) (e : Ending) (w' : World) : Prop := ∃ k' : Nat, e = .returned (.int .i64 (k' : Int)) ∧ k ≤ k' ∧ k' ≤ k + W ∧ MidB lo hi w w'
set_option maxHeartbeats 2000000 in
theorem markStrs_any {w0 : World} {lo hi : Nat} {v : Value} {ss : List ByteArray} (h : OStrs w0 lo hi v ss) (w : World) (k : Nat) (hh : ∀ q, lo ≤ q → q < hi → w.heap[q]? = w0.heap[q]?) (hhi : hi ≤ w.heap.size) (hkk : k + ss.length ≤ 1000000000) :
    Calls Tryz.prog 53 #[v, .int .i64 (k : Int)] w (MkP lo hi k ss.length w) := by
  obtain ⟨g, rfl, hg1, hg2, hm, hsz, hown⟩ := h.keep (w' := w) hh
  obtain ⟨n, hn⟩ : ∃ n, n = ss.length := ⟨_, rfl⟩
  rw [← hn] at hown hkk hm ⊢
  have HOWN := Lib.hid hown
  clear hown hn hsz hm hh h
  go_enter Tryz.func53, Tryz.ntmps53
  go_wp2_with (fail)
  go_loopw [1, 5] (fun q i wr => ∃ (j : Nat) (ys : List Value), j ≤ n ∧ i = .int .i64 (j : Int) ∧ q = .int .i64 ((k + j : Nat) : Int) ∧ Hid (wr.ownsRow lo 9 1 (.slice (some ⟨g, 0, none⟩) n n) n ys) ∧ Hid (MidB lo hi w wr)) (fun _ i _ => n - (intOf i).toNat)
  case atStart => exact ⟨0, _, Nat.zero_le _, rfl, rfl, HOWN, Lib.hid (MidB.refl _ _ _)⟩
  case round =>
    obtain ⟨j, ys, hj, rfl, rfl, HO, HB⟩ := hrel
    by_cases hlt : j < n
    · have k0 : (0 : Int) ≤ j := by omega
      have k1 : (j : Int) < n := by omega
      obtain ⟨q, hq⟩ : ∃ q : Nat, q = k + j := ⟨_, rfl⟩
      rw [← hq]
      have HMT := Lib.hid (fun w' => markText_any w' q (by omega))
      have HQ := Lib.hid hq
      have hq9 : q ≤ 1000000000 := by omega
      clear hq
      go_wp2_with (fail)
      go_at_call 52
      refine (HMT.out _).mono ?_
      rintro e w2 ⟨s, rfl, hb⟩
      have hO2 := ownsRow_below HO.out hb
      have hyl : ys.length = n * 1 := hO2.1
      have d0 : w2.cell? ⟨g, j, none⟩ = some (ys[j]'(by omega)) := by rw [hO2.cellAt j (by omega), List.getElem?_eq_getElem (by omega)]
      have f0 : w2.frozen? ⟨g, j, none⟩ = false := hO2.frozenAt _
      have hg0 := (ownsRow_lt hO2).1
      generalize ys[j]'(by omega) = yk at d0
      have HB2 := Lib.hid (HB.out.trans (MidB.of_below hb)); have HO2 := Lib.hid hO2
      clear hb hO2 hyl
      go_wp2_with (fail)
      go_roundw
      case rel => exact ⟨j + 1, _, by omega, by go_num, by rw [show k + (j + 1) = q + 1 by have := HQ.out; omega]; go_num, Lib.hid (HO2.out.stored j _).1, Lib.hid (HB2.out.setCell (p := ⟨g, j, none⟩) hg1 hg2 _)⟩
      case measure => simp [intOf]; omega
    · obtain rfl : j = n := by omega
      go_wp2_with (fail)
      go_ret
      exact ⟨_, rfl, by omega, Nat.le_refl _, HB.out⟩
/-- marking is under way: the rows to come still stand -/
structure MkE (w0 w wr : World) (lo hi g n j : Nat) (ys : List Value) (vals : Nat → Value) (ls hs : Nat → Nat) : Prop where
  row : wr.ownsRow lo 67 4 (.slice (some ⟨g, 0, none⟩) n n) n ys
  mid : MidB lo hi w wr
  kid : ∀ i, j ≤ i → i < n → ys[i * 4 + 3]? = some (vals i)
  old : ∀ i, j ≤ i → i < n → ∀ q, ls i ≤ q → q < hs i → wr.heap[q]? = w0.heap[q]?
theorem MkE.below {w0 w wr w2 : World} {lo hi g n j : Nat} {ys : List Value} {vals : Nat → Value} {ls hs : Nat → Nat} (h : MkE w0 w wr lo hi g n j ys vals ls hs) (hb : Below wr.heap.size wr w2) (hh : ∀ i, i < n → hs i ≤ wr.heap.size) : MkE w0 w w2 lo hi g n j ys vals ls hs :=
  ⟨ownsRow_below h.row hb, h.mid.trans (MidB.of_below hb), h.kid, fun i h1 h2 q q1 q2 => by rw [hb.block q (by have := hh i h2; omega)]; exact h.old i h1 h2 q q1 q2⟩
theorem MkE.set {w0 w wr : World} {lo hi g n j : Nat} {ys : List Value} {vals : Nat → Value} {ls hs : Nat → Nat} (h : MkE w0 w wr lo hi g n j ys vals ls hs) (hg1 : lo ≤ g) (hg2 : g < hi) (hl : ∀ i, i < n → g < ls i) (p : Nat) (hp : ∀ i, p ≠ i * 4 + 3) (u : Value) : MkE w0 w (wr.setCell ⟨g, p, none⟩ u) lo hi g n j (ys.set p u) vals ls hs :=
  ⟨(h.row.stored p u).1, h.mid.setCell (p := ⟨g, p, none⟩) hg1 hg2 u, fun i h1 h2 => by rw [List.getElem?_set_ne (hp i)]; exact h.kid i h1 h2, fun i h1 h2 q q1 q2 => by rw [Below.heap_setCell _ _ _ _ (by have := hl i h2; simp only []; omega)]; exact h.old i h1 h2 q q1 q2⟩
set_option maxHeartbeats 4000000 in
theorem markExs_any {w0 : World} {lo hi : Nat} {v : Value} {es : List Ex} (h : OExs w0 lo hi v es) : ∀ (w : World) (k : Nat), (∀ q, lo ≤ q → q < hi → w.heap[q]? = w0.heap[q]?) → hi ≤ w.heap.size → k + 3 * exsW es ≤ 1000000000 →
    Calls Tryz.prog 87 #[v, .int .i64 (k : Int)] w (MkP lo hi k (3 * exsW es) w) := by
  induction h with
  | mk lo hi g n es ys vals ls hs hn hm hsz hg hgh hlo hhi hd hrow hc hk ih =>
    intro w k hh hhs hkk
    have hE : MkE w0 w w lo hi g n 0 ys vals ls hs := by
      refine ⟨ownsRow_same hrow (fun q hq => ?_), MidB.refl _ _ _, fun i _ hi => ?_, fun i _ hi q q1 q2 => ?_⟩
      · have hq : g = q := by simpa [Value.ownBlock] using hq
        subst hq
        exact hh g hg hgh
      · exact (hc i _ (List.getElem?_eq_getElem (by omega))).2.2.2
      · have := hlo i hi; have := hhi i hi; exact hh q (by omega) (by omega)
    have hW : exsW es = n + (es.map exW).sum := by rw [hn]; exact exsW_sum es
    have HE0 := Lib.hid hE; have HN := Lib.hid hn; have IH := Lib.hid (fun i e hi => ih i e hi); have HLO := Lib.hid hlo; have HHI := Lib.hid hhi; have HD := Lib.hid hd; have HW := Lib.hid hW; have HGG : Hid (lo ≤ g ∧ g < hi) := Lib.hid ⟨hg, hgh⟩
    clear hE hn hm hsz hlo hhi hd hrow hc hk ih hh hW
    obtain ⟨T, hT⟩ : ∃ T, T = 3 * exsW es := ⟨_, rfl⟩
    rw [← hT] at hkk ⊢
    have HT := Lib.hid hT
    have hn9 : n ≤ 1000000000 := by have := HW.out; omega
    clear hT
    go_enter Tryz.func87, Tryz.ntmps87
    go_wp2_with (fail)
    go_loopw [1, 5] (fun qv i wr => ∃ (j q : Nat) (ys : List Value), j ≤ n ∧ i = .int .i64 (j : Int) ∧ qv = .int .i64 (q : Int) ∧ k ≤ q ∧ Hid (q ≤ k + 3 * (j + ((es.take j).map exW).sum)) ∧ Hid (MkE w0 w wr lo hi g n j ys vals ls hs)) (fun _ i _ => n - (intOf i).toNat)
    case atStart => exact ⟨0, k, _, Nat.zero_le _, rfl, rfl, Nat.le_refl _, Lib.hid (by omega), HE0⟩
    case round =>
      obtain ⟨j, q, zs, hj, rfl, rfl, hkq, HQ, HE⟩ := hrel
      by_cases hlt : j < n
      · obtain ⟨x, hx⟩ : ∃ x, es[j]? = some x := ⟨_, List.getElem?_eq_getElem (by rw [← HN.out]; exact hlt)⟩
        have hst := sum_take_succ exW es j x hx
        have hsl := sum_take_le exW es (j + 1)
        have hxe := exW_eq x
        have hqq : q + 3 + 3 * exsW x.kids ≤ k + 3 * (j + 1 + ((es.take (j + 1)).map exW).sum) := by have := HQ.out; omega
        have hqT : q + 3 + 3 * exsW x.kids ≤ k + T := by have := HT.out; have := HW.out; have := hqq; omega
        have hq9 : (q : Int) + 3 ≤ 1000000000 := by omega
        have HQQ := Lib.hid hqq
        have HXK := Lib.hid hx
        have k0 : (0 : Int) ≤ j := by omega
        have k1 : (j : Int) < n := by omega
        have q0 : (0 : Int) ≤ q := by omega
        have HMT := Lib.hid (fun w' => markText_any w' (q + 2) (by omega))
        rw [show ((q + 2 : Nat) : Int) = (q : Int) + 1 + 1 by omega] at HMT
        obtain ⟨⟨y0, d0⟩, ⟨y1, d1⟩, ⟨y2, d2⟩, ⟨y3, d3⟩, f0, f1, f2, f3⟩ := own4 HE.out.row j hlt
        have hg0 := (ownsRow_lt HE.out.row).1
        have hgg := HGG.out
        have HA := Lib.hid ((HE.out.set hgg.1 hgg.2 HLO.out (j * 4) (by omega) (.int .i64 (q : Int))).set hgg.1 hgg.2 HLO.out (j * 4 + 1) (by omega) (.int .i64 ((q : Int) + 1)))
        clear hst hsl hxe hqq hx
        go_wp2_with (fail)
        go_at_call 52
        refine (HMT.out _).mono ?_
        rintro e w2 ⟨s, rfl, hb⟩
        have hwz : ∀ i, i < n → hs i ≤ wr.heap.size := fun i hi => by have := HHI.out i hi; have := HE.out.mid.size; omega
        have hA2 := HA.out.below hb (fun i hi => by have := hwz i hi; simpa using this)
        have HC := Lib.hid (hA2.set hgg.1 hgg.2 HLO.out (j * 4 + 2) (by omega) (.string s))
        have hsz2 : wr.heap.size ≤ w2.heap.size := by have := hb.size; simpa using this
        obtain ⟨⟨x0, e0⟩, ⟨x1, e1⟩, ⟨x2, e2⟩, ⟨x3, e3⟩, g0, g1, g2, g3⟩ := own4 hA2.row j hlt
        have e3 : w2.cell? ⟨g, j * 4 + 3, none⟩ = some (vals j) := by rw [hA2.row.cellAt (j * 4 + 3) (by omega)]; exact hA2.kid j (Nat.le_refl _) hlt
        have hg2 : g < w2.heap.size := by omega
        clear hb hA2 d0 d1 d2 d3 f0 f1 f2 f3 HA HMT
        obtain ⟨w3, hw3⟩ : ∃ w3, w3 = w2.setCell ⟨g, j * 4 + 2, none⟩ (.string s) := ⟨_, rfl⟩
        rw [← hw3] at HC
        have hsz3 : w3.heap.size = w2.heap.size := by rw [hw3]; simp
        have HI := Lib.hid (IH.out j x HXK.out w3 (q + 3) (fun z z1 z2 => HC.out.old j (Nat.le_refl _) hlt z z1 z2) (by have := hwz j hlt; omega) (by omega))
        rw [show ((q + 3 : Nat) : Int) = (q : Int) + 1 + 1 + 1 by omega] at HI
        have hgl : g < w3.heap.size := by omega
        have z3 : w3.cell? ⟨g, j * 4 + 3, none⟩ = some (vals j) := by rw [HC.out.row.cellAt (j * 4 + 3) (by omega)]; exact HC.out.kid j (Nat.le_refl _) hlt
        have HSZ := Lib.hid hwz
        have HS3 : Hid (wr.heap.size ≤ w3.heap.size) := Lib.hid (by omega)
        clear hsz3 hwz hgg
        generalize hvk : vals j = vk at e3 z3 HI
        go_upto_region 9 with (fail)
        rw [← hw3]
        clear hw3 e0 e1 e2 e3 g0 g1 g2 g3 hg2 hsz2
        go_wp2_with (fail)
        go_at_call 87
        refine HI.out.mono ?_
        rintro e w4 ⟨k', rfl, h1, h2, hmid⟩
        have HN4 : Hid (MkE w0 w w4 lo hi g n (j + 1) (((zs.set (j * 4) (.int .i64 (q : Int))).set (j * 4 + 1) (.int .i64 ((q : Int) + 1))).set (j * 4 + 2) (.string s)) vals ls hs) := Lib.hid (by
          have hg3 := HLO.out j hlt
          refine ⟨ownsRow_same HC.out.row (fun z hz => ?_), HC.out.mid.trans (hmid.wide (by have := HGG.out; omega) (HHI.out j hlt)), fun i h1 h2 => HC.out.kid i (by omega) h2, fun i i1 i2 z z1 z2 => ?_⟩
          · have hz : g = z := by simpa [Value.ownBlock] using hz
            subst hz
            exact hmid.block g hgl (by omega)
          · have := HD.out j i (by omega) i2
            rw [hmid.block z (by have := HSZ.out i i2; have := HS3.out; omega) (by omega)]
            exact HC.out.old i (by omega) i2 z z1 z2)
        have HQ4 : Hid (k' ≤ k + 3 * (j + 1 + ((es.take (j + 1)).map exW).sum)) := Lib.hid (by have := HQQ.out; omega)
        have hk4 : k ≤ k' := by omega
        clear hmid h1 h2
        go_wp2_with (fail)
        go_roundw
        case rel => exact ⟨j + 1, k', _, by omega, by go_num, rfl, hk4, HQ4, HN4⟩
        case measure => simp [intOf]; omega
      · obtain rfl : j = n := by omega
        go_wp2_with (fail)
        go_ret
        refine ⟨_, rfl, hkq, ?_, HE.out.mid⟩
        have h1 := HQ.out
        rw [List.take_of_length_le (by rw [← HN.out]; exact Nat.le_refl _)] at h1
        have := HT.out; have := HW.out
        omega
end Go.Proofs.YtpnliencahnmoaaGreatDoor
