/- spec.RunImage and spec.ImageTrace answer what a run of the image's bytes answers. -/
import Derived.Test.YtbdbmmdnidonjaaDoorUZs
import Derived.Test.YtbdbmmdnidonjaaDoorUZj
import Derived.Test.YtbdbmmdnidonjaaDoorUJm
import Derived.Laws.AppendOwnNone
set_option linter.unusedVariables false
set_option linter.unusedSimpArgs false
set_option maxRecDepth 100000
namespace Go.Proofs.YtbdbmmdnidonjaaDoor
open Go.RowKit
/-- what is asked ahead of a run -/
def FitsP (b : List Nat) (zs : List Int) (steps : Int) (w : World) (e : Ending) (w' : World) : Prop :=
 ∃ q, e = .returned (.bool q) ∧ (q = (imgRun b zs steps).isSome) ∧ Below w.heap.size w w'
set_option maxHeartbeats 2000000 in
theorem l27Fits_any (w : World) (v : Value) (b : List Nat) (h : CsC w v b) (hle : b.length ≤ 1048576) (ib n cap : Nat) (zs : List Int) (hi : InSrc w ib 0 n cap zs) (steps : Int) :
  Calls Tryd.prog 71 #[v, .slice (some ⟨ib, 0, none⟩) n cap, .int .i64 steps] w (FitsP b zs steps w) := by
 have HRD := Lib.hid (read_any w v b h hle)
 have HMR := Lib.hid (fun w' (hb : Below w.heap.size w w') fv fs (hm : MfsAt w' fv fs) (hl : MfsLe fs) => fits_any w' fv _ fs zs hm hl (hi.below hb).ints (by rw [hi.len]; have := hi.small; omega))
 obtain ⟨pw, hpw⟩ : ∃ pw, inR 0 200000 steps = pw := ⟨_, rfl⟩
 have HW := Lib.hid (l1In_named steps 0 200000 pw hpw)
 have HPW := Lib.hid hpw
 unfold FitPost at HMR
 obtain ⟨a, cp, rfl, _⟩ := h.2
 obtain ⟨L, hL⟩ : ∃ L, L = b.length := ⟨_, rfl⟩
 rw [← hL] at HRD ⊢
 obtain ⟨Q, hQ⟩ : ∃ Q, Q = FitsP b zs steps w := ⟨_, rfl⟩
 have HQ : Hid (∀ q w', q = (imgRun b zs steps).isSome → Below w.heap.size w w' → Q (.returned (.bool q)) w') := Lib.hid (fun q w' h1 h2 => by rw [hQ]; exact ⟨q, rfl, h1, h2⟩)
 rw [← hQ]
 clear hL hQ h hi hle hpw
 go_enter Tryd.func71, Tryd.ntmps71
 go_wp2_with (fail)
 go_at_call 65
 refine HRD.out.mono ?_
 rintro e w5 ⟨fv, fs, ok, rfl, h1, h2, hof, hb⟩
 cases ok with
 |false =>
  have HX := Lib.hid (h2 rfl).1
  obtain ⟨fa, fc, rfl, _⟩ := hof.at
  have HB := Lib.hid hb
  have hs := hb.size
  clear h1 h2 hb hof
  go_wp2_with (fail)
  first | go_ret | skip
  refine HQ.out _ _ (by rw [imgRun_no HX.out]; rfl) ?_
  exact HB.out.alloc hs _
 |true =>
  obtain ⟨l, hl⟩ := h1 rfl
  have HX := Lib.hid hl
  obtain ⟨hle2, h0⟩ := readI_le hl
  obtain ⟨fg, fc, rfl⟩ := hof.some_form h0
  have HM := Lib.hid hof.at
  have HB := Lib.hid hb
  have HLE := Lib.hid hle2
  have hs := hb.size
  obtain ⟨m, hm⟩ : ∃ m, m = fs.length := ⟨_, rfl⟩
  rw [← hm] at HM ⊢
  clear h1 h2 hb hof hl hle2 h0 hm
  go_wp2_with (fail)
  go_at_call 50
  generalize hw6 : w5.alloc _ = w6
  have hb6 : Below w5.heap.size w5 w6 := by rw [← hw6]; exact below1 _ _
  have hb6' := HB.out.trans (hb6.mono HB.out.size)
  refine (HMR.out w6 hb6' _ fs (HM.out.below hb6) HLE.out).mono ?_
  rintro e w7 ⟨q, rfl, hq, hb7⟩
  have HB7 := Lib.hid (hb6'.trans (hb7.mono hb6'.size))
  have HQQ := Lib.hid hq
  clear hb7 hq hw6 hb6 hb6' HMR
  cases q with
  |false =>
   have hno : imgRun b zs steps = none := imgRun_bad HX.out (fun h => by have := HQQ.out.2 h.1; cases this)
   have HNN := Lib.hid hno
   clear hno HW HPW HQQ
   go_wp2_with (fail)
   first | go_ret | skip
   exact HQ.out _ _ (by rw [HNN.out]; rfl) HB7.out
  |true =>
   have HOK := Lib.hid (HQQ.out.1 rfl)
   clear HQQ
   go_wp2_with (fail)
   go_at_call 61
   refine (HW.out _).mono ?_
   rintro e _ ⟨rfl, rfl⟩
   have HV : Hid (pw = (imgRun b zs steps).isSome) := Lib.hid (by
    cases pw with
    |false =>
     rw [imgRun_bad HX.out (fun h => by
      have h2 : inR 0 200000 steps = true := inR_iff.2 h.2
      have := HPW.out; rw [h2] at this; cases this)]
     rfl
    |true =>
     have hst := inR_iff.1 HPW.out
     obtain ⟨T, hT⟩ : ∃ T : Nat, steps = T := ⟨steps.toNat, by omega⟩
     subst hT
     rw [imgRun_yes HX.out HOK.out (by omega)]
     rfl)
   clear HW HPW
   go_wp2_with (fail)
   first | go_ret | skip
   exact HQ.out _ _ HV.out HB7.out
/-- a run that goes, from its start -/
theorem istart_ok (w : World) (v : Value) (b : List Nat) (h : CsC w v b) (hle : b.length ≤ 1048576) (ib n cap : Nat) (zs : List Int) (hi : InSrc w ib 0 n cap zs) (steps : Int) (r : Rs) (hr : imgRun b zs steps = some r) :
  Calls Tryd.prog 72 #[v, .slice (some ⟨ib, 0, none⟩) n cap, .int .i64 steps] w (IStart r w) := by
 cases hri : readI b with
 |none => rw [imgRun_no hri] at hr; cases hr
 |some p =>
  obtain ⟨l, fs⟩ := p
  by_cases hc : RunsOk fs zs ∧ 0 ≤ steps ∧ steps ≤ 200000
  ·obtain ⟨T, hT⟩ : ∃ T : Nat, steps = T := ⟨steps.toNat, by omega⟩
   subst hT
   rw [imgRun_yes hri hc.1 (by omega)] at hr
   injection hr with hr
   subst hr
   obtain ⟨⟨a, cp0, rfl, hsm, hcc⟩, a2, cp, hv, hcap⟩ := h
   injection hv with e1 e2 e3
   subst e1 e3
   obtain ⟨h3, _⟩ := readI_tab hri
   obtain ⟨g, off, rfl, hcell⟩ := hcc 0 (by omega)
   have hlt := World.block_lt_of_cell? _ _ hcell
   have hv := hc.1.2.1
   have hpar : (imgPg b l).par (l.length - 1) ≤ n := by
    have h1 := (readI_par hri).2.2
    have h2 := hc.1.2.2
    have h3 := hi.len
    omega
   have hn3 : n ≤ 3 := by rw [← hi.len]; exact fits3 hc.1
   exact istart_any w g off b.length cp0 b l fs hri hle rfl ⟨⟨_, cp0, rfl, hsm, hcc⟩, _, cp0, rfl, hcap⟩ hlt ib 0 n cap (toNats zs) (hi.src hv) (valsOk_nats hv).1 hpar hn3 T (by omega)
  ·rw [imgRun_bad hri hc] at hr; cases hr
set_option maxHeartbeats 2000000 in
theorem specRunImage_any (w : World) (v : Value) (b : List Nat) (h : CsC w v b) (hle : b.length ≤ 1048576) (ib n cap : Nat) (zs : List Int) (hi : InSrc w ib 0 n cap zs) (steps : Int) :
  Calls Tryd.prog 46 #[v, .slice (some ⟨ib, 0, none⟩) n cap, .int .i64 steps] w (AnsRd (imgRun b zs steps) w) := by
 have HFT := Lib.hid (fun w' (hb : Below w.heap.size w w') => l27Fits_any w' v b (h.below hb) hle ib n cap zs (hi.below hb) steps)
 have HST := Lib.hid (fun w' (hb : Below w.heap.size w w') r hr => istart_ok w' v b (h.below hb) hle ib n cap zs (hi.below hb) steps r hr)
 have HOK := Lib.hid (fun r hr => imgRun_ok (b := b) (zs := zs) (steps := steps) (r := r) hr)
 obtain ⟨o, ho⟩ : ∃ o, o = imgRun b zs steps := ⟨_, rfl⟩
 unfold FitsP at HFT
 rw [← ho] at HFT HST HOK ⊢
 obtain ⟨ok, hok⟩ : ∃ ok, ok = o.isSome := ⟨_, rfl⟩
 rw [← hok] at HFT
 have HO := Lib.hid hok
 unfold AnsRd
 rw [← hok]
 clear h hi ho hok
 go_enter Tryd.func46, Tryd.ntmps46
 go_wp2_with (fail)
 go_at_call 71
 refine (HFT.out _ (below1 _ _)).mono ?_
 rintro e w5 ⟨q, rfl, rfl, hb⟩
 have hbO : Blk w5 w.heap.size [.slice none 0 0, .int .i64 0, .int .i64 0, .slice none 0 0] := (Blk.new w #[.slice none 0 0, .int .i64 0, .int .i64 0, .slice none 0 0] 31).below hb
 have hs5 : w.heap.size + 1 ≤ w5.heap.size := by have := hb.size; simpa using this
 have HB := Lib.hid ((below1 w (.cells #[.slice none 0 0, .int .i64 0, .int .i64 0, .slice none 0 0] 31)).trans (hb.mono (by simp)))
 have HBO := Lib.hid hbO
 clear hb hbO HFT
 cases q with
 |false =>
  obtain ⟨t0, t1, t2, t3⟩ := blkc4 HBO.out
  have f0 := HBO.out.frozen 0
  have f1 := HBO.out.frozen 1
  have f2 := HBO.out.frozen 2
  have f3 := HBO.out.frozen 3
  clear HST HOK
  go_wp2_with (fail)
  refine bodyPost_ret (v := .tuple #[.agg #[.slice none 0 0, .int .i64 0, .int .i64 0, .slice none 0 0], .bool false]) (by simp [results, Tryd.results46, go_sem, t0, t1, t2, t3]) rfl ?_
  refine ⟨_, rfl, ?_, (((HB.out.setCell (p := ⟨w.heap.size, 0, none⟩) (by simp only []; omega) _).setCell (p := ⟨w.heap.size, 1, none⟩) (by simp only []; omega) _).setCell (p := ⟨w.heap.size, 2, none⟩) (by simp only []; omega) _).setCell (p := ⟨w.heap.size, 3, none⟩) (by simp only []; omega) _⟩
  have ho := HO.out
  cases o with
  |none => rfl
  |some r => cases ho
 |true =>
  obtain ⟨r, hr⟩ : ∃ r, o = some r := by
   have ho := HO.out
   cases o with
   |none => cases ho
   |some r => exact ⟨r, rfl⟩
  subst hr
  have HS5 := Lib.hid (HST.out w5 HB.out r rfl)
  have HR := Lib.hid (HOK.out r rfl).1
  clear HST HOK HO
  go_wp2_with (fail)
  go_at_call 72
  refine HS5.out.mono ?_
  rintro e w6 ⟨pq, pr, cb, sv, tv, bv, xv, rfl, hQ, hE, _, hb6⟩
  have hO6 := HBO.out.below hb6
  obtain ⟨t0, t1, t2, t3⟩ := blkc4 hO6
  have f0 := hO6.frozen 0
  have f1 := hO6.frozen 1
  have f2 := hO6.frozen 2
  have f3 := hO6.frozen 3
  have q2 : w6.cell? ⟨pq, 2, none⟩ = some (.pointer (some ⟨pr, 0, none⟩)) := by rw [hQ.cell]; rfl
  obtain ⟨x1, x2, x3, x4, _⟩ := endCells hE
  obtain ⟨sa, sc, hform⟩ := saidForm hE.2.2.1
  obtain ⟨sn, hsn⟩ : ∃ sn, sn = r.cm.said.length := ⟨_, rfl⟩
  rw [← hsn] at hform
  subst hform
  have HE := Lib.hid hE
  have HB6 := Lib.hid (HB.out.trans (hb6.mono HB.out.size))
  have hlt := hO6.lt
  have H16 := Lib.hid HR.out.cells
  clear hE hb6 HS5 hsn hQ hO6
  go_wp2_with (fail)
  refine bodyPost_ret (v := .tuple #[.agg #[.slice sa sn sc, .int .i64 (r.en : Int), .int .i64 (r.val : Int), .slice (some ⟨cb, 0, none⟩) 16 16], .bool true]) (by simp [results, Tryd.results46, go_sem, t0, t1, t2, t3]) rfl ?_
  have hh : ∀ k, w5.heap.size ≤ k → k < w6.heap.size → ((((w6.setCell ⟨w.heap.size, 0, none⟩ (.slice sa sn sc)).setCell ⟨w.heap.size, 1, none⟩ (.int .i64 (r.en : Int))).setCell ⟨w.heap.size, 2, none⟩ (.int .i64 (r.val : Int))).setCell ⟨w.heap.size, 3, none⟩ (.slice (some ⟨cb, 0, none⟩) 16 16)).heap[k]? = w6.heap[k]? := fun k h1 h2 => by
   have e1 : k ≠ w.heap.size := by omega
   rw [Below.heap_setCell _ _ _ _ e1, Below.heap_setCell _ _ _ _ e1, Below.heap_setCell _ _ _ _ e1, Below.heap_setCell _ _ _ _ e1]
  have hE' := HE.out.keep hh
  have h16 := H16.out
  have hci := hE'.2.1.ints (cap := 16)
  rw [h16] at hci
  exact ⟨_, rfl, ⟨sa, sn, sc, some ⟨cb, 0, none⟩, 16, rfl, hE'.2.2.1.ints, hci, h16⟩, (((HB6.out.setCell (p := ⟨w.heap.size, 0, none⟩) (by simp only []; omega) _).setCell (p := ⟨w.heap.size, 1, none⟩) (by simp only []; omega) _).setCell (p := ⟨w.heap.size, 2, none⟩) (by simp only []; omega) _).setCell (p := ⟨w.heap.size, 3, none⟩) (by simp only []; omega) _⟩
def TrRd (o : Option Rs) (w : World) (e : Ending) (w' : World) : Prop := ∃ v, e = .returned v ∧ IntsAt w' v (toInts0 (trOf o)) ∧ Below w.heap.size w w'
set_option maxHeartbeats 2000000 in
theorem specImageTrace_any (w : World) (v : Value) (b : List Nat) (h : CsC w v b) (hle : b.length ≤ 1048576) (ib n cap : Nat) (zs : List Int) (hi : InSrc w ib 0 n cap zs) (steps : Int) :
  Calls Tryd.prog 43 #[v, .slice (some ⟨ib, 0, none⟩) n cap, .int .i64 steps] w (TrRd (imgRun b zs steps) w) := by
 have HFT := Lib.hid (fun w' (hb : Below w.heap.size w w') => l27Fits_any w' v b (h.below hb) hle ib n cap zs (hi.below hb) steps)
 have HST := Lib.hid (fun w' (hb : Below w.heap.size w w') r hr => istart_ok w' v b (h.below hb) hle ib n cap zs (hi.below hb) steps r hr)
 have HOK := Lib.hid (fun r hr => imgRun_ok (b := b) (zs := zs) (steps := steps) (r := r) hr)
 obtain ⟨i0, hi0, hz0, hz1, hz2⟩ := info_parts info_int
 obtain ⟨o, ho⟩ : ∃ o, o = imgRun b zs steps := ⟨_, rfl⟩
 unfold FitsP at HFT
 rw [← ho] at HFT HST HOK ⊢
 obtain ⟨ok, hok⟩ : ∃ ok, ok = o.isSome := ⟨_, rfl⟩
 rw [← hok] at HFT
 have HO := Lib.hid hok
 unfold TrRd
 clear h hi ho hok
 go_enter Tryd.func43, Tryd.ntmps43
 go_wp2_with (fail)
 go_at_call 71
 refine (HFT.out _ (Below.refl _ _)).mono ?_
 rintro e w5 ⟨q, rfl, rfl, hb⟩
 have HB := Lib.hid hb
 have hs := hb.size
 clear hb HFT
 cases q with
 |false =>
  clear HST HOK
  go_wp2_with (fail)
  first | go_ret | skip
  refine ⟨_, rfl, ?_, HB.out.alloc hs _⟩
  have ho := HO.out
  cases o with
  |none => exact ⟨_, 0, rfl, fun i hi => by simp [toInts0, trOf] at hi⟩
  |some r => cases ho
 |true =>
  obtain ⟨r, hr⟩ : ∃ r, o = some r := by
   have ho := HO.out
   cases o with
   |none => cases ho
   |some r => exact ⟨r, rfl⟩
  subst hr
  have hbe := below1 w5 (.cells #[] 3)
  have HS5 := Lib.hid (HST.out (w5.alloc (.cells #[] 3)) (HB.out.alloc hs _) r rfl)
  have HR := Lib.hid (HOK.out r rfl).2.2
  clear HST HOK HO
  go_wp2_with (fail)
  go_at_call 72
  refine HS5.out.mono ?_
  rintro e w6 ⟨pq, pr, cb, sv, tv, bv, xv, rfl, hQ, hE, hT, hb6⟩
  have q3 : w6.cell? ⟨pq, 3, none⟩ = some tv := by rw [hQ.cell]; rfl
  have HO6 := Lib.hid (ownsRow_below (own_empty (X := w5) (B := w5.heap.size) rfl (Nat.le_refl _)) hb6)
  have HB6 := Lib.hid (((HB.out.alloc hs (.cells #[] 3)).trans (hb6.mono (by simp; omega))))
  have hsz6 : w5.heap.size + 1 ≤ w6.heap.size := by have := hb6.size; simpa using this
  obtain ⟨tr, htr⟩ : ∃ tr, tr = r.cm.trace := ⟨_, rfl⟩
  obtain ⟨tn, htn⟩ : ∃ tn, tn = tr.length := ⟨_, rfl⟩
  have h5 : tn ≤ 500 := by have := HR.out; rw [htn, htr]; exact this
  have hT' := hT
  unfold Said at hT'
  rw [← htr, ← htn] at hT'
  have HTR := Lib.hid htr
  have HTN := Lib.hid htn
  clear hQ hE hT hb6 HS5 HR htr htn
  rcases hT'.2 with ⟨rfl, h0⟩ | ⟨g, cap, cur, rfl, _⟩
  ·have HN0 : Hid (tr = []) := Lib.hid (List.eq_nil_of_length_eq_zero (by rw [← HTN.out]; simpa using h0))
   clear hT' h0
   go_wp2_with (first | (at_builtin; refine wpList_append_own_none rfl _ _ 26 (by rfl) w5.heap.size 3 i0 1 Tryd.underlying26 hi0 _ 0 [] (by rfl) HO6.out (by rfl) ?_) | fail)
   first | go_ret | skip
   refine ⟨_, rfl, ?_, HB6.out⟩
   have e : trOf (some r) = [] := by show r.cm.trace = []; rw [← HTR.out, HN0.out]
   rw [e]
   exact ⟨_, 0, rfl, fun i hi => by simp [toInts0] at hi⟩
  ·have HT := Lib.hid hT'
   clear hT'
   go_wp2_with (first | (at_builtin; refine wpList_append_own _ rfl _ _ 26 (by rfl) w5.heap.size 3 i0 (.int .i64 0) 1 8 Tryd.underlying26 hi0 hz0 hz1 hz2 rfl (by decide) _ 0 [] (by rfl) HO6.out ⟨g, 0, none⟩ tn cap (nats tr) (by rfl) (by rw [nats_len, HTN.out, Nat.mul_one]) (by
     intro j u hu
     have hj : j < tr.length := by
      rcases Nat.lt_or_ge j tr.length with h | h
      ·exact h
      ·rw [List.getElem?_eq_none (by rw [nats_len]; exact h)] at hu; cases hu
     have := World.ownsRow.cellAt HT.out j (by rw [HTN.out]; omega)
     rw [Arg.add_eq, Nat.zero_add, this, hu]) (by intro u hu; obtain ⟨x, _, rfl⟩ := List.mem_map.1 hu; rfl) (by unfold maxLen; omega) (by omega) (by omega) ?_; intro v7 w7 ho7 hg7 _; rw [Nat.zero_add, List.nil_append] at ho7; have HO7 := Lib.hid ho7; have HB7 := Lib.hid (HB6.out.grown hg7 (by omega) (fun q hq => by simp [Value.ownBlock] at hq; omega)); clear ho7 hg7) | fail)
   first | go_ret | skip
   refine ⟨_, rfl, ?_, HB7.out⟩
   have h7 : Said w7 w5.heap.size v7 (trOf (some r)) := by
    show Said w7 w5.heap.size v7 r.cm.trace
    rw [← HTR.out]; unfold Said; rw [← HTN.out]; exact HO7.out
   exact h7.ints
end Go.Proofs.YtbdbmmdnidonjaaDoor
