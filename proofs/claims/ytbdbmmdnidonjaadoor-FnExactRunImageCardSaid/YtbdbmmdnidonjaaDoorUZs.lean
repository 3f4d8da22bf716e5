/- spec's run of an image from its start: l27Start. -/
import Derived.Test.YtbdbmmdnidonjaaDoorUZc
import Derived.Test.YtbdbmmdnidonjaaDoorUZi
import Derived.Test.YtbdbmmdnidonjaaDoorUJm
set_option linter.unusedVariables false
set_option linter.unusedSimpArgs false
set_option maxRecDepth 100000
namespace Go.Proofs.YtbdbmmdnidonjaaDoor
open Go.RowKit
def RunNewI (B : Nat) (bv : Value) (T : Nat) (l : List Sec) (wf : World) (a : Value) (wx : World) : Prop :=
 ∃ pq pr cb tb tc gs sv, a = Value.pointer (some ⟨pq, 0, none⟩) ∧ ImAt B wx pq pr cb bv (.slice (some ⟨tb, 0, none⟩) l.length tc) none (cm0 T) sv (.slice none 0 0) [] ∧ TabG B wx (.slice (some ⟨tb, 0, none⟩) l.length tc) ((secRows l).map ints) gs ∧
  (∀ q, (q = tb ∨ q ∈ gs) → q ∉ [pq, pr, cb] ∧ sv.ownBlock ≠ some q) ∧ Below wf.heap.size wf wx
/-- a table whose blocks lie between two marks -/
theorem TabG.at {B : Nat} {w : World} {v : Value} {l : List Sec} {gs : List Nat} (h : TabG B w v ((secRows l).map ints) gs) (h1 : 1 ≤ l.length) : ∃ tb tc, v = .slice (some ⟨tb, 0, none⟩) l.length tc ∧ B ≤ tb ∧ tb < w.heap.size ∧ ∀ q ∈ gs, B ≤ q ∧ q < w.heap.size := by
 have hr := h.row
 rw [List.length_map, secRows_len] at hr
 have hin : ∀ q ∈ gs, B ≤ q ∧ q < w.heap.size := fun q hq => by
  obtain ⟨i, hi⟩ := List.getElem?_of_mem hq
  have hl := h.len
  obtain ⟨r, hr⟩ : ∃ r, ((secRows l).map ints)[i]? = some r := ⟨_, List.getElem?_eq_getElem (by rw [← hl]; exact idx_lt hi)⟩
  exact World.ownsRow.lt (h.inner i q r hi hr) q rfl
 rcases hr.2 with ⟨_, h0⟩ | ⟨g, cap, cur, rfl, _⟩
 ·have hl := h.len
  rw [List.length_map, secRows_len] at hl
  have : gs.length = 0 := by rw [hl]; simpa using h0
  omega
 ·have := World.ownsRow.lt hr g rfl
  exact ⟨g, cap, rfl, this.1, this.2, hin⟩
theorem TabG.below {B : Nat} {w w' : World} {v : Value} {rows : List (List Value)} {gs : List Nat} (h : TabG B w v rows gs) (hb : Below w.heap.size w w') : TabG B w' v rows gs := by
 obtain ⟨h1, h2, h3, h4, h5⟩ := h
 exact ⟨h1, ownsRow_below h2 hb, h3, h4, fun i g r hg hr => ownsRow_below (h5 i g r hg hr) hb⟩
theorem TabG.mono {B B' : Nat} {w : World} {v : Value} {rows : List (List Value)} {gs : List Nat} (h : TabG B w v rows gs) (hB : B' ≤ B) : TabG B' w v rows gs := by
 obtain ⟨h1, h2, h3, h4, h5⟩ := h
 exact ⟨h1, ownsRow_mono h2 hB, h3, h4, fun i g r hg hr => ownsRow_mono (h5 i g r hg hr) hB⟩
/-- the table as it was made: between lo and hi -/
def TabNew (B lo hi : Nat) (w : World) (tb tc : Nat) (l : List Sec) : Prop :=
 ∃ gs, TabG B w (.slice (some ⟨tb, 0, none⟩) l.length tc) ((secRows l).map ints) gs ∧ (lo ≤ tb ∧ tb < hi) ∧ (∀ q ∈ gs, lo ≤ q ∧ q < hi) ∧ B ≤ lo
theorem TabNew.below {B lo hi : Nat} {w w' : World} {tb tc : Nat} {l : List Sec} (h : TabNew B lo hi w tb tc l) (hb : Below w.heap.size w w') : TabNew B lo hi w' tb tc l := by
 obtain ⟨gs, h1, h2⟩ := h
 exact ⟨gs, h1.below hb, h2⟩
theorem tabNew_of {B : Nat} {l : List Sec} {w w' : World} {v : Value} (h : TabV w.heap.size w' v ((secRows l).map ints)) (h1 : 1 ≤ l.length) (hB : B ≤ w.heap.size) : ∃ tb tc, v = .slice (some ⟨tb, 0, none⟩) l.length tc ∧ TabNew B w.heap.size w'.heap.size w' tb tc l := by
 obtain ⟨gs, hg⟩ := h
 obtain ⟨tb, tc, rfl, a1, a2, a3⟩ := hg.at h1
 exact ⟨tb, tc, rfl, gs, hg.mono hB, ⟨a1, a2⟩, a3, hB⟩
theorem blk7 {X : World} {p : Nat} {a b c d e f g : Value} {t : TypeId} (h : p = X.heap.size) : Blk (X.alloc (.cells #[a, b, c, d, e, f, g] t)) p [a, b, c, d, e, f, g] := Blk.newAt h rfl
theorem blk16 {X : World} {p : Nat} {t : TypeId} (h : p = X.heap.size) : Blk (X.alloc (.cells (madeCells #[.int .i64 0] 16) t)) p (nats (List.replicate 16 0)) := Blk.newAt h (made_nats 16)
theorem runNewI_of {B T lo hi : Nat} {bv : Value} {l : List Sec} {wf X : World} {q0 q1 q2 q3 tb tc ln : Nat} {t : TypeId} (hln : ln = l.length) (hB : B ≤ wf.heap.size) (h0 : q0 = X.heap.size) (hb : Below wf.heap.size wf X) (h1 : X.ownsRow B 3 1 (.slice (some ⟨q1, 0, none⟩) 0 0) 0 []) (h2 : Blk X q2 (nats (List.replicate 16 0)))
  (h3 : Blk X q3 [.slice none 0 0, .slice (some ⟨q1, 0, none⟩) 0 0, .int .i64 0, .int .i64 0, .slice (some ⟨q2, 0, none⟩) 16 16, .int .i64 (T : Int), .bool false]) (h4 : TabNew B lo hi X tb tc l) (g2 : B ≤ q2) (g3 : B ≤ q3) (d : q1 ≠ q2 ∧ q1 ≠ q3 ∧ q2 ≠ q3)
  (b1 : q1 < lo ∨ hi ≤ q1) (b2 : q2 < lo ∨ hi ≤ q2) (b3 : q3 < lo ∨ hi ≤ q3) (bh : hi ≤ X.heap.size) :
  RunNewI B bv T l wf (Value.pointer (some ⟨q0, 0, none⟩)) (X.alloc (.cells #[bv, .slice (some ⟨tb, 0, none⟩) ln tc, .pointer (some ⟨q3, 0, none⟩), .slice none 0 0] t)) := by
 subst hln
 have l1 := (World.ownsRow.lt h1 q1 rfl).2
 have l2 := h2.lt
 have l3 := h3.lt
 have hsz := hb.size
 obtain ⟨gs, hg, ht, hgs, hlo⟩ := h4
 have hbx := below1 X (.cells #[bv, .slice (some ⟨tb, 0, none⟩) l.length tc, .pointer (some ⟨q3, 0, none⟩), .slice none 0 0] t)
 have hBx : B ≤ X.heap.size := by omega
 refine ⟨q0, q3, q2, tb, tc, gs, .slice (some ⟨q1, 0, none⟩) 0 0, rfl, ⟨⟨h3.below hbx, h2.below hbx, Said.below (xs := []) h1 hbx, by omega, ?_, ?_, g3, g2⟩, Blk.newAt h0 rfl, World.ownsRow_nil _ _ _ _, by omega, by omega, ?_, by simp [Value.ownBlock], by simp [Value.ownBlock], by simp [Value.ownBlock], fun k _ e => by simp [Value.ownBlock] at e, by omega⟩, hg.below hbx, ?_, hb.alloc hsz _⟩
 ·simp only [Value.ownBlock, ne_eq, Option.some.injEq]; omega
 ·simp only [Value.ownBlock, ne_eq, Option.some.injEq]; omega
 ·simp only [Value.ownBlock, ne_eq, Option.some.injEq]; omega
 ·intro q hq
  have hq2 : lo ≤ q ∧ q < hi := by
   rcases hq with rfl | hq
   ·exact ht
   ·exact hgs q hq
  refine ⟨?_, ?_⟩
  ·simp; omega
  ·simp only [Value.ownBlock, ne_eq, Option.some.injEq]; omega
def IStart (r : Rs) (w : World) (e : Ending) (w' : World) : Prop :=
 ∃ pq pr cb sv tv bv xv, e = .returned (.pointer (some ⟨pq, 0, none⟩)) ∧ Blk w' pq [bv, xv, .pointer (some ⟨pr, 0, none⟩), tv] ∧ Ended w.heap.size w' (.slice none 0 0) r pr cb sv ∧ Said w' w.heap.size tv r.cm.trace ∧ Below w.heap.size w w'
theorem ImAt.belowOf {B pq pr cb : Nat} {w w' w0 : World} {sv sv' tv tv' : Value} (hb : Below B w0 w) (hB : B ≤ w.heap.size) (h1 : B ≤ pq) (h2 : B ≤ pr) (h3 : B ≤ cb) (hs : ∀ k, sv.ownBlock = some k → B ≤ k) (ht : ∀ k, tv.ownBlock = some k → B ≤ k) (hf : Fr2 [pq, pr, cb] sv tv w sv' tv' w') : Below B w0 w' :=
 hb.trans ⟨hf.os, hf.tape, hf.output, hf.size, fun k hk => hf.block k (by omega) (by simp; omega) (fun e => by have := hs k e; omega) (fun e => by have := ht k e; omega)⟩
set_option maxHeartbeats 8000000 in
theorem istart_any (w : World) (bb bo bn bcap : Nat) (b : List Nat) (l : List Sec) (fs : List Mf) (hr : readI b = some (l, fs)) (hbl : b.length ≤ 1048576) (hbn : bn = b.length) (hcs : CsC w (.slice (some ⟨bb, bo, none⟩) bn bcap) b) (hbb : bb < w.heap.size)
  (ib off n cap : Nat) (inp : List Nat) (hsrc : SrcAt w ib off n cap inp) (hin : Small inp) (hpar : (imgPg b l).par (l.length - 1) ≤ n) (hn3 : n ≤ 3) (T : Nat) (hT : T ≤ 200000) :
  Calls Tryd.prog 72 #[.slice (some ⟨bb, bo, none⟩) bn bcap, .slice (some ⟨ib, off, none⟩) n cap, .int .i64 (T : Int)] w (IStart (runOf (imgPg b l) (l.length - 1) inp T) w) := by
 obtain ⟨hP, _⟩ := imgPg_ok hr
 obtain ⟨_, h1, _⟩ := readI_par hr
 have hok := loop_ok hP (T + 1) (l.length - 1) 0 (newLc (imgPg b l) (l.length - 1) inp) (cm0 T) (by omega) (hP.start _ (by omega)) (newLc_ok _ _ _ (by rw [hsrc.len]; exact hpar) hin) (cm0_ok T)
 have hll : l.length ≤ 1048576 := by
  have h2 := (readI_le hr).1.1
  have := (readI_par hr).1; omega
 obtain ⟨ht3, hts⟩ := readI_tab hr
 have HTB : Hid (∀ w', Below w.heap.size w w' → Calls Tryd.prog 67 #[.slice (some ⟨bb, bo, none⟩) bn bcap] w' (TabP b l w')) := Lib.hid fun w' hb => table_any w' _ b l (hcs.below hb) hbl ht3 hts
 have HCALL : Hid (∀ w' pq pr cb tb tc gs sv, Below w.heap.size w w' → ImAt w.heap.size w' pq pr cb (.slice (some ⟨bb, bo, none⟩) bn bcap) (.slice (some ⟨tb, 0, none⟩) l.length tc) none (cm0 T) sv (.slice none 0 0) [] → TabG w.heap.size w' (.slice (some ⟨tb, 0, none⟩) l.length tc) ((secRows l).map ints) gs → (∀ q, (q = tb ∨ q ∈ gs) → q ∉ [pq, pr, cb] ∧ sv.ownBlock ≠ some q) →
   Calls Tryd.prog 93 #[.pointer (some ⟨pq, 0, none⟩), .int .i64 ((l.length - 1 : Nat) : Int), .slice (some ⟨ib, off, none⟩) n cap] w' (ImPost w.heap.size pq pr cb (.slice (some ⟨bb, bo, none⟩) bn bcap) (.slice (some ⟨tb, 0, none⟩) l.length tc) sv (.slice none 0 0) (runOf (imgPg b l) (l.length - 1) inp T) w')) :=
  Lib.hid fun w' pq pr cb tb tc gs sv hb hI hg hq => by
   refine icall_any w' w.heap.size w.heap.size pq pr cb bb bo bcap tb tc bn l.length b l fs gs hr hbl hbn rfl hll (hcs.below hb) hg (T + 1) w' T (cm0 T) sv (.slice none 0 0) (l.length - 1) ib off n cap inp (by show T < T + 1; omega) (by omega) ?_ hI (cm0_ok T) (hsrc.below hb) hin hpar hn3 (by show 0 + T ≤ T; omega) (by omega) (by show 0 ≤ 500; omega)
   obtain ⟨tb', tc', he, a1, a2, a3⟩ := hg.at h1
   injection he with he _ _; injection he with he; injection he with he _ _
   subst he
   have e1 := hI.gq; have e2 := hI.run.gp; have e3 := hI.run.gc
   have hsz := hb.size
   refine ⟨fun q hq' => ?_, fun _ _ => rfl, fun q hq' => ?_, fun q hq' => ?_, fun q _ => by simp [Value.ownBlock]⟩
   ·rcases hq' with rfl | rfl | h
    ·omega
    ·exact a2
    ·exact (a3 q h).2
   ·rcases hq' with rfl | h
    ·simp; omega
    ·exact (hq q h).1
   ·rcases hq' with rfl | h
    ·intro e; have := (hI.run.said.lt e).1; omega
    ·exact (hq q h).2
 generalize hrr : runOf (imgPg b l) (l.length - 1) inp T = r at *
 obtain ⟨ln, hln⟩ : ∃ ln, ln = l.length := ⟨_, rfl⟩
 have hnn : (ln : Int) - 1 = ((l.length - 1 : Nat) : Int) := by omega
 have HLN := Lib.hid hln; have HNN := Lib.hid hnn; have HL1 := Lib.hid h1
 have hll2 : ln ≤ 1048576 := by omega
 obtain ⟨i0, hi, hz0, hz1, hz2⟩ := info_parts info_int
 have hmk16 : ∀ w : World, (Instr.makeSlice 26 (.int .i64 16) (.int .i64 16)).run Tryd.prog w = .ok (.slice (some ⟨w.heap.size, 0, none⟩) 16 16) (w.alloc (.cells (madeCells (Value.int .i64 0).cells 16) 3)) := fun w => by
  have h := run_make (P := Tryd.prog) w 26 3 i0 (.int .i64 0) Tryd.underlying26 hi hz0 .i64 .i64 ((16 : Nat) : Int) ((16 : Nat) : Int) (by omega) (by omega) (by rw [hz2]; omega) (by omega)
  rw [hz1, Nat.mul_one] at h
  simpa using h
 clear hr hbl hbn hcs hbb hsrc hin hpar hP hok hrr hi hz0 hz1 hz2 ht3 hts hll hn3 hln hnn h1
 go_enter Tryd.func72, Tryd.ntmps72
 go_upto_region 1 with (fail)
 go_cut [7] from 9 to 19 (fun a wx => RunNewI w.heap.size (.slice (some ⟨bb, bo, none⟩) bn bcap) T l w a wx)
 case first =>
  clear HCALL HNN hll2 hT
  go_region_held3 (fun _ => True) (first | trivial) (first | (go_at_call 67; refine (HTB.out _ (by (repeat' (first | exact Below.refl _ _ | assumption | (refine Below.setCell ?_ ?_ _) | (refine Below.alloc ?_ ?_ _) | (refine belowDrewN ?_ _) | omega | (simp; done) | (simp; omega))))).mono ?_; rintro e wt ⟨xv, rfl, htab, hbt⟩; obtain ⟨tb, tc, rfl, htn⟩ := tabNew_of (B := w.heap.size) htab HL1.out (by first | (simp; done) | (simp; omega)); have hwt : Below w.heap.size w wt := Below.trans (by (repeat' (first | exact Below.refl _ _ | assumption | (refine Below.setCell ?_ ?_ _) | (refine Below.alloc ?_ ?_ _) | (refine belowDrewN ?_ _) | omega | (simp; done) | (simp; omega)))) (hbt.mono (by first | (simp; done) | (simp; omega))); have hszt := hbt.size; clear htab))
  all_goals go_wp2_with (fail)
  all_goals go_meet
  all_goals try simp only [World.heap_size_alloc, World.heap_size_drew, World.size_alloc, World.size_drew] at hszt
  all_goals
   refine runNewI_of (q1 := ?_) (q2 := ?_) rfl ?_ ?_ ?_ ?_ ?_ ?_ (TabNew.below htn ?_) ?_ ?_ ?_ ?_ ?_ ?_ ?_
   rotate_left 7
   focus repeat (first | (with_reducible refine blk7 ?_; first | omega | (simp; done) | (simp; omega)) | with_reducible refine Blk.alloc ?_ _ | with_reducible refine Blk.below ?_ hbt | with_reducible refine Blk.drew ?_)
  all_goals first
   |omega
   |(simp; done)
   |(simp at hszt ⊢; omega)
   |(simp at hszt ⊢; done)
   |((repeat' (first | exact hwt | (refine Below.alloc ?_ ?_ _) | exact Below.refl _ _ | (simp at hszt ⊢; omega) | (simp at hszt ⊢; done))); done)
   |((repeat (first | (with_reducible refine blk16 ?_; first | omega | (simp; done) | (simp; omega)) | with_reducible refine Blk.alloc ?_ _ | with_reducible refine Blk.below ?_ hbt | with_reducible refine Blk.drew ?_)); done)
   |((repeat (first | exact own_empty (by first | omega | (simp; done) | (simp; omega)) (by first | omega | (simp; done) | (simp at hszt ⊢; omega)) | refine World.ownsRow.alloc ?_ _ | refine ownsRow_below ?_ hbt | refine ownsRow_drew ?_)); done)
   |skip
 case rest =>
  obtain ⟨pq, pr, cb, tb, tc, gs, sv, rfl, hI, hg, hq, hbx⟩ := hcut
  obtain ⟨_, m1, _, _, _⟩ := imCells hI
  have hcl := HCALL.out wc pq pr cb tb tc gs sv hbx hI hg hq
  have hnn : (ln : Int) - 1 = ((ln - 1 : Nat) : Int) := by have := HLN.out; have := HL1.out; omega
  rw [← HLN.out] at m1 hcl
  rw [← hnn] at hcl
  have HCL := Lib.hid hcl
  have HI := Lib.hid hI
  have HBX := Lib.hid hbx
  clear hcl hI hg hq hbx HCALL hnn HNN hmk16 HTB
  go_wp2_with (fail)
  go_at_call 93
  refine HCL.out.mono ?_
  rintro e w2 ⟨sv2, tv2, rfl, hI2, hF⟩
  have hb2 : Below w.heap.size w w2 := ImAt.belowOf HBX.out HBX.out.size HI.out.gq HI.out.run.gp HI.out.run.gc (fun k hk => (HI.out.run.said.lt hk).1) (fun k hk => (HI.out.tr.lt hk).1) hF
  have HB2 := Lib.hid hb2
  obtain ⟨_, _, n2, _, _⟩ := imCells hI2
  clear hF hb2 HCL m1
  cases r with
  |ret v s2 =>
   obtain ⟨_, _, _, c3, _, _, c6, cf⟩ := runCells hI2.run
   have f3 := cf 3
   simp only [Rs.eno, Option.isSome_none] at c6
   have HI2 := Lib.hid hI2
   clear hI2 cf
   go_wp2_with (fail)
   first | go_ret | skip
   have hI2 := HI2.out
   have hR2 := hI2.run
   exact ⟨pq, pr, cb, sv2, tv2, _, _, rfl, hI2.blk.other hI2.q1 _, ⟨hR2.blk.set 3 _, hR2.cells.other (fun e => hR2.ne e.symm) _, hR2.said.set hR2.sp _, hR2.gp, hR2.gc, hR2.ne⟩, hI2.tr.set hI2.q5 _, HB2.out.setCell (p := ⟨pr, 3, none⟩) hR2.gp _⟩
  |stop en s2 =>
   obtain ⟨_, _, _, _, _, _, c6, _⟩ := runCells hI2.run
   simp only [Rs.eno, Option.isSome_some] at c6
   have HI2 := Lib.hid hI2
   clear hI2
   go_wp2_with (fail)
   first | go_ret | skip
   have hI2 := HI2.out
   have hR2 := hI2.run
   exact ⟨pq, pr, cb, sv2, tv2, _, _, rfl, hI2.blk, ⟨hR2.blk, hR2.cells, hR2.said, hR2.gp, hR2.gc, hR2.ne⟩, hI2.tr, HB2.out⟩
end Go.Proofs.YtbdbmmdnidonjaaDoor
