/- A run of an image: impl's runImage, RunImage and ImageTrace. -/
import Derived.Test.YtbdbmmdnidonjaaDoorUZo
import Derived.Test.YtbdbmmdnidonjaaDoorUIs
import Derived.Test.YtbdbmmdnidonjaaDoorUTu
set_option linter.unusedVariables false
set_option linter.unusedSimpArgs false
set_option maxRecDepth 100000
namespace Go.Proofs.YtbdbmmdnidonjaaDoor
open Go.RowKit
theorem readI_par {b : List Nat} {l : List Sec} {fs : List Mf} (hr : readI b = some (l, fs)) : fs.length = l.length ∧ 1 ≤ l.length ∧ ((imgPg b l).par (l.length - 1) : Int) = (mfAt fs (fs.length - 1)).params := by
 obtain ⟨_, hi, hm⟩ := readI_some hr
 obtain ⟨hsec, hlen, hdec⟩ := imF_sec hi
 have h1 := hm.1.1
 have hk : l.length - 1 < l.length := by omega
 obtain ⟨f, h2, h3⟩ := hdec (l.length - 1) (secD l (l.length - 1)) (by simp [secD, List.getD_eq_getElem?_getD, hk])
 have hp := (decR_some h3).1
 refine ⟨hlen, by omega, ?_⟩
 have e : mfAt fs (fs.length - 1) = f := by unfold mfAt; rw [hlen, h2]; rfl
 rw [e, hp]; rfl
open Classical in
/-- what a run of an image answers: nothing if it cannot be run so -/
noncomputable def imgRun (b : List Nat) (zs : List Int) (steps : Int) : Option Rs :=
 match readI b with
 |none => none
 |some r => if RunsOk r.2 zs ∧ 0 ≤ steps ∧ steps ≤ 200000 then some (runOf (imgPg b r.1) (r.1.length - 1) (toNats zs) steps.toNat) else none
theorem imgRun_no {b : List Nat} {zs : List Int} {steps : Int} (h : readI b = none) : imgRun b zs steps = none := by unfold imgRun; rw [h]
theorem imgRun_bad {b : List Nat} {l : List Sec} {fs : List Mf} {zs : List Int} {steps : Int} (h : readI b = some (l, fs)) (hn : ¬ (RunsOk fs zs ∧ 0 ≤ steps ∧ steps ≤ 200000)) : imgRun b zs steps = none := by
 unfold imgRun; rw [h]; exact if_neg hn
theorem imgRun_yes {b : List Nat} {l : List Sec} {fs : List Mf} {zs : List Int} {T : Nat} (h : readI b = some (l, fs)) (hn : RunsOk fs zs) (hT : T ≤ 200000) : imgRun b zs (T : Int) = some (runOf (imgPg b l) (l.length - 1) (toNats zs) T) := by
 unfold imgRun; rw [h]
 refine (if_pos ⟨hn, by omega, by omega⟩).trans ?_
 rw [Int.toNat_natCast]
/-- what is known of a run that goes -/
theorem imgRun_ok {b : List Nat} {zs : List Int} {steps : Int} {r : Rs} (h : imgRun b zs steps = some r) : CmOk r.cm ∧ r.cm.said.length ≤ 200000 ∧ r.cm.trace.length ≤ 500 := by
 unfold imgRun at h
 cases hr : readI b with
 |none => rw [hr] at h; cases h
 |some p =>
  obtain ⟨l, fs⟩ := p
  rw [hr] at h
  simp only [] at h
  split at h
  ·rename_i hc
   injection h with h
   subst h
   obtain ⟨hok, h0, h2⟩ := hc
   obtain ⟨hP, _⟩ := imgPg_ok hr
   obtain ⟨_, h1, hpar⟩ := readI_par hr
   obtain ⟨_, hv, hp⟩ := hok
   have hpl : (imgPg b l).par (l.length - 1) ≤ (toNats zs).length := by
    have : ((imgPg b l).par (l.length - 1) : Int) = zs.length := by rw [hpar, hp]
    simp [toNats]; omega
   have hlo := loop_ok hP (steps.toNat + 1) (l.length - 1) 0 (newLc (imgPg b l) (l.length - 1) (toNats zs)) (cm0 steps.toNat) (by omega) (hP.start _ (by omega)) (newLc_ok _ _ _ hpl (valsOk_nats hv).1) (cm0_ok _)
   have hsd := loop_said (P := imgPg b l) (steps.toNat + 1) (l.length - 1) 0 (newLc (imgPg b l) (l.length - 1) (toNats zs)) (cm0 steps.toNat)
   have htr := loop_trace (P := imgPg b l) (steps.toNat + 1) (l.length - 1) 0 (newLc (imgPg b l) (l.length - 1) (toNats zs)) (cm0 steps.toNat) (by show 0 ≤ 500; omega)
   have e : (cm0 steps.toNat).said.length + (cm0 steps.toNat).left = steps.toNat := by show 0 + steps.toNat = _; omega
   rw [e] at hsd
   exact ⟨hlo.1, by unfold runOf; omega, htr⟩
  ·cases h
theorem blkc1 {w : World} {p : Nat} {a : Value} (h : Blk w p [a]) : w.cell? ⟨p, 0, none⟩ = some a := by rw [h.cell]; rfl
theorem blkc4 {w : World} {p : Nat} {a b c d : Value} (h : Blk w p [a, b, c, d]) : w.cell? ⟨p, 0, none⟩ = some a ∧ w.cell? ⟨p, 1, none⟩ = some b ∧ w.cell? ⟨p, 2, none⟩ = some c ∧ w.cell? ⟨p, 3, none⟩ = some d := by
 refine ⟨?_, ?_, ?_, ?_⟩
 all_goals rw [h.cell]; rfl
def IrPost (o : Option Rs) (w : World) (e : Ending) (w' : World) : Prop :=
 ∃ v mp, e = .returned (.tuple #[v, mp, .bool o.isSome]) ∧ OutAt w' w.heap.size o v ∧ Below w.heap.size w w' ∧
  (match o with
   |none => mp = .pointer none
   |some r => ∃ pm tv, mp = .pointer (some ⟨pm, 0, none⟩) ∧ w'.cell? ⟨pm, 21, none⟩ = some tv ∧ Said w' w.heap.size tv r.cm.trace)
theorem mac_newI (w : World) (B T : Nat) (bv : Value) (t : TypeId) (hB : B ≤ w.heap.size) :
  MacAt B (w.alloc (.cells #[.int .i64 (T : Int), .int .i64 0, .slice none 0 0, .int .i64 0, .int .i64 0, .int .i64 0, .int .i64 0, .int .i64 0, .int .i64 0, .int .i64 0, .int .i64 0, .int .i64 0, .int .i64 0, .int .i64 0, .int .i64 0, .int .i64 0, .int .i64 0, .int .i64 0, .int .i64 0, bv, .slice none 0 0, .slice none 0 0] t)) w.heap.size [bv, .slice none 0 0, .slice none 0 0] T (cm0 T) (.slice none 0 0) := by
 refine ⟨?_, World.ownsRow_nil _ _ _ _, by simp [Value.ownBlock], Nat.le_refl _, hB⟩
 have h := Blk.new w #[.int .i64 (T : Int), .int .i64 0, .slice none 0 0, .int .i64 0, .int .i64 0, .int .i64 0, .int .i64 0, .int .i64 0, .int .i64 0, .int .i64 0, .int .i64 0, .int .i64 0, .int .i64 0, .int .i64 0, .int .i64 0, .int .i64 0, .int .i64 0, .int .i64 0, .int .i64 0, bv, .slice none 0 0, .slice none 0 0] t
 have e : mkMac T (T - (cm0 T).left) (.slice none 0 0) (cm0 T).cells [bv, .slice none 0 0, .slice none 0 0] = (#[.int .i64 (T : Int), .int .i64 0, .slice none 0 0, .int .i64 0, .int .i64 0, .int .i64 0, .int .i64 0, .int .i64 0, .int .i64 0, .int .i64 0, .int .i64 0, .int .i64 0, .int .i64 0, .int .i64 0, .int .i64 0, .int .i64 0, .int .i64 0, .int .i64 0, .int .i64 0, bv, .slice none 0 0, .slice none 0 0] : Array Value).toList := by
  show mkMac T (T - T) _ _ _ = _
  rw [Nat.sub_self]; rfl
 rw [e]; exact h
theorem mkMac_list {T u : Nat} {sv bv lv tv lv' : Value} {cells : List Nat} (hc : cells.length = 16) : (mkMac T u sv cells [bv, lv, tv]).set 20 lv' = mkMac T u sv cells [bv, lv', tv] := by
 unfold mkMac
 rw [show 20 = 17 + 1 + 1 + 1 by omega]
 simp only [List.set_cons_succ]
 rw [List.set_append_right _ _ (by rw [nats_len]; omega), nats_len, hc]
 rfl
theorem MacAt.list {B : Nat} {w : World} {pm : Nat} {bv lv tv : Value} {T : Nat} {s : Cm} {sv : Value} (h : MacAt B w pm [bv, lv, tv] T s sv) (hc : s.cells.length = 16) (lv' : Value) : MacAt B (w.setCell ⟨pm, 20, none⟩ lv') pm [bv, lv', tv] T s sv :=
 ⟨by rw [← mkMac_list hc (lv := lv)]; exact h.blk.set 20 lv', h.said.set h.sep _, h.sep, h.left, h.ge⟩
/-- the machine with its list of sections -/
def ListedAt (w8 : World) (B pm : Nat) (bv : Value) (T : Nat) (l : List Sec) (wx : World) : Prop :=
 ∃ lb lc, MacAt B wx pm [bv, .slice (some ⟨lb, 0, none⟩) l.length lc, .slice none 0 0] T (cm0 T) (.slice none 0 0) ∧ wx.ownsRow w8.heap.size 87 4 (.slice (some ⟨lb, 0, none⟩) l.length lc) l.length (secCells l) ∧ Only [pm] w8 wx
set_option maxHeartbeats 8000000 in
theorem runImage_any (w : World) (v : Value) (b : List Nat) (hF : Forms w) (hM : Magic w) (h : CsC w v b) (hle : b.length ≤ 1048576) (ib n cap : Nat) (zs : List Int) (hi : InSrc w ib 0 n cap zs) (steps : Int) :
  Calls Tryd.prog 73 #[v, .slice (some ⟨ib, 0, none⟩) n cap, .int .i64 steps] w (IrPost (imgRun b zs steps) w) := by
 have HRD := Lib.hid (fun w' (hb : Below w.heap.size w w') => iread_any w' v b (hF.below hb) (hM.below hb) (h.below hb) hle)
 have HSEC := Lib.hid (fun w' (hb : Below w.heap.size w w') => sections_any w' v b (hM.below hb) (h.below hb) hle)
 have HMR := Lib.hid (fun w' (hb : Below w.heap.size w w') fv fs (hm : MfsAt w' fv fs) (hl : MfsLe fs) => machRuns_any w' fv _ fs zs (hF.below hb) hm hl (hi.below hb).ints (by rw [hi.len]; have := hi.small; omega))
 have HCS := Lib.hid h; have HIN := Lib.hid hi
 obtain ⟨pw, hpw⟩ : ∃ pw, inR 0 200000 steps = pw := ⟨_, rfl⟩
 have HW := Lib.hid (within_named steps 0 200000 pw hpw)
 have HPW := Lib.hid hpw
 unfold FitPost at HMR
 obtain ⟨a, cp, rfl, _⟩ := h.2
 obtain ⟨L, hL⟩ : ∃ L, L = b.length := ⟨_, rfl⟩
 have HLE := Lib.hid hle
 rw [← hL] at HRD HSEC HCS ⊢
 have HLN := Lib.hid hL
 obtain ⟨Q, hQ⟩ : ∃ Q, Q = IrPost (imgRun b zs steps) w := ⟨_, rfl⟩
 have HQ := Lib.hid hQ
 rw [← hQ]
 have hmf : ∀ (fn : Fn) (first cap : Array Value) (w : World), (Instr.makeFunc fn first cap).run Tryd.prog w = .ok (.func fn first cap) w := fun _ _ _ _ => rfl
 clear hL hQ h hi hF hM hle hpw
 go_enter Tryd.func73, Tryd.ntmps73
 go_wp2_with (fail)
 go_at_call 66
 refine (HRD.out _ (below2 _ _ _)).mono ?_
 rintro e w5 ⟨fv, fs, ok, rfl, h1, h2, hof, hb⟩
 have hbI : Blk w5 w.heap.size [.slice (some ⟨ib, 0, none⟩) n cap] := ((Blk.new w #[.slice (some ⟨ib, 0, none⟩) n cap] 26).alloc _).below hb
 have hbO : Blk w5 (w.heap.size + 1) [.slice none 0 0, .int .i64 0, .int .i64 0, .slice none 0 0] := by
  have h := Blk.new (w.alloc (.cells #[.slice (some ⟨ib, 0, none⟩) n cap] 26)) #[.slice none 0 0, .int .i64 0, .int .i64 0, .slice none 0 0] 31
  rw [show (w.alloc (.cells #[.slice (some ⟨ib, 0, none⟩) n cap] 26)).heap.size = w.heap.size + 1 by simp] at h
  exact h.below hb
 have hB5 : Below w.heap.size w w5 := (below2 w _ _).trans (hb.mono (by simp; omega))
 have hs5 : w.heap.size + 2 ≤ w5.heap.size := by have := hb.size; simp at this; omega
 have HNO : Hid (∀ w', Below w.heap.size w w' → imgRun b zs steps = none → Q (.returned (.tuple #[.agg #[.slice none 0 0, .int .i64 0, .int .i64 0, .slice none 0 0], .pointer none, .bool false])) w') := Lib.hid (fun w' h1 h2 => by
  rw [HQ.out, h2]; exact ⟨_, _, rfl, rfl, h1, rfl⟩)
 have HBI := Lib.hid hbI; have HBO := Lib.hid hbO; have HB5 := Lib.hid hB5
 have HBL : Hid (∀ wa, Below w5.heap.size w5 wa → w.heap.size + 2 ≤ wa.heap.size ∧ Below w.heap.size w wa) := Lib.hid (fun wa h => ⟨Nat.le_trans hs5 h.size, hB5.trans (h.mono (by omega))⟩)
 clear hbI hbO hB5 hb
 cases ok with
 |false =>
  have HX := Lib.hid (h2 rfl).1
  obtain ⟨fa, fc, rfl, _⟩ := hof.at
  clear h1 h2 hof HRD HSEC HMR HW HPW HQ
  obtain ⟨t0, t1, t2, t3⟩ := blkc4 (HBO.out.alloc (.cells #[.slice fa fs.length fc] 25))
  have f0 := (HBO.out.alloc (.cells #[.slice fa fs.length fc] 25)).frozen 0
  have f1 := (HBO.out.alloc (.cells #[.slice fa fs.length fc] 25)).frozen 1
  have f2 := (HBO.out.alloc (.cells #[.slice fa fs.length fc] 25)).frozen 2
  have f3 := (HBO.out.alloc (.cells #[.slice fa fs.length fc] 25)).frozen 3
  go_wp2_with (fail)
  generalize hw6 : w5.alloc _ = w6 at *
  refine bodyPost_ret (v := .tuple #[.agg #[.slice none 0 0, .int .i64 0, .int .i64 0, .slice none 0 0], .pointer none, .bool false]) (by simp [results, Tryd.results73, go_sem, t0, t1, t2, t3]) rfl ?_
  refine HNO.out _ ?_ (imgRun_no HX.out)
  have hb6 := (HBL.out w6 (by rw [← hw6]; exact below1 _ _)).2
  exact (((hb6.setCell (p := ⟨w.heap.size + 1, 0, none⟩) (by simp only []; omega) _).setCell (p := ⟨w.heap.size + 1, 1, none⟩) (by simp only []; omega) _).setCell (p := ⟨w.heap.size + 1, 2, none⟩) (by simp only []; omega) _).setCell (p := ⟨w.heap.size + 1, 3, none⟩) (by simp only []; omega) _
 |true =>
  obtain ⟨l, hl⟩ := h1 rfl
  have HX := Lib.hid hl
  obtain ⟨hle2, h0⟩ := readI_le hl
  obtain ⟨fg, fc, rfl⟩ := hof.some_form h0
  have HMA := Lib.hid hof.at
  have HLE2 := Lib.hid hle2
  obtain ⟨m, hm⟩ : ∃ m, m = fs.length := ⟨_, rfl⟩
  rw [← hm] at HMA ⊢
  clear h1 h2 hof hl hle2 h0 hm HRD
  have i0 := blkc1 HBI.out
  have il := HBI.out.lt
  go_wp2_with (fail)
  go_at_call 48
  have hb6 : Below w5.heap.size w5 (w5.alloc (.cells #[.slice (some ⟨fg, 0, none⟩) m fc] 25)) := below1 _ _
  have HMR2 := Lib.hid (HMR.out _ (HBL.out _ hb6).2 _ fs (HMA.out.below hb6) HLE2.out)
  have HB6 := Lib.hid hb6
  clear hb6 HMR
  generalize w5.alloc _ = w6 at *
  refine HMR2.out.mono ?_
  rintro e w7 ⟨q, rfl, hq, hb7⟩
  have HB7 := Lib.hid (HB6.out.trans (hb7.mono HB6.out.size))
  have HQQ := Lib.hid hq
  obtain ⟨hs7, _⟩ := HBL.out w7 HB7.out
  obtain ⟨t0, t1, t2, t3⟩ := blkc4 (HBO.out.below HB7.out)
  have f0 := (HBO.out.below HB7.out).frozen 0
  have f1 := (HBO.out.below HB7.out).frozen 1
  have f2 := (HBO.out.below HB7.out).frozen 2
  have f3 := (HBO.out.below HB7.out).frozen 3
  have HEND : Hid (imgRun b zs steps = none → Q (.returned (.tuple #[.agg #[.slice none 0 0, .int .i64 0, .int .i64 0, .slice none 0 0], .pointer none, .bool false])) ((((w7.setCell ⟨w.heap.size + 1, 0, none⟩ (.slice none 0 0)).setCell ⟨w.heap.size + 1, 1, none⟩ (.int .i64 0)).setCell ⟨w.heap.size + 1, 2, none⟩ (.int .i64 0)).setCell ⟨w.heap.size + 1, 3, none⟩ (.slice none 0 0))) := Lib.hid (fun hn => HNO.out _ (((((HBL.out w7 HB7.out).2.setCell (p := ⟨w.heap.size + 1, 0, none⟩) (by simp only []; omega) _).setCell (p := ⟨w.heap.size + 1, 1, none⟩) (by simp only []; omega) _).setCell (p := ⟨w.heap.size + 1, 2, none⟩) (by simp only []; omega) _).setCell (p := ⟨w.heap.size + 1, 3, none⟩) (by simp only []; omega) _) hn)
  clear hb7 hq i0 il HMR2 HB6
  cases q with
  |false =>
   have hno : imgRun b zs steps = none := imgRun_bad HX.out (fun h => by have := HQQ.out.2 h.1; cases this)
   have HNN := Lib.hid hno
   clear hno HSEC HW HPW HQ HQQ HNO
   go_wp2_with (fail)
   refine bodyPost_ret (v := .tuple #[.agg #[.slice none 0 0, .int .i64 0, .int .i64 0, .slice none 0 0], .pointer none, .bool false]) (by simp [results, Tryd.results73, go_sem, t0, t1, t2, t3]) rfl ?_
   exact HEND.out HNN.out
  |true =>
   have hok : RunsOk fs zs := HQQ.out.1 rfl
   have HOK := Lib.hid hok
   clear hok HQQ
   go_wp2_with (fail)
   go_at_call 52
   refine (HW.out _).mono ?_
   rintro e _ ⟨rfl, rfl⟩
   cases pw with
   |false =>
    have hno : imgRun b zs steps = none := imgRun_bad HX.out (fun h => by
     have h2 : inR 0 200000 steps = true := inR_iff.2 h.2
     have := HPW.out; rw [h2] at this; cases this)
    have HNN := Lib.hid hno
    clear hno HSEC HW HPW HQ HNO
    go_wp2_with (fail)
    refine bodyPost_ret (v := .tuple #[.agg #[.slice none 0 0, .int .i64 0, .int .i64 0, .slice none 0 0], .pointer none, .bool false]) (by simp [results, Tryd.results73, go_sem, t0, t1, t2, t3]) rfl ?_
    exact HEND.out HNN.out
   |true =>
    have hst := inR_iff.1 HPW.out
    obtain ⟨T, hT⟩ : ∃ T : Nat, steps = T := ⟨steps.toNat, by omega⟩
    subst hT
    have hT2 : T ≤ 200000 := by omega
    have hans := imgRun_yes HX.out HOK.out hT2
    obtain ⟨hrok, _, _⟩ := imgRun_ok hans
    obtain ⟨r, hr⟩ : ∃ r, r = runOf (imgPg b l) (l.length - 1) (toNats zs) T := ⟨_, rfl⟩
    rw [← hr] at hans hrok
    have HANS := Lib.hid hans; have HR := Lib.hid hr; have HROK := Lib.hid hrok
    have HINB := Lib.hid (HBI.out.below HB7.out)
    have HOUB := Lib.hid (HBO.out.below HB7.out)
    have HWB := Lib.hid (HBL.out w7 HB7.out).2
    clear hans hr hrok HW HPW HEND HNO HBI HBO HBL HB7 t0 t1 t2 t3 f0 f1 f2 f3 hst HMA HB5
    go_upto_region 5 with (fail)
    generalize hw8 : (w7.alloc _).alloc _ = w8
    have hb8 : Below w7.heap.size w7 w8 := by rw [← hw8]; exact below2 _ _ _
    have hs8 : w8.heap.size = w7.heap.size + 1 + 1 := by rw [← hw8]; simp
    have hM8 : MacAt w.heap.size w8 w7.heap.size [.slice a L cp, .slice none 0 0, .slice none 0 0] T (cm0 T) (.slice none 0 0) := by
     rw [← hw8]; exact (mac_newI w7 w.heap.size T (.slice a L cp) 100 (by omega)).below (below1 _ _)
    have hP8 : Blk w8 (w7.heap.size + 1) [.pointer (some ⟨w7.heap.size, 0, none⟩)] := by
     rw [← hw8]
     have h := Blk.new (w7.alloc (.cells #[.int .i64 (T : Int), .int .i64 0, .slice none 0 0, .int .i64 0, .int .i64 0, .int .i64 0, .int .i64 0, .int .i64 0, .int .i64 0, .int .i64 0, .int .i64 0, .int .i64 0, .int .i64 0, .int .i64 0, .int .i64 0, .int .i64 0, .int .i64 0, .int .i64 0, .int .i64 0, .slice a L cp, .slice none 0 0, .slice none 0 0] 100)) #[.pointer (some ⟨w7.heap.size, 0, none⟩)] 93
     rw [show (w7.alloc (.cells #[.int .i64 (T : Int), .int .i64 0, .slice none 0 0, .int .i64 0, .int .i64 0, .int .i64 0, .int .i64 0, .int .i64 0, .int .i64 0, .int .i64 0, .int .i64 0, .int .i64 0, .int .i64 0, .int .i64 0, .int .i64 0, .int .i64 0, .int .i64 0, .int .i64 0, .int .i64 0, .slice a L cp, .slice none 0 0, .slice none 0 0] 100)).heap.size = w7.heap.size + 1 by simp] at h
     exact h
    have HIN8 := Lib.hid (HINB.out.below hb8)
    have HOU8 := Lib.hid (HOUB.out.below hb8)
    have HWB8 := Lib.hid (HWB.out.trans (hb8.mono (by omega)))
    have HM8 := Lib.hid hM8; have HP8 := Lib.hid hP8
    have p8 := blkc1 hP8
    have hmcell : ∃ y, w8.cell? ⟨w7.heap.size, 20, none⟩ = some y := ⟨_, (hM8.rest (cm0_ok T).cells).2.1⟩
    have hmfz : w8.frozen? ⟨w7.heap.size, 20, none⟩ = false := hM8.blk.frozen 20
    obtain ⟨y8, hmcell⟩ := hmcell
    have HS8 := Lib.hid hs8
    have hlt8 : w7.heap.size < w8.heap.size := by omega
    have hlt9 : w7.heap.size + 1 < w8.heap.size := by omega
    clear hw8 hb8 hM8 hP8 hs8 HINB HOUB HWB
    go_cut [] from 37 to 44 (fun wx => ListedAt w8 w.heap.size w7.heap.size (.slice a L cp) T l wx)
    case first =>
     have HHD := Lib.hid (readI_some HX.out).1
     have HSF := Lib.hid (readI_tab HX.out).2
     have HL1 := Lib.hid (readI_par HX.out).2.1
     have HSC : Hid (∀ (w9 : World) (lv : Value) (l' : List Sec) (ok2 : Bool), (ok2 = true → headN b = true ∧ secF b (byteN b 2) = some (l', b.length) ∧ w9.ownsRow w8.drew.heap.size 87 4 lv l'.length (secCells l')) → (ok2 = false → ¬ (headN b = true ∧ ∃ l, secF b (byteN b 2) = some (l, b.length))) → ∃ lb lc, ok2 = true ∧ lv = .slice (some ⟨lb, 0, none⟩) l.length lc ∧ w9.ownsRow w8.heap.size 87 4 (.slice (some ⟨lb, 0, none⟩) l.length lc) l.length (secCells l)) := Lib.hid (fun w9 lv l' ok2 hy hno => by
      cases ok2 with
      |false => exact absurd ⟨HHD.out, _, HSF.out⟩ (hno rfl)
      |true =>
       obtain ⟨_, hsf', ho⟩ := hy rfl
       have hll : l' = l := by
        have h1 := HSF.out
        rw [hsf'] at h1
        injection h1 with h1; injection h1
       subst hll
       obtain ⟨g, cap, rfl, _, _⟩ := ho.form HL1.out
       exact ⟨g, cap, rfl, rfl, ho⟩)
     clear HQ HANS HR HROK HOK HIN HCS
     go_region_held3 (fun W => W.cell? ⟨w7.heap.size + 1, 0, none⟩ = some (.pointer (some ⟨w7.heap.size, 0, none⟩))) (first | assumption | go_keep) (first | (go_at_call 68; refine (HSEC.out _ HWB8.out.drew).mono ?_; rintro e w9 ⟨lv, l', ok2, rfl, hy, hno, hb9⟩; obtain ⟨lb, lc, rfl, rfl, ho9⟩ := HSC.out _ _ _ _ hy hno; have k9 := cellB hb9 p8; have c9 := cellB hb9 hmcell; have z9 : w9.frozen? ⟨w7.heap.size, 20, none⟩ = false := by rw [(bcell hb9).2 _ _ hlt8]; exact hmfz))
     all_goals go_wp2_with (fail)
     all_goals go_meet
     all_goals
      have hb8 : Below w8.heap.size w8 w9 := (Below.refl w8.heap.size w8).drew.trans hb9
      have hlb := (World.ownsRow.lt ho9 lb rfl).1
      have hnl : ∀ k, (Value.slice (some ⟨lb, 0, none⟩) l.length lc).ownBlock = some k → k ≠ w7.heap.size := fun k hk => by
       have hk : lb = k := by simpa [Value.ownBlock] using hk
       omega
      exact ⟨lb, lc, (HM8.out.below hb8).list (cm0_ok T).cells _, ownsRow_same ho9 (fun k hk => Below.heap_setCell _ _ _ _ (hnl k hk)), (Only.of_below hb8 _).setCell (by simp) _⟩
    case rest =>
     obtain ⟨lb, lc, hMc, hoc, hon⟩ := hcut
     have hlb := (World.ownsRow.lt hoc lb rfl)
     have hs8 := HS8.out
     have hsz := hon.size
     have hne : ∀ k, k < w8.heap.size → k ≠ w7.heap.size → wc.heap[k]? = w8.heap[k]? := fun k h1 h2 => hon.block k h1 (by simpa using h2)
     have pc := (World.cell?_of_block (a := ⟨w7.heap.size + 1, 0, none⟩) (hne (w7.heap.size + 1) (by omega) (by omega))).trans p8
     have hIc := HIN8.out.same (hne w.heap.size (by omega) (by omega))
     have hOc := HOU8.out.same (hne (w.heap.size + 1) (by omega) (by omega))
     have hWc : Below w.heap.size w wc := Only.below HWB8.out hon (by omega) (fun q hq => by have := List.mem_singleton.1 hq; omega)
     have ic := blkc1 hIc
     have hL1 := (readI_par HX.out).2.1
     have hll : l.length ≤ 1048576 := by
      have h2 := HLE2.out.1
      have := (readI_par HX.out).1; omega
     have hOcc := Lib.hid hOc; have HMc := Lib.hid hMc; have HOc := Lib.hid hoc; have HWc := Lib.hid hWc; have HLB := Lib.hid hlb; have HNE := Lib.hid hne
     obtain ⟨bb, bo, hab, hbb⟩ : ∃ g off, a = some ⟨g, off, none⟩ ∧ g < w.heap.size := by
      obtain ⟨⟨a', cp', hv, _, hc⟩, _⟩ := HCS.out
      have h3 := (readI_tab HX.out).1
      obtain ⟨g, off, ha, hcell⟩ := hc 0 (by omega)
      injection hv with e1 _ _
      exact ⟨g, off, by rw [e1]; exact ha, World.block_lt_of_cell? _ _ hcell⟩
     have hpar : (imgPg b l).par (l.length - 1) ≤ n := by
      have h1 := (readI_par HX.out).2.2
      have h2 := HOK.out.2.2
      have h3 := HIN.out.len
      omega
     have HRUN : Hid (∀ w', Below wc.heap.size wc w' → Calls Tryd.prog 94 #[.pointer (some ⟨w7.heap.size + 1, 0, none⟩), .pointer (some ⟨w.heap.size, 0, none⟩)] w' (RunPost2 w.heap.size w7.heap.size (.slice a L cp) (.slice (some ⟨lb, 0, none⟩) l.length lc) T (.slice none 0 0) (.slice none 0 0) r w')) := by
      refine Lib.hid (fun w' hb' => ?_)
      have hbd := hb'.drew
      have hMw := HMc.out.below hbd
      have hsz' := hb'.size
      refine im1_any w' w.heap.size w7.heap.size (.slice a L cp) lb l.length lc (.slice none 0 0) T (cm0 T) (.slice none 0 0) r ib 0 n cap (w7.heap.size + 1) w.heap.size (HMc.out.below hb') (cm0_ok T) hL1 hll ?_ (cellB hb' pc) (cellB hb' ic)
      subst hab
      rw [HR.out]
      refine brun_any wc w.heap.size w7.heap.size bb bo cp lb lc L l.length b l fs HX.out HLE.out HLN.out rfl (HCS.out.below HWc.out) (ownsRow_mono HOc.out (Nat.zero_le _)) (T + 1) w'.drew T (cm0 T) (.slice none 0 0) (.slice none 0 0) (l.length - 1) ib 0 n cap (toNats zs) (by show T < T + 1; omega) (by omega) ⟨?_, hbd.block _ ?_, by omega, by simp [Value.ownBlock], by simp [Value.ownBlock]⟩ ⟨?_, hbd.block _ ?_, by omega, by simp [Value.ownBlock], by simp [Value.ownBlock]⟩ hMw ⟨World.ownsRow_nil _ _ _ _, by simp [Value.ownBlock], fun k _ => by simp [Value.ownBlock]⟩ (cm0_ok T) (((HIN.out.below HWc.out).below hbd).src HOK.out.2.1) (valsOk_nats HOK.out.2.1).1 hpar (by show 0 + T ≤ T; omega) (by omega) (by show 0 ≤ 500; omega)
      ·show bb < w'.heap.size; omega
      ·omega
      ·show lb < w'.heap.size; omega
      ·omega
     clear hMc hOc hWc hlb hne hIc hoc hon p8 hmcell hmfz HSEC HOK hpar
     go_wp2_with (fail)
     go_at_call 76
     refine (ioutcome_any wc w.heap.size w7.heap.size (.slice a L cp) (.slice (some ⟨lb, 0, none⟩) l.length lc) T (.slice none 0 0) (.slice none 0 0) r _ (by omega) (fun k hk => by simp [Value.ownBlock] at hk) (fun k hk => by simp [Value.ownBlock] at hk) HROK.out HRUN.out).mono ?_
     rintro e w10 ⟨sv', tv', cv, rfl, hM10, hown, hF, hap1, hap2, hT10⟩
     obtain ⟨sa, sc, hform⟩ := saidForm hM10.said
     obtain ⟨sn, hsn⟩ : ∃ sn, sn = r.cm.said.length := ⟨_, rfl⟩
     rw [← hsn] at hform
     subst hform
     obtain ⟨ca, cc, hcf⟩ : ∃ ca cc, cv = .slice ca 16 cc := by
      rcases hown.2 with ⟨_, h2⟩ | ⟨g, cp, cur, h1, _⟩
      ·cases h2
      ·exact ⟨_, cp, h1⟩
     subst hcf
     have hkeep : ∀ k, k < wc.heap.size → k ≠ w7.heap.size → w10.heap[k]? = wc.heap[k]? := fun k h1 h2 => hF.block k h1 (by simpa using h2) (by simp [Value.ownBlock]) (by simp [Value.ownBlock])
     have hsz2 := hF.size
     have hBo : Blk w10 (w.heap.size + 1) [.slice none 0 0, .int .i64 0, .int .i64 0, .slice none 0 0] := hOcc.out.same (hkeep (w.heap.size + 1) (by omega) (by omega))
     have m4 : w10.cell? ⟨w7.heap.size + 1, 0, none⟩ = some (.pointer (some ⟨w7.heap.size, 0, none⟩)) := (World.cell?_of_block (a := ⟨w7.heap.size + 1, 0, none⟩) (hkeep (w7.heap.size + 1) (by omega) (by omega))).trans pc
     have hFb : Below w.heap.size w w10 := HWc.out.trans ⟨hF.os, hF.tape, hF.output, hF.size, fun k hk => hkeep k (by omega) (by omega)⟩
     have hn1 : ∀ k, Value.ownBlock (.slice sa sn sc) = some k → k ≠ w.heap.size + 1 := fun k hk e => (hF.ne1 (k := w.heap.size + 1) (by omega) (by simp [Value.ownBlock])) (by rw [hk, e])
     have hn2 : ∀ k, tv'.ownBlock = some k → k ≠ w.heap.size + 1 := fun k hk e => (hF.ne2 (k := w.heap.size + 1) (by omega) (by simp [Value.ownBlock])) (by rw [hk, e])
     have hn3 : ∀ k, Value.ownBlock (.slice ca 16 cc) = some k → k ≠ w.heap.size + 1 := fun k hk e => by have := (World.ownsRow.lt hown k hk).1; omega
     have m21 := (hM10.rest HROK.out.cells).2.2
     have HSD := Lib.hid hM10.said; have HOW := Lib.hid (ownsRow_mono hown (show w.heap.size ≤ wc.heap.size by omega)); have HFB := Lib.hid hFb; have HBO := Lib.hid hBo; have HN1 := Lib.hid hn1; have HN2 := Lib.hid hn2; have HN3 := Lib.hid hn3; have HT := Lib.hid hT10.row; have HM21 := Lib.hid m21; have HAP := Lib.hid hap1
     have hlw : w.heap.size + 1 < w10.heap.size := hBo.lt
     have hlm : w7.heap.size < w10.heap.size := hM10.blk.lt
     clear hM10 hown hF hFb hBo hkeep hsn hn1 hn2 hn3 hT10 m21 hap1 hap2 pc ic HRUN HNE HLB HOc HMc hOcc
     go_wp2_with (fail)
     generalize hw11 : w10.alloc _ = w11
     have hb11 : Below w10.heap.size w10 w11 := by rw [← hw11]; exact below1 _ _
     have hB11 : Blk w11 w10.heap.size [.slice sa sn sc, .int .i64 (r.en : Int), .int .i64 (r.val : Int), .slice ca 16 cc] := by rw [← hw11]; exact Blk.new _ _ _
     obtain ⟨n0, n1, n2, n3⟩ := blkc4 hB11
     have m4' := cellB hb11 m4
     have hO11 := HBO.out.below hb11
     obtain ⟨t0, t1, t2, t3⟩ := blkc4 hO11
     have f0 := hO11.frozen 0
     have f1 := hO11.frozen 1
     have f2 := hO11.frozen 2
     have f3 := hO11.frozen 3
     have HSD3 := Lib.hid (HSD.out.below hb11)
     have HOW3 := Lib.hid (ownsRow_below HOW.out hb11)
     have HFB3 := Lib.hid (HFB.out.trans (hb11.mono HFB.out.size))
     have HT3 := Lib.hid (HT.out.below hb11)
     have HM3 := Lib.hid (cellB hb11 HM21.out)
     have hlw' : ¬ w10.heap.size = w.heap.size + 1 := by omega
     have hlx : ¬ w7.heap.size + 1 = w.heap.size + 1 := by omega
     clear hw11 hb11 hB11 m4 hO11 HSD HOW HFB HBO HT HM21
     refine wp_region_chain (fun W => (W.cell? ⟨w10.heap.size, 0, none⟩ = some (.slice sa sn sc) ∧ W.cell? ⟨w10.heap.size, 1, none⟩ = some (.int .i64 (r.en : Int)) ∧ W.cell? ⟨w10.heap.size, 2, none⟩ = some (.int .i64 (r.val : Int)) ∧ W.cell? ⟨w10.heap.size, 3, none⟩ = some (.slice ca 16 cc)) ∧ W.cell? ⟨w7.heap.size + 1, 0, none⟩ = some (.pointer (some ⟨w7.heap.size, 0, none⟩))) [(0, true), (1, true)] [2, 3, 4] 4 (by kernel_rfl) (by kernel_rfl) (fun d v c a w h => by cases d <;> exact h) ⟨⟨n0, n1, n2, n3⟩, m4'⟩ ?_
     simp only [pickO, List.map_cons, List.map_nil, List.getD_cons_zero, List.getD_cons_succ]
     refine heldO_step (v := ?_) rfl ?_ ?_
     rotate_left
     ·intro W hS
      obtain ⟨⟨k0, k1, k2, k3⟩, k4⟩ := hS
      go_simp
      try rfl
     simp only [Act.put, List.setIfInBounds_toArray, List.set_cons_zero, List.set_cons_succ]
     refine heldO_step (v := ?_) rfl ?_ ?_
     rotate_left
     ·intro W hS
      obtain ⟨⟨k0, k1, k2, k3⟩, k4⟩ := hS
      go_simp
      try rfl
     simp only [Act.put, List.setIfInBounds_toArray, List.set_cons_zero, List.set_cons_succ]
     refine heldO_nil ?_
     refine tailO_step rfl (fun K hK => ?_)
     go_simp
     refine hK _ _ (.inr ⟨⟨?_, ?_, ?_, ?_⟩, ?_⟩) ?_
     ·simp [go_sem, hlw', n0]
     ·simp [go_sem, hlw', n1]
     ·simp [go_sem, hlw', n2]
     ·simp [go_sem, hlw', n3]
     ·simp [go_sem, hlx, m4']
     clear hK K
     refine tailO_step rfl (fun K hK => ?_)
     go_simp
     refine hK _ _ (.inr ⟨⟨?_, ?_, ?_, ?_⟩, ?_⟩) ?_
     ·simp [go_sem, hlw', n0]
     ·simp [go_sem, hlw', n1]
     ·simp [go_sem, hlw', n2]
     ·simp [go_sem, hlw', n3]
     ·simp [go_sem, hlx, m4']
     clear hK K
     refine tailO_step rfl (fun K hK => ?_)
     go_simp
     refine hK _ _ (.inl rfl) (tailO_nil ?_)
     clear hK K
     go_wp2_with (fail)
     refine bodyPost_ret (v := .tuple #[.agg #[.slice sa sn sc, .int .i64 (r.en : Int), .int .i64 (r.val : Int), .slice ca 16 cc], .pointer (some ⟨w7.heap.size, 0, none⟩), .bool true]) (by simp [results, Tryd.results73, go_sem, t0, t1, t2, t3]) rfl ?_
     rw [HQ.out, HANS.out]
     refine ⟨_, _, rfl, ⟨_, _, _, _, _, rfl, ?_, ?_, HAP.out⟩, ?_, w7.heap.size, tv', rfl, ?_, ?_⟩
     ·exact (((HSD3.out.set (a := ⟨w.heap.size + 1, 0, none⟩) (fun e => HN1.out _ e rfl) _).set (a := ⟨w.heap.size + 1, 1, none⟩) (fun e => HN1.out _ e rfl) _).set (a := ⟨w.heap.size + 1, 2, none⟩) (fun e => HN1.out _ e rfl) _).set (a := ⟨w.heap.size + 1, 3, none⟩) (fun e => HN1.out _ e rfl) _
     ·refine ownsRow_same HOW3.out fun k hk => ?_
      have e1 := HN3.out k hk
      exact (Below.heap_setCell _ _ _ _ e1).trans ((Below.heap_setCell _ _ _ _ e1).trans ((Below.heap_setCell _ _ _ _ e1).trans (Below.heap_setCell _ _ _ _ e1)))
     ·exact ((((HFB3.out.setCell (p := ⟨w.heap.size + 1, 0, none⟩) (by simp only []; omega) _).setCell (p := ⟨w.heap.size + 1, 1, none⟩) (by simp only []; omega) _).setCell (p := ⟨w.heap.size + 1, 2, none⟩) (by simp only []; omega) _).setCell (p := ⟨w.heap.size + 1, 3, none⟩) (by simp only []; omega) _).drew
     ·have e1 : w7.heap.size ≠ w.heap.size + 1 := by omega
      refine Eq.trans (World.cell?_of_block (w := w11) (a := ⟨w7.heap.size, 21, none⟩) ?_) HM3.out
      exact (Below.heap_setCell _ _ _ _ e1).trans ((Below.heap_setCell _ _ _ _ e1).trans ((Below.heap_setCell _ _ _ _ e1).trans (Below.heap_setCell _ _ _ _ e1)))
     ·exact (((HT3.out.set (a := ⟨w.heap.size + 1, 0, none⟩) (fun e => HN2.out _ e rfl) _).set (a := ⟨w.heap.size + 1, 1, none⟩) (fun e => HN2.out _ e rfl) _).set (a := ⟨w.heap.size + 1, 2, none⟩) (fun e => HN2.out _ e rfl) _).set (a := ⟨w.heap.size + 1, 3, none⟩) (fun e => HN2.out _ e rfl) _
end Go.Proofs.YtbdbmmdnidonjaaDoor
