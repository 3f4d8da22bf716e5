/- spec's run of a program of the machine: l22Start. -/
import Derived.Test.YtbdbmmdnidonjaaDoorSd
import Derived.Test.YtbdbmmdnidonjaaDoorRr
set_option maxRecDepth 100000
namespace Go.Proofs.YtbdbmmdnidonjaaDoor
open Go.RowKit

def Rs.over : Rs → Bool
  | .ret _ _ => false
  | .stop _ _ => true

/-- a run that has ended lies at pr -/
def Ended (B : Nat) (w : World) (mv : Value) (r : Rs) (pr cb : Nat) (sv : Value) : Prop :=
  Blk w pr (mkRun mv sv r.en r.val cb r.cm.left r.over) ∧ Blk w cb (nats r.cm.cells) ∧ Said w B sv r.cm.said ∧ B ≤ pr ∧ B ≤ cb ∧ pr ≠ cb
theorem Ended.below {B : Nat} {w w' : World} {mv : Value} {r : Rs} {pr cb : Nat} {sv : Value} (h : Ended B w mv r pr cb sv) (hb : Below w.heap.size w w') : Ended B w' mv r pr cb sv :=
  ⟨h.1.below hb, h.2.1.below hb, h.2.2.1.below hb, h.2.2.2⟩
def StartPost (mv : Value) (r : Rs) (w : World) (e : Ending) (w' : World) : Prop :=
  ∃ pr cb sv, e = .returned (.pointer (some ⟨pr, 0, none⟩)) ∧ Ended w.heap.size w' mv r pr cb sv ∧ Below w.heap.size w w'

def RunNew (B : Nat) (mv : Value) (T : Nat) (wf : World) (a : Value) (wx : World) : Prop :=
  ∃ pr cb sv, a = Value.pointer (some ⟨pr, 0, none⟩) ∧ RunAt B wx pr cb mv none (cm0 T) sv ∧ Below wf.heap.size wf wx

theorem runNew_of {B : Nat} {mv : Value} {T : Nat} {wf X : World} {q0 q1 q2 : Nat} {t : TypeId} (hB : B ≤ wf.heap.size) (h0 : q0 = X.heap.size) (hb : Below wf.heap.size wf X) (h1 : X.ownsRow B 3 1 (.slice (some ⟨q1, 0, none⟩) 0 0) 0 []) (h2 : Blk X q2 (nats (List.replicate 16 0))) (g2 : B ≤ q2) (d : q1 ≠ q2) :
    RunNew B mv T wf (Value.pointer (some ⟨q0, 0, none⟩)) (X.alloc (.cells #[mv, .slice (some ⟨q1, 0, none⟩) 0 0, .int .i64 0, .int .i64 0, .slice (some ⟨q2, 0, none⟩) 16 16, .int .i64 (T : Int), .bool false] t)).drew := by
  have l1 := (World.ownsRow.lt h1 q1 rfl).2
  have l2 := h2.lt
  have hsz := hb.size
  refine ⟨q0, q2, _, rfl, ⟨Blk.newAt h0 rfl, h2.alloc _, Said.alloc (xs := []) h1 _, by omega, ?_, ?_, by omega, g2⟩, (hb.alloc hsz _).drew⟩
  · simp only [Value.ownBlock, ne_eq, Option.some.injEq]; omega
  · simp only [Value.ownBlock, ne_eq, Option.some.injEq]; exact d

theorem own_empty {X : World} {B q : Nat} (h : q = X.heap.size) (hB : B ≤ X.heap.size) : (X.alloc (.cells #[] 3)).ownsRow B 3 1 (.slice (some ⟨q, 0, none⟩) 0 0) 0 [] := by
  subst h
  exact World.ownsRow_lit X #[] 0 hB (by decide) rfl

set_option maxHeartbeats 4000000 in
theorem start_any (w : World) (vb vo fl vcap : Nat) (fs : List Mf) (hm : MfsAt w (.slice (some ⟨vb, vo, none⟩) fl vcap) fs) (hfl : fl = fs.length) (h1 : 1 ≤ fl) (hP : PgOk (machPg fs) fs.length) (hN : MfsNat fs) (hle : MfsLe fs)
    (b off n cap : Nat) (inp : List Nat) (hsrc : SrcAt w b off n cap inp) (hin : Small inp) (hpar : (machPg fs).par (fl - 1) ≤ n) (hn3 : n ≤ 3) (T : Nat) (hT : T ≤ 200000) :
    Calls Tryd.prog 51 #[.agg #[.slice (some ⟨vb, vo, none⟩) fl vcap], .slice (some ⟨b, off, none⟩) n cap, .int .i64 (T : Int)] w (StartPost (.slice (some ⟨vb, vo, none⟩) fl vcap) (runOf (machPg fs) (fl - 1) inp T) w) := by
  have hok := loop_ok hP (T + 1) (fl - 1) 0 (newLc (machPg fs) (fl - 1) inp) (cm0 T) (by omega) (hP.start _ (by omega)) (newLc_ok _ _ _ (by rw [hsrc.len]; exact hpar) hin) (cm0_ok T)
  have HCALL : Hid (∀ w' pr cb sv, Below w.heap.size w w' → RunAt w.heap.size w' pr cb (.slice (some ⟨vb, vo, none⟩) fl vcap) none (cm0 T) sv →
      Calls Tryd.prog 81 #[.pointer (some ⟨pr, 0, none⟩), .int .i64 ((fl - 1 : Nat) : Int), .slice (some ⟨b, off, none⟩) n cap] w' (SRunPost w.heap.size pr cb (.slice (some ⟨vb, vo, none⟩) fl vcap) sv (runOf (machPg fs) (fl - 1) inp T) w')) :=
    Lib.hid fun w' pr cb sv hb hR => call_any w _ fs hm hP hN hle (T + 1) w' pr cb T (cm0 T) sv (fl - 1) b off n cap inp (by show T < T + 1; omega) (by omega) hb hR (cm0_ok T) (hsrc.below hb) hin hpar hn3 (by show 0 + T ≤ T; omega) (by omega)
  generalize hrr : runOf (machPg fs) (fl - 1) inp T = r at *
  have hok' : CmOk r.cm := by rw [← hrr]; exact hok.1
  have HOK := Lib.hid hok'
  have hfl4 : fl ≤ 1048576 := by rw [hfl]; exact hle.1
  have hnn : (fl : Int) - 1 = ((fl - 1 : Nat) : Int) := by omega
  obtain ⟨i0, hi, hz0, hz1, hz2⟩ := info_parts info_int
  have hmk16 : ∀ w : World, (Instr.makeSlice 26 (.int .i64 16) (.int .i64 16)).run Tryd.prog w = .ok (.slice (some ⟨w.heap.size, 0, none⟩) 16 16) (w.alloc (.cells (madeCells (Value.int .i64 0).cells 16) 3)) := fun w => by
    have h := run_make (P := Tryd.prog) w 26 3 i0 (.int .i64 0) Tryd.underlying26 hi hz0 .i64 .i64 ((16 : Nat) : Int) ((16 : Nat) : Int) (by omega) (by omega) (by rw [hz2]; omega) (by omega)
    rw [hz1, Nat.mul_one] at h
    simpa using h
  have HNN := Lib.hid hnn
  clear hm hfl hP hN hle hsrc hin hpar hok hok' hrr hi hz0 hz1 hz2 hnn
  go_enter Tryd.func51, Tryd.ntmps51
  go_upto_region 1 with (fail)
  generalize hwf : w.alloc _ = wf
  have hbf : Below w.heap.size w wf := by rw [← hwf]; exact below1 _ _
  have hszf : wf.heap.size = w.heap.size + 1 := by rw [← hwf]; simp
  have p0 : wf.cell? ⟨w.heap.size, 0, none⟩ = some (.slice (some ⟨vb, vo, none⟩) fl vcap) := by rw [← hwf]; simp [go_sem]
  have HBF := Lib.hid hbf
  clear hwf hbf
  go_cut [7] from 9 to 15 (fun a wx => RunNew w.heap.size (.slice (some ⟨vb, vo, none⟩) fl vcap) T wf a wx)
  case first =>
    clear HCALL HOK HBF h1 hfl4 hn3 hT HNN
    go_region_law (first | fail)
    all_goals go_wp2_with (fail)
    all_goals go_meet
    all_goals refine runNew_of ?_ ?_ ?_ ?_ ?_ ?_ ?_
    all_goals first
      | omega
      | (simp; done)
      | (simp; omega)
      | ((repeat (first | exact Blk.newAt (by first | omega | (simp; omega)) (made_nats _) | refine Blk.alloc ?_ _)); done)
      | ((repeat (first | exact own_empty (by first | omega | (simp; done) | (simp; omega)) (by first | omega | (simp; omega)) | refine World.ownsRow.alloc ?_ _)); done)
      | ((repeat' (first | exact Below.refl _ _ | assumption | (refine Below.setCell ?_ ?_ _) | (refine Below.alloc ?_ ?_ _) | (refine belowDrewN ?_ _) | omega | (simp; done) | (simp; omega))); done)
  case rest =>
    obtain ⟨pr, cb, sv, rfl, hR, hbx⟩ := hcut
    have hbwc : Below w.heap.size w wc := HBF.out.trans (hbx.mono HBF.out.size)
    have q0 : wc.cell? ⟨w.heap.size, 0, none⟩ = some (.slice (some ⟨vb, vo, none⟩) fl vcap) := by rw [hbx.cell (p := ⟨w.heap.size, 0, none⟩) (by simp only []; omega)]; exact p0
    have HCL := Lib.hid (HCALL.out wc pr cb sv hbwc hR)
    have HR := Lib.hid hR
    have HBW := Lib.hid hbwc
    have hnn := HNN.out
    clear hR hbx hbwc HCALL p0 hmk16
    go_wp2_with (fail)
    go_at_call 81
    refine HCL.out.mono ?_
    rintro e w2 hpost
    have hBw : ∀ sv2 : Value, Fr [pr, cb] sv wc sv2 w2 → Below w.heap.size w w2 := fun _ hF =>
      HBW.out.trans (hF.below_of HBW.out.size (fun k hk => by
        have e1 := HR.out.gp; have e2 := HR.out.gc
        simp at hk; rcases hk with h | h <;> omega) (fun k hk => (HR.out.said.lt hk).1))
    have HBw2 := Lib.hid hBw
    clear hBw HCL hnn HNN
    cases r with
    | ret v s2 =>
      obtain ⟨sv2, rfl, hR2, hF⟩ := hpost
      have hb2 := HBw2.out _ hF
      obtain ⟨_, _, _, c3, _, _, c6, cf⟩ := runCells hR2
      have f3 := cf 3
      simp only [Option.isSome_none] at c6
      have HR2 := Lib.hid hR2
      have HB2 := Lib.hid hb2
      clear hR2 hb2 hF cf HBw2
      go_wp2_with (fail)
      go_ret
      have hR2 := HR2.out
      refine ⟨pr, cb, sv2, rfl, ⟨hR2.blk.set 3 _, hR2.cells.other (fun e => hR2.ne e.symm) _, hR2.said.set hR2.sp _, hR2.gp, hR2.gc, hR2.ne⟩, HB2.out.setCell (p := ⟨pr, 3, none⟩) hR2.gp _⟩
    | stop en s2 =>
      obtain ⟨sv2, rfl, hR2, hF⟩ := hpost
      have hb2 := HBw2.out _ hF
      obtain ⟨_, _, _, _, _, _, c6, _⟩ := runCells hR2
      simp only [Option.isSome_some] at c6
      have HR2 := Lib.hid hR2
      have HB2 := Lib.hid hb2
      clear hR2 hb2 hF HBw2
      go_wp2_with (fail)
      go_ret
      have hR2 := HR2.out
      exact ⟨pr, cb, sv2, rfl, ⟨hR2.blk, hR2.cells, hR2.said, hR2.gp, hR2.gc, hR2.ne⟩, HB2.out⟩

end Go.Proofs.YtbdbmmdnidonjaaDoor
