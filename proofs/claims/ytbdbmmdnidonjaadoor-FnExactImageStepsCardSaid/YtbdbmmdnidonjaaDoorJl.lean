/- A valid program of the machine, in plain words. No program in sight. A run of a program of the machine: impl's runMach. impl.RunMach and impl.MachSteps. -/
import Derived.Test.YtbdbmmdnidonjaaDoorJg
import Derived.Test.YtbdbmmdnidonjaaDoorJk
import Derived.Test.YtbdbmmdnidonjaaDoorJi
set_option linter.unusedVariables false
set_option linter.unusedSimpArgs false
set_option maxRecDepth 100000
namespace Go.Proofs.YtbdbmmdnidonjaaDoor
open Go.RowKit

theorem insOk_ok {k : Nat} {f : Mf} {x : Mi} (h : insOk k f x = true) (hp : 0 ≤ f.params) (hs : 0 ≤ f.slots) :
    NiOk k f.params.toNat f.slots.toNat x.ni ∧ x.ni.mi = x ∧ ((x.op = 20 ∨ x.op = 21) → x.ni.n < f.ins.length) := by
  obtain ⟨op, a, b, c, n⟩ := x
  unfold insOk formOk restOk at h
  simp only [Bool.and_eq_true, decide_eq_true_eq, inR_iff, Bool.or_eq_true, Bool.not_eq_true', beq_iff_eq] at h
  obtain ⟨⟨⟨⟨⟨⟨h1, h2⟩, ⟨_, hn0⟩⟩, ha⟩, hb⟩, hc⟩, hn⟩ := h
  have hN : hasF 3 op = true → 0 ≤ n ∧ n ≤ mostOf k f op := fun hf => hn.resolve_left (by simp [hf])
  have hn' : 0 ≤ n := by
    cases hf : hasF 3 op
    · rw [hf] at hn0
      have := hn0.resolve_left (by simp)
      omega
    · exact (hN hf).1
  simp only [Mi.ni]
  have e14 : op = 14 → n ≤ (k : Int) - 1 := fun e => by
    subst e; have := (hN (by decide)).2; simpa [mostOf] using this
  have e15 : op = 15 ∨ op = 16 → n ≤ f.slots - 1 := fun e => by
    rcases e with e | e <;> (subst e; have := (hN (by decide)).2; simpa [mostOf] using this)
  have e17 : op = 17 → n ≤ 2 := fun e => by
    subst e; have := (hN (by decide)).2; simpa [mostOf] using this
  have e18 : op = 18 → n ≤ f.params - 1 := fun e => by
    subst e; have := (hN (by decide)).2; simpa [mostOf] using this
  have e20 : op = 20 ∨ op = 21 → n ≤ (f.ins.length : Int) - 1 := fun e => by
    rcases e with e | e <;> (subst e; have := (hN (by decide)).2; simpa [mostOf] using this)
  have e1 : op = 1 → n ≤ 255 := fun e => by
    subst e; have := (hN (by decide)).2; simpa [mostOf] using this
  refine ⟨⟨⟨by simp only []; omega, by simp only []; omega⟩, by simp only []; omega, by simp only []; omega, by simp only []; omega, ?_, ?_, ?_, ?_, ?_⟩, ?_, ?_⟩
  · intro e; simp only [] at e ⊢; have := e1 (by omega); omega
  · intro e; simp only [] at e ⊢; have := e15 (by omega); omega
  · intro e; simp only [] at e ⊢; have := e17 (by omega); omega
  · intro e; simp only [] at e ⊢; have := e18 (by omega); omega
  · intro e; simp only [] at e ⊢; have := e14 (by omega); omega
  · simp only [Ni.mi, Mi.mk.injEq]; omega
  · intro e; have := e20 e; omega

theorem machPg_ok {fs : List Mf} (h : MachOk fs) : PgOk (machPg fs) fs.length ∧ MfsNat fs := by
  obtain ⟨h1, hf, h2⟩ := h
  have hfn : ∀ k f, fs[k]? = some f → (0 ≤ f.params ∧ f.params ≤ 3) ∧ (0 ≤ f.slots ∧ f.slots ≤ 64) ∧ 0 < f.ins.length ∧ (lastOp f = 20 ∨ lastOp f = 22) ∧ ∀ x ∈ f.ins, insOk k f x = true := fun k f hk => by
    have := hf k f hk
    unfold fnOk lastOk at this
    simp only [Bool.and_eq_true, inR_iff, decide_eq_true_eq, Bool.or_eq_true, Bool.not_eq_true'] at this
    obtain ⟨⟨⟨⟨a1, a2⟩, a3⟩, a4⟩, a5⟩ := this
    refine ⟨a1, a2, by omega, a4, fun x hx => ?_⟩
    have := List.any_eq_false.1 a5 x hx
    simpa using this
  have hat : ∀ k, k < fs.length → fs[k]? = some (mfAt fs k) := fun k hk => by
    unfold mfAt; rw [List.getElem?_eq_getElem hk]; rfl
  have hins : ∀ k at_, k < fs.length → at_ < (mfAt fs k).ins.length → (mfAt fs k).ins[at_]? = some (miAt fs k at_) := fun k at_ _ ha => by
    unfold miAt; rw [List.getElem?_eq_getElem ha]; rfl
  refine ⟨⟨fun k hk => ?_, fun k hk => ?_, fun k hk => ?_, fun k at_ hk hg => ?_, fun k at_ hk hg hj => ?_, fun k at_ hk hg hj hb => ?_⟩, fun f hfm => ?_, fun f hfm x hx => ?_⟩
  · have := (hfn k _ (hat k hk)).1
    show (mfAt fs k).params.toNat ≤ 3; omega
  · have := (hfn k _ (hat k hk)).2.1
    show (mfAt fs k).slots.toNat ≤ 64; omega
  · exact (hfn k _ (hat k hk)).2.2.1
  · obtain ⟨a1, a2, _, _, a5⟩ := hfn k _ (hat k hk)
    exact (insOk_ok (a5 _ (List.mem_of_getElem? (hins k at_ hk hg))) a1.1 a2.1).1
  · obtain ⟨a1, a2, _, _, a5⟩ := hfn k _ (hat k hk)
    have hok := insOk_ok (a5 _ (List.mem_of_getElem? (hins k at_ hk hg))) a1.1 a2.1
    refine hok.2.2 ?_
    have hm := hok.2.1
    have ho : ((miAt fs k at_).ni.op : Int) = (miAt fs k at_).op := congrArg Mi.op hm
    have hj' : (miAt fs k at_).ni.op = 20 ∨ (miAt fs k at_).ni.op = 21 := hj
    omega
  · obtain ⟨a1, a2, a3, a4, a5⟩ := hfn k _ (hat k hk)
    show at_ + 1 < (mfAt fs k).ins.length
    have hg' : at_ < (mfAt fs k).ins.length := hg
    rcases Nat.lt_or_ge (at_ + 1) (mfAt fs k).ins.length with hl | hl
    · exact hl
    · exfalso
      have hlast : (mfAt fs k).ins.length - 1 = at_ := by omega
      have hok := insOk_ok (a5 _ (List.mem_of_getElem? (hins k at_ hk hg))) a1.1 a2.1
      have ho : ((miAt fs k at_).ni.op : Int) = (miAt fs k at_).op := congrArg Mi.op hok.2.1
      have hlo : lastOp (mfAt fs k) = (miAt fs k at_).op := by
        unfold lastOp; rw [hlast, hins k at_ hk hg']; rfl
      have hj' : (miAt fs k at_).ni.op ≠ 20 := hj
      have hb' : (miAt fs k at_).ni.op ≠ 22 := hb
      rcases a4 with e | e <;> omega
  · obtain ⟨k, hk⟩ := List.getElem?_of_mem hfm
    have := hfn k f hk
    exact ⟨this.1.1, this.2.1.1⟩
  · obtain ⟨k, hk⟩ := List.getElem?_of_mem hfm
    obtain ⟨a1, a2, _, _, a5⟩ := hfn k f hk
    exact (insOk_ok (a5 x hx) a1.1 a2.1).2.1

end Go.Proofs.YtbdbmmdnidonjaaDoor

set_option maxRecDepth 100000
namespace Go.Proofs.YtbdbmmdnidonjaaDoor
open Go.RowKit

def cm0 (T : Nat) : Cm := ⟨List.replicate 16 0, [], T, []⟩
theorem cm0_ok (T : Nat) : CmOk (cm0 T) := ⟨by simp [cm0], small_zeros 16, fun x hx => by cases hx⟩
/-- a run of a program from its start -/
def runOf (P : Pg) (k : Nat) (inp : List Nat) (T : Nat) : Rs := loop P (T + 1) k 0 (newLc P k inp) (cm0 T)

def ResPost (r : Rs) (T : Nat) (w : World) (e : Ending) (w' : World) : Prop :=
  ∃ sv cv, e = .returned (.tuple #[.agg #[sv, .int .i64 (r.en : Int), .int .i64 (r.val : Int), cv], .int .i64 ((T - r.cm.left : Nat) : Int)]) ∧ Said w' w.heap.size sv r.cm.said ∧ w'.ownsRow w.heap.size 3 1 cv 16 (nats r.cm.cells) ∧ Apart2 cv sv ∧ Below w.heap.size w w'

theorem mac_new (w : World) (B T : Nat) (t : TypeId) (hB : B ≤ w.heap.size) :
    MacAt B (w.alloc (.cells #[.int .i64 (T : Int), .int .i64 0, .slice none 0 0, .int .i64 0, .int .i64 0, .int .i64 0, .int .i64 0, .int .i64 0, .int .i64 0, .int .i64 0, .int .i64 0, .int .i64 0, .int .i64 0, .int .i64 0, .int .i64 0, .int .i64 0, .int .i64 0, .int .i64 0, .int .i64 0] t)) w.heap.size [] T (cm0 T) (.slice none 0 0) := by
  refine ⟨?_, World.ownsRow_nil _ _ _ _, by simp [Value.ownBlock], Nat.le_refl _, hB⟩
  have h := Blk.new w #[.int .i64 (T : Int), .int .i64 0, .slice none 0 0, .int .i64 0, .int .i64 0, .int .i64 0, .int .i64 0, .int .i64 0, .int .i64 0, .int .i64 0, .int .i64 0, .int .i64 0, .int .i64 0, .int .i64 0, .int .i64 0, .int .i64 0, .int .i64 0, .int .i64 0, .int .i64 0] t
  have e : mkMac T (T - (cm0 T).left) (.slice none 0 0) (cm0 T).cells [] = (#[.int .i64 (T : Int), .int .i64 0, .slice none 0 0, .int .i64 0, .int .i64 0, .int .i64 0, .int .i64 0, .int .i64 0, .int .i64 0, .int .i64 0, .int .i64 0, .int .i64 0, .int .i64 0, .int .i64 0, .int .i64 0, .int .i64 0, .int .i64 0, .int .i64 0, .int .i64 0] : Array Value).toList := by
    show mkMac T (T - T) _ _ _ = _
    rw [Nat.sub_self]; rfl
  rw [e]; exact h

set_option maxHeartbeats 4000000 in
theorem runMach_any (w : World) (vb vo fl vcap : Nat) (fs : List Mf) (hm : MfsAt w (.slice (some ⟨vb, vo, none⟩) fl vcap) fs) (hfl : fl = fs.length) (h1 : 1 ≤ fl) (hP : PgOk (machPg fs) fs.length) (hN : MfsNat fs) (hle : MfsLe fs)
    (b off n cap : Nat) (inp : List Nat) (hsrc : SrcAt w b off n cap inp) (hin : Small inp) (hpar : (machPg fs).par (fl - 1) ≤ n) (T : Nat) (hT : T ≤ 200000) :
    Calls Tryd.prog 49 #[.agg #[.slice (some ⟨vb, vo, none⟩) fl vcap], .slice (some ⟨b, off, none⟩) n cap, .int .i64 (T : Int)] w (ResPost (runOf (machPg fs) (fl - 1) inp T) T w) := by
  have hok := (loop_ok hP (T + 1) (fl - 1) 0 (newLc (machPg fs) (fl - 1) inp) (cm0 T) (by omega) (hP.start _ (by omega)) (newLc_ok _ _ _ (by rw [hsrc.len]; exact hpar) hin) (cm0_ok T)).1
  have HRM : Hid (∀ w', Below w.heap.size w w' → MacAt w.heap.size w' (w.heap.size + 1 + 1 + 1) [] T (cm0 T) (.slice none 0 0) → w'.cell? ⟨w.heap.size + 1 + 1 + 1 + 1, 0, none⟩ = some (.pointer (some ⟨w.heap.size + 1 + 1 + 1, 0, none⟩)) → w'.cell? ⟨w.heap.size, 0, none⟩ = some (.slice (some ⟨vb, vo, none⟩) fl vcap) → w'.cell? ⟨w.heap.size + 1, 0, none⟩ = some (.slice (some ⟨b, off, none⟩) n cap) →
      Calls Tryd.prog 77 #[.pointer (some ⟨w.heap.size + 1 + 1 + 1 + 1, 0, none⟩), .pointer (some ⟨w.heap.size, 0, none⟩), .pointer (some ⟨w.heap.size + 1, 0, none⟩)] w' (RunPost w.heap.size (w.heap.size + 1 + 1 + 1) [] T (.slice none 0 0) (runOf (machPg fs) (fl - 1) inp T) w')) :=
    Lib.hid fun w' hb hM c0 c1 c2 => rm1_any w vb vo fl vcap fs hm hfl h1 hP hN hle w' _ [] T (cm0 T) _ b off n cap inp _ _ _ (T + 1) (by show T < T + 1; omega) hb hM (cm0_ok T) (hsrc.below hb) hin hpar (by show 0 + T ≤ T; omega) (by omega) c0 c1 c2
  generalize hrr : runOf (machPg fs) (fl - 1) inp T = r at *
  have hok' : CmOk r.cm := by rw [← hrr]; exact hok
  have HOK := Lib.hid hok'
  have hmf : ∀ (fn : Fn) (first cap : Array Value) (w : World), (Instr.makeFunc fn first cap).run Tryd.prog w = .ok (.func fn first cap) w := fun _ _ _ _ => rfl
  clear hm hfl h1 hP hN hle hsrc hin hpar hok hok' hrr
  go_enter Tryd.func49, Tryd.ntmps49
  go_wp2_with (fail)
  go_at_call 76
  generalize hw1 : World.alloc (World.alloc (World.alloc (World.alloc (w.alloc _) _) _) _) _ = w1
  have hb1 : Below w.heap.size w w1 := by rw [← hw1]; exact ((below3 w _ _ _).alloc (by simp; omega) _).alloc (by simp; omega) _
  have hsz1 : w1.heap.size = w.heap.size + 5 := by rw [← hw1]; simp
  have hM1 : MacAt w.heap.size w1 (w.heap.size + 1 + 1 + 1) [] T (cm0 T) (.slice none 0 0) := by
    rw [← hw1]
    have h := mac_new (((w.alloc (.cells #[.slice (some ⟨vb, vo, none⟩) fl vcap] 25)).alloc (.cells #[.slice (some ⟨b, off, none⟩) n cap] 26)).alloc (.cells #[.slice none 0 0, .int .i64 0, .int .i64 0, .slice none 0 0] 31)) w.heap.size T 98 (by simp; omega)
    rw [show (((w.alloc (.cells #[.slice (some ⟨vb, vo, none⟩) fl vcap] 25)).alloc (.cells #[.slice (some ⟨b, off, none⟩) n cap] 26)).alloc (.cells #[.slice none 0 0, .int .i64 0, .int .i64 0, .slice none 0 0] 31)).heap.size = w.heap.size + 1 + 1 + 1 by simp] at h
    exact h.below (below1 _ _)
  have d0 : w1.cell? ⟨w.heap.size, 0, none⟩ = some (.slice (some ⟨vb, vo, none⟩) fl vcap) := by rw [← hw1]; simp [go_sem]
  have d1 : w1.cell? ⟨w.heap.size + 1, 0, none⟩ = some (.slice (some ⟨b, off, none⟩) n cap) := by rw [← hw1]; simp [go_sem]
  have d4 : w1.cell? ⟨w.heap.size + 1 + 1 + 1 + 1, 0, none⟩ = some (.pointer (some ⟨w.heap.size + 1 + 1 + 1, 0, none⟩)) := by rw [← hw1]; simp [go_sem]
  have hB2 : Blk w1 (w.heap.size + 1 + 1) [.slice none 0 0, .int .i64 0, .int .i64 0, .slice none 0 0] := by
    rw [← hw1]
    have h := Blk.new ((w.alloc (.cells #[.slice (some ⟨vb, vo, none⟩) fl vcap] 25)).alloc (.cells #[.slice (some ⟨b, off, none⟩) n cap] 26)) #[.slice none 0 0, .int .i64 0, .int .i64 0, .slice none 0 0] 31
    rw [show ((w.alloc (.cells #[.slice (some ⟨vb, vo, none⟩) fl vcap] 25)).alloc (.cells #[.slice (some ⟨b, off, none⟩) n cap] 26)).heap.size = w.heap.size + 1 + 1 by simp] at h
    exact (h.alloc _).alloc _
  have HM1 := Lib.hid hM1
  clear hw1 hM1
  refine (outcome_any w1 w.heap.size (w.heap.size + 1 + 1 + 1) [] T (.slice none 0 0) r _ (by omega) (fun k hk => by simp [Value.ownBlock] at hk) HOK.out (fun w' hb => HRM.out w' (hb1.trans (hb.mono hb1.size)) (HM1.out.below hb) ?_ ?_ ?_)).mono ?_
  · rw [hb.cell (p := ⟨w.heap.size + 1 + 1 + 1 + 1, 0, none⟩) (by simp only []; omega)]; exact d4
  · rw [hb.cell (p := ⟨w.heap.size, 0, none⟩) (by simp only []; omega)]; exact d0
  · rw [hb.cell (p := ⟨w.heap.size + 1, 0, none⟩) (by simp only []; omega)]; exact d1
  rintro e w2 ⟨sv', cv, rfl, hM2, hown, hF, hap⟩
  have HAP := Lib.hid hap
  clear hap
  obtain ⟨sa, sc, hform⟩ := saidForm hM2.said
  obtain ⟨sn, hsn⟩ : ∃ sn, sn = r.cm.said.length := ⟨_, rfl⟩
  rw [← hsn] at hform
  subst hform
  obtain ⟨ca, cc, hcf⟩ : ∃ ca cc, cv = .slice ca 16 cc := by
    rcases hown.2 with ⟨_, h2⟩ | ⟨g, cp, cur, h1, _⟩
    · cases h2
    · exact ⟨_, cp, h1⟩
  subst hcf
  have hkeep : ∀ k, k < w1.heap.size → k ≠ w.heap.size + 1 + 1 + 1 → w2.heap[k]? = w1.heap[k]? := fun k h1 h2 => hF.block h1 (by simpa using h2) (by simp [Value.ownBlock])
  have hsz2 := hF.size
  have hsn5 : ∀ k, Value.ownBlock (.slice sa sn sc) = some k → k ≠ w.heap.size + 1 + 1 := fun k hk e => (hF.ne (k := w.heap.size + 1 + 1) (by omega) (by simp [Value.ownBlock])) (by rw [hk, e])
  have HSN := Lib.hid hsn5
  have hBo : Blk w2 (w.heap.size + 1 + 1) [.slice none 0 0, .int .i64 0, .int .i64 0, .slice none 0 0] := hB2.same (hkeep (w.heap.size + 1 + 1) (by omega) (by omega))
  have m4 : w2.cell? ⟨w.heap.size + 1 + 1 + 1 + 1, 0, none⟩ = some (.pointer (some ⟨w.heap.size + 1 + 1 + 1, 0, none⟩)) := (World.cell?_of_block (a := ⟨w.heap.size + 1 + 1 + 1 + 1, 0, none⟩) (hkeep (w.heap.size + 1 + 1 + 1 + 1) (by omega) (by omega))).trans d4
  have mu := (macCells hM2 HOK.out.cells).2.2.1
  have hFb : Below w.heap.size w w2 := hb1.trans (hF.below_of (by omega) (fun k hk => by have := List.mem_singleton.1 hk; omega) (fun k hk => by simp [Value.ownBlock] at hk))
  have HSD := Lib.hid hM2.said; have HOW := Lib.hid hown; have HFB := Lib.hid hFb; have HBO := Lib.hid hBo
  clear hM2 hown hF hFb hBo hkeep hB2 d0 d1 d4 hb1 HM1 HRM hsn hsn5
  go_wp2_with (fail)
  generalize hw3 : w2.alloc _ = w3
  obtain ⟨n0, n1, n2, n3⟩ : w3.cell? ⟨w2.heap.size, 0, none⟩ = some (.slice sa sn sc) ∧ w3.cell? ⟨w2.heap.size, 1, none⟩ = some (.int .i64 (r.en : Int)) ∧ w3.cell? ⟨w2.heap.size, 2, none⟩ = some (.int .i64 (r.val : Int)) ∧ w3.cell? ⟨w2.heap.size, 3, none⟩ = some (.slice ca 16 cc) := by
    rw [← hw3]
    have hB := Blk.new w2 #[.slice sa sn sc, .int .i64 (r.en : Int), .int .i64 (r.val : Int), .slice ca 16 cc] 31
    refine ⟨?_, ?_, ?_, ?_⟩
    all_goals rw [hB.cell]; rfl
  have hb3 : Below w2.heap.size w2 w3 := by rw [← hw3]; exact below1 _ _
  have m4' : w3.cell? ⟨w.heap.size + 1 + 1 + 1 + 1, 0, none⟩ = some (.pointer (some ⟨w.heap.size + 1 + 1 + 1, 0, none⟩)) := by rw [hb3.cell (p := ⟨w.heap.size + 1 + 1 + 1 + 1, 0, none⟩) (World.block_lt_of_cell? _ _ m4)]; exact m4
  have mu' : w3.cell? ⟨w.heap.size + 1 + 1 + 1, 1, none⟩ = some (.int .i64 ((T - r.cm.left : Nat) : Int)) := by rw [hb3.cell (p := ⟨w.heap.size + 1 + 1 + 1, 1, none⟩) (World.block_lt_of_cell? _ _ mu)]; exact mu
  have hBo3 := HBO.out.below hb3
  have t0 : w3.cell? ⟨w.heap.size + 1 + 1, 0, none⟩ = some (.slice none 0 0) := by rw [hBo3.cell]; rfl
  have t1 : w3.cell? ⟨w.heap.size + 1 + 1, 1, none⟩ = some (.int .i64 0) := by rw [hBo3.cell]; rfl
  have t2 : w3.cell? ⟨w.heap.size + 1 + 1, 2, none⟩ = some (.int .i64 0) := by rw [hBo3.cell]; rfl
  have t3 : w3.cell? ⟨w.heap.size + 1 + 1, 3, none⟩ = some (.slice none 0 0) := by rw [hBo3.cell]; rfl
  have f0 := hBo3.frozen 0
  have f1 := hBo3.frozen 1
  have f2 := hBo3.frozen 2
  have f3 := hBo3.frozen 3
  have HSD3 := Lib.hid (HSD.out.below hb3)
  have HOW3 := Lib.hid (ownsRow_below HOW.out hb3)
  have HFB3 := Lib.hid (HFB.out.trans (hb3.mono HFB.out.size))
  clear hw3 hb3 m4 mu hBo3 HSD HOW HFB HBO
  refine wp_region_held (fun W => (W.cell? ⟨w2.heap.size, 0, none⟩ = some (.slice sa sn sc) ∧ W.cell? ⟨w2.heap.size, 1, none⟩ = some (.int .i64 (r.en : Int)) ∧ W.cell? ⟨w2.heap.size, 2, none⟩ = some (.int .i64 (r.val : Int)) ∧ W.cell? ⟨w2.heap.size, 3, none⟩ = some (.slice ca 16 cc)) ∧ W.cell? ⟨w.heap.size + 1 + 1 + 1 + 1, 0, none⟩ = some (.pointer (some ⟨w.heap.size + 1 + 1 + 1, 0, none⟩)) ∧ W.cell? ⟨w.heap.size + 1 + 1 + 1, 1, none⟩ = some (.int .i64 ((T - r.cm.left : Nat) : Int))) [(0, true), (1, true), (2, false), (3, false), (4, true)] [5, 6] 6 (by kernel_rfl) (by kernel_rfl) (fun d v c a w h => by cases d <;> exact h) ⟨⟨n0, n1, n2, n3⟩, m4', mu'⟩ ?_
  simp only [pickO, List.map_cons, List.map_nil, List.getD_cons_zero, List.getD_cons_succ]
  refine heldO_step (v := ?_) rfl ?_ ?_
  rotate_left
  · intro W hS
    obtain ⟨⟨k0, k1, k2, k3⟩, k4, k5⟩ := hS
    go_simp
    try rfl
  simp only [Act.put, List.setIfInBounds_toArray, List.set_cons_zero, List.set_cons_succ]
  refine heldO_step (v := ?_) rfl ?_ ?_
  rotate_left
  · intro W hS
    obtain ⟨⟨k0, k1, k2, k3⟩, k4, k5⟩ := hS
    go_simp
    try rfl
  simp only [Act.put, List.setIfInBounds_toArray, List.set_cons_zero, List.set_cons_succ]
  refine heldO_stepY (v := ?_) rfl ?_ ?_
  rotate_left
  · intro W
    go_simp
    try rfl
  simp only [Act.put, List.setIfInBounds_toArray, List.set_cons_zero, List.set_cons_succ]
  refine heldO_stepY (v := ?_) rfl ?_ ?_
  rotate_left
  · intro W
    go_simp
    try rfl
  simp only [Act.put, List.setIfInBounds_toArray, List.set_cons_zero, List.set_cons_succ]
  refine heldO_step (v := ?_) rfl ?_ ?_
  rotate_left
  · intro W hS
    obtain ⟨⟨k0, k1, k2, k3⟩, k4, k5⟩ := hS
    go_simp
    try rfl
  simp only [Act.put, List.setIfInBounds_toArray, List.set_cons_zero, List.set_cons_succ]
  refine heldO_nil ?_
  refine tailO_step rfl (fun K hK => ?_)
  go_simp
  refine hK _ _ (.inr ⟨⟨?_, ?_, ?_, ?_⟩, ?_, ?_⟩) ?_
  · simp [go_sem, n0]
  · simp [go_sem, n1]
  · simp [go_sem, n2]
  · simp [go_sem, n3]
  · simp [go_sem, m4']
  · simp [go_sem, mu']
  clear hK K
  refine tailO_step rfl (fun K hK => ?_)
  go_simp
  refine hK _ _ (.inl rfl) (tailO_nil ?_)
  clear hK K
  go_wp2_with (fail)
  refine bodyPost_ret (v := .tuple #[.agg #[.slice sa sn sc, .int .i64 (r.en : Int), .int .i64 (r.val : Int), .slice ca 16 cc], .int .i64 ((T - r.cm.left : Nat) : Int)]) (by simp [results, Tryd.results49, go_sem, t0, t1, t2, t3]) rfl ?_
  have hs5 : ∀ k, Value.ownBlock (.slice sa sn sc) = some k → k ≠ w.heap.size + 1 + 1 := HSN.out
  refine ⟨_, _, rfl, ?_, ?_, HAP.out, ?_⟩
  · exact (((HSD3.out.set (a := ⟨w.heap.size + 1 + 1, 0, none⟩) (fun e => hs5 _ e rfl) _).set (a := ⟨w.heap.size + 1 + 1, 1, none⟩) (fun e => hs5 _ e rfl) _).set (a := ⟨w.heap.size + 1 + 1, 2, none⟩) (fun e => hs5 _ e rfl) _).set (a := ⟨w.heap.size + 1 + 1, 3, none⟩) (fun e => hs5 _ e rfl) _
  · refine ownsRow_mono (ownsRow_same HOW3.out fun k hk => ?_) (by omega)
    have := (World.ownsRow.lt HOW3.out k hk).1
    have e1 : k ≠ w.heap.size + 1 + 1 := by omega
    refine (Below.heap_setCell _ _ _ _ e1).trans ((Below.heap_setCell _ _ _ _ e1).trans ((Below.heap_setCell _ _ _ _ e1).trans (Below.heap_setCell _ _ _ _ e1)))
  · exact ((((HFB3.out.setCell (p := ⟨w.heap.size + 1 + 1, 0, none⟩) (by simp only []; omega) _).setCell (p := ⟨w.heap.size + 1 + 1, 1, none⟩) (by simp only []; omega) _).setCell (p := ⟨w.heap.size + 1 + 1, 2, none⟩) (by simp only []; omega) _).setCell (p := ⟨w.heap.size + 1 + 1, 3, none⟩) (by simp only []; omega) _).drew

end Go.Proofs.YtbdbmmdnidonjaaDoor

set_option maxRecDepth 100000
namespace Go.Proofs.YtbdbmmdnidonjaaDoor
open Go.RowKit

/-- numbers that are handed in -/
structure InSrc (w : World) (b off n cap : Nat) (zs : List Int) : Prop where
  len : zs.length = n
  cap : n ≤ cap
  small : n ≤ 1048576
  cells : ∀ i, i < n → w.cell? ⟨b, off + i, none⟩ = some (.int .i64 (zs.getD i 0))
theorem InSrc.ints {w : World} {b off n cap : Nat} {zs : List Int} (h : InSrc w b off n cap zs) : IntsAt w (.slice (some ⟨b, off, none⟩) n cap) zs :=
  ⟨_, cap, by rw [h.len], fun i hi => ⟨b, off, rfl, h.cells i (by rw [← h.len]; exact hi)⟩⟩
theorem InSrc.below {w w' : World} {b off n cap : Nat} {zs : List Int} (h : InSrc w b off n cap zs) (hb : Below w.heap.size w w') : InSrc w' b off n cap zs :=
  ⟨h.len, h.cap, h.small, fun i hi => by rw [hb.cell (p := ⟨b, off + i, none⟩) (World.block_lt_of_cell? _ _ (h.cells i hi))]; exact h.cells i hi⟩

def toNats (zs : List Int) : List Nat := zs.map Int.toNat
theorem valsOk_nats {zs : List Int} (h : valsOk zs = true) : Small (toNats zs) ∧ ∀ i, i < zs.length → zs.getD i 0 = (((toNats zs).getD i 0 : Nat) : Int) := by
  have hall : ∀ z ∈ zs, 0 ≤ z ∧ z ≤ 255 := fun z hz => inR_iff.1 (List.all_eq_true.1 h z hz)
  refine ⟨fun x hx => ?_, fun i hi => ?_⟩
  · obtain ⟨z, hz, rfl⟩ := List.mem_map.1 hx
    have := hall z hz; omega
  · have := hall zs[i] (List.getElem_mem hi)
    simp only [toNats, List.getD_eq_getElem?_getD, List.getElem?_map, List.getElem?_eq_getElem hi, Option.map_some, Option.getD_some]
    omega
theorem InSrc.src {w : World} {b off n cap : Nat} {zs : List Int} (h : InSrc w b off n cap zs) (hv : valsOk zs = true) : SrcAt w b off n cap (toNats zs) :=
  ⟨by simp [toNats, h.len], h.cap, h.small, fun i hi => by rw [h.cells i hi, (valsOk_nats hv).2 i (by rw [h.len]; exact hi)]⟩

open Classical in
/-- what a run answers: nothing if it cannot be run so -/
noncomputable def runAns (fs : List Mf) (zs : List Int) (steps : Int) : Option Rs :=
  if RunsOk fs zs ∧ 0 ≤ steps ∧ steps ≤ 200000 then some (runOf (machPg fs) (fs.length - 1) (toNats zs) steps.toNat) else none
open Classical in
noncomputable def stepsAns (fs : List Mf) (zs : List Int) : Int :=
  if RunsOk fs zs then (if (runOf (machPg fs) (fs.length - 1) (toNats zs) 200000).en = 3 then -1 else ((200000 - (runOf (machPg fs) (fs.length - 1) (toNats zs) 200000).cm.left : Nat) : Int)) else -1

def OutAt (w : World) (B : Nat) (o : Option Rs) (v : Value) : Prop :=
  match o with
  | none => v = .agg #[.slice none 0 0, .int .i64 0, .int .i64 0, .slice none 0 0]
  | some r => ∃ sa sn sc ca cc, v = .agg #[.slice sa sn sc, .int .i64 (r.en : Int), .int .i64 (r.val : Int), .slice ca 16 cc] ∧ Said w B (.slice sa sn sc) r.cm.said ∧ w.ownsRow B 3 1 (.slice ca 16 cc) 16 (nats r.cm.cells) ∧ Apart2 (.slice ca 16 cc) (.slice sa sn sc)
def AnsPost (o : Option Rs) (w : World) (e : Ending) (w' : World) : Prop := ∃ v, e = .returned (.tuple #[v, .bool o.isSome]) ∧ OutAt w' w.heap.size o v ∧ Below w.heap.size w w'

theorem runMach_ok (w : World) (vb vo fl vcap : Nat) (fs : List Mf) (zs : List Int) (hm : MfsAt w (.slice (some ⟨vb, vo, none⟩) fl vcap) fs) (hfl : fl = fs.length) (hle : MfsLe fs) (hok : RunsOk fs zs) (b off n cap : Nat) (hs : InSrc w b off n cap zs) (T : Nat) (hT : T ≤ 200000) :
    Calls Tryd.prog 49 #[.agg #[.slice (some ⟨vb, vo, none⟩) fl vcap], .slice (some ⟨b, off, none⟩) n cap, .int .i64 (T : Int)] w fun e w' => ∃ v, e = .returned (.tuple #[v, .int .i64 ((T - (runOf (machPg fs) (fs.length - 1) (toNats zs) T).cm.left : Nat) : Int)]) ∧ OutAt w' w.heap.size (some (runOf (machPg fs) (fs.length - 1) (toNats zs) T)) v ∧ Below w.heap.size w w' := by
  obtain ⟨hmo, hv, hp⟩ := hok
  obtain ⟨hP, hN⟩ := machPg_ok hmo
  have h1 : 1 ≤ fl := by rw [hfl]; exact hmo.1.1
  have hpar : (machPg fs).par (fl - 1) ≤ n := by
    show (mfAt fs (fl - 1)).params.toNat ≤ n
    rw [hfl, ← hp, hs.len]; simp
  rw [← hfl]
  refine (runMach_any w vb vo fl vcap fs hm hfl h1 hP hN hle b off n cap (toNats zs) (hs.src hv) (valsOk_nats hv).1 hpar T hT).mono ?_
  rintro e w' ⟨sv, cv, rfl, hsd, hown, hap, hb⟩
  obtain ⟨sa, sc, hform⟩ := saidForm hsd
  obtain ⟨ca, cc, hcf⟩ : ∃ ca cc, cv = .slice ca 16 cc := by
    rcases hown.2 with ⟨_, h2⟩ | ⟨g, cp, cur, h1, _⟩
    · cases h2
    · exact ⟨_, cp, h1⟩
  subst hform hcf
  exact ⟨_, rfl, ⟨_, _, _, _, _, rfl, hsd, hown, hap⟩, hb⟩

theorem row_keep {w w' : World} {B B' : Nat} {e : TypeId} {size : Nat} {v : Value} {n : Nat} {xs : List Value} (h : w.ownsRow B' e size v n xs) (hB : B ≤ B') (hh : ∀ k, B' ≤ k → k < w.heap.size → w'.heap[k]? = w.heap[k]?) : w'.ownsRow B e size v n xs :=
  ownsRow_mono (ownsRow_same h fun k hk => hh k (World.ownsRow.lt h k hk).1 (World.ownsRow.lt h k hk).2) hB

set_option maxHeartbeats 2000000 in
theorem runMach15 (w : World) (vb vo fl vcap : Nat) (fs : List Mf) (zs : List Int) (hF : Forms w) (hm : MfsAt w (.slice (some ⟨vb, vo, none⟩) fl vcap) fs) (hfl : fl = fs.length) (hle : MfsLe fs) (b off n cap : Nat) (hs : InSrc w b off n cap zs) (steps : Int) :
    Calls Tryd.prog 15 #[.agg #[.slice (some ⟨vb, vo, none⟩) fl vcap], .slice (some ⟨b, off, none⟩) n cap, .int .i64 steps] w (AnsPost (runAns fs zs steps) w) := by
  have HMR := Lib.hid (fun w' (hb : Below w.heap.size w w') => machRuns_any w' _ _ fs zs (hF.below hb) (hm.below hb) hle (hs.below hb).ints (by rw [hs.len]; have := hs.small; omega))
  have HRM := Lib.hid (fun w' (hb : Below w.heap.size w w') (hok : RunsOk fs zs) T (hT : T ≤ 200000) => runMach_ok w' vb vo fl vcap fs zs (hm.below hb) hfl hle hok b off n cap (hs.below hb) T hT)
  obtain ⟨pw, hpw⟩ : ∃ pw, inR 0 200000 steps = pw := ⟨_, rfl⟩
  have HW := Lib.hid (within_named steps 0 200000 pw hpw)
  have HPW := Lib.hid hpw
  clear hF hm hfl hle hs hpw
  unfold FitPost at HMR
  go_enter Tryd.func15, Tryd.ntmps15
  go_wp2_with (fail)
  go_at_call 48
  refine (HMR.out _ (below2 _ _ _)).mono ?_
  rintro e w1 ⟨q, rfl, hq, hb⟩
  obtain ⟨hc, hf⟩ := bcell hb
  have p0 : w1.cell? ⟨w.heap.size, 0, none⟩ = some (.slice (some ⟨vb, vo, none⟩) fl vcap) := by rw [hc _ _ (by simp; omega)]; simp [go_sem]
  have t0 : w1.cell? ⟨w.heap.size + 1, 0, none⟩ = some (.slice none 0 0) := by rw [hc _ _ (by simp)]; simp [go_sem]
  have t1 : w1.cell? ⟨w.heap.size + 1, 1, none⟩ = some (.int .i64 0) := by rw [hc _ _ (by simp)]; simp [go_sem]
  have t2 : w1.cell? ⟨w.heap.size + 1, 2, none⟩ = some (.int .i64 0) := by rw [hc _ _ (by simp)]; simp [go_sem]
  have t3 : w1.cell? ⟨w.heap.size + 1, 3, none⟩ = some (.slice none 0 0) := by rw [hc _ _ (by simp)]; simp [go_sem]
  have f0 : w1.frozen? ⟨w.heap.size + 1, 0, none⟩ = false := by rw [hf _ _ (by simp)]; simp [go_sem]
  have f1 : w1.frozen? ⟨w.heap.size + 1, 1, none⟩ = false := by rw [hf _ _ (by simp)]; simp [go_sem]
  have f2 : w1.frozen? ⟨w.heap.size + 1, 2, none⟩ = false := by rw [hf _ _ (by simp)]; simp [go_sem]
  have f3 : w1.frozen? ⟨w.heap.size + 1, 3, none⟩ = false := by rw [hf _ _ (by simp)]; simp [go_sem]
  have hB := (below2 w (.cells #[.slice (some ⟨vb, vo, none⟩) fl vcap] 25) (.cells #[.slice none 0 0, .int .i64 0, .int .i64 0, .slice none 0 0] 31)).trans (hb.mono (by simp; omega))
  have hsz : w.heap.size + 2 ≤ w1.heap.size := by have := hb.size; simp at this; omega
  have HB := Lib.hid hB
  have HQ := Lib.hid hq
  clear hb hB hq hc hf HMR
  cases q with
  | false =>
    have hno : runAns fs zs steps = none := if_neg fun h => by have := HQ.out.2 h.1; cases this
    have HNO := Lib.hid hno
    clear hno HRM HW HQ
    go_wp2_with (fail)
    refine bodyPost_ret (v := .tuple #[.agg #[.slice none 0 0, .int .i64 0, .int .i64 0, .slice none 0 0], .bool false]) (by simp [results, Tryd.results15, go_sem, t0, t1, t2, t3]) rfl ?_
    rw [HNO.out]
    exact ⟨_, rfl, rfl, (((HB.out.setCell (p := ⟨w.heap.size + 1, 0, none⟩) (by simp only []; omega) _).setCell (p := ⟨w.heap.size + 1, 1, none⟩) (by simp only []; omega) _).setCell (p := ⟨w.heap.size + 1, 2, none⟩) (by simp only []; omega) _).setCell (p := ⟨w.heap.size + 1, 3, none⟩) (by simp only []; omega) _⟩
  | true =>
    have hok : RunsOk fs zs := HQ.out.1 rfl
    have HOK := Lib.hid hok
    clear hok HQ
    go_wp2_with (fail)
    go_at_call 52
    refine (HW.out _).mono ?_
    rintro e _ ⟨rfl, rfl⟩
    cases pw with
    | false =>
      have hno : runAns fs zs steps = none := if_neg fun h => by
        have h2 : inR 0 200000 steps = true := inR_iff.2 h.2
        have := HPW.out; rw [h2] at this; cases this
      have HNO := Lib.hid hno
      clear hno HRM HW HOK
      go_wp2_with (fail)
      refine bodyPost_ret (v := .tuple #[.agg #[.slice none 0 0, .int .i64 0, .int .i64 0, .slice none 0 0], .bool false]) (by simp [results, Tryd.results15, go_sem, t0, t1, t2, t3]) rfl ?_
      rw [HNO.out]
      exact ⟨_, rfl, rfl, (((HB.out.setCell (p := ⟨w.heap.size + 1, 0, none⟩) (by simp only []; omega) _).setCell (p := ⟨w.heap.size + 1, 1, none⟩) (by simp only []; omega) _).setCell (p := ⟨w.heap.size + 1, 2, none⟩) (by simp only []; omega) _).setCell (p := ⟨w.heap.size + 1, 3, none⟩) (by simp only []; omega) _⟩
    | true =>
      have hst := inR_iff.1 HPW.out
      obtain ⟨T, hT⟩ : ∃ T : Nat, steps = T := ⟨steps.toNat, by omega⟩
      have hans : runAns fs zs steps = some (runOf (machPg fs) (fs.length - 1) (toNats zs) T) := by
        unfold runAns
        rw [if_pos ⟨HOK.out, hst.1, hst.2⟩, hT, Int.toNat_natCast]
      have HRT := Lib.hid (HRM.out w1 HB.out HOK.out T (by omega))
      subst hT
      generalize runOf (machPg fs) (fs.length - 1) (toNats zs) T = r at *
      have HANS := Lib.hid hans
      clear hans HRM HW HOK hst
      go_wp2_with (fail)
      go_at_call 49
      refine HRT.out.mono ?_
      rintro e w2 ⟨v, rfl, ⟨sa, sn, sc, ca, cc, rfl, hsd, hown, hap⟩, hb2⟩
      have HAP := Lib.hid hap
      clear hap
      obtain ⟨hc, hf⟩ := bcell hb2
      have u0 : w2.cell? ⟨w.heap.size + 1, 0, none⟩ = some (.slice none 0 0) := by rw [hc _ _ (by omega)]; exact t0
      have u1 : w2.cell? ⟨w.heap.size + 1, 1, none⟩ = some (.int .i64 0) := by rw [hc _ _ (by omega)]; exact t1
      have u2 : w2.cell? ⟨w.heap.size + 1, 2, none⟩ = some (.int .i64 0) := by rw [hc _ _ (by omega)]; exact t2
      have u3 : w2.cell? ⟨w.heap.size + 1, 3, none⟩ = some (.slice none 0 0) := by rw [hc _ _ (by omega)]; exact t3
      have g0 : w2.frozen? ⟨w.heap.size + 1, 0, none⟩ = false := by rw [hf _ _ (by omega)]; exact f0
      have g1 : w2.frozen? ⟨w.heap.size + 1, 1, none⟩ = false := by rw [hf _ _ (by omega)]; exact f1
      have g2 : w2.frozen? ⟨w.heap.size + 1, 2, none⟩ = false := by rw [hf _ _ (by omega)]; exact f2
      have g3 : w2.frozen? ⟨w.heap.size + 1, 3, none⟩ = false := by rw [hf _ _ (by omega)]; exact f3
      have hsz2 := hb2.size
      have HS := Lib.hid hsd; have HO := Lib.hid hown; have HB2 := Lib.hid (HB.out.trans (hb2.mono HB.out.size))
      have hlt : w.heap.size + 1 < w2.heap.size := by omega
      clear hsd hown hb2 hc hf t0 t1 t2 t3 f0 f1 f2 f3 p0 HRT
      go_wp2_with (fail)
      refine bodyPost_ret (v := .tuple #[.agg #[.slice sa sn sc, .int .i64 (r.en : Int), .int .i64 (r.val : Int), .slice ca 16 cc], .bool true]) (by simp [results, Tryd.results15, go_sem, hlt, u0, u1, u2, u3]) rfl ?_
      rw [HANS.out]
      have hh : ∀ k, w1.heap.size ≤ k → k < w2.heap.size → (((((w2.setCell ⟨w.heap.size + 1, 0, none⟩ (.slice sa sn sc)).setCell ⟨w.heap.size + 1, 1, none⟩ (.int .i64 (r.en : Int))).setCell ⟨w.heap.size + 1, 2, none⟩ (.int .i64 (r.val : Int))).setCell ⟨w.heap.size + 1, 3, none⟩ (.slice ca 16 cc)).alloc (.cells #[.slice sa sn sc, .int .i64 (r.en : Int), .int .i64 (r.val : Int), .slice ca 16 cc] 31)).heap[k]? = w2.heap[k]? := fun k h1 h2 => by
        have e1 : k ≠ w.heap.size + 1 := by omega
        rw [Below.heap_alloc _ _ _ (by simpa using h2), Below.heap_setCell _ _ _ _ e1, Below.heap_setCell _ _ _ _ e1, Below.heap_setCell _ _ _ _ e1, Below.heap_setCell _ _ _ _ e1]
      refine ⟨_, rfl, ⟨sa, sn, sc, ca, cc, rfl, row_keep HS.out (by omega) hh, row_keep HO.out (by omega) hh, HAP.out⟩, ?_⟩
      exact ((((HB2.out.setCell (p := ⟨w.heap.size + 1, 0, none⟩) (by simp only []; omega) _).setCell (p := ⟨w.heap.size + 1, 1, none⟩) (by simp only []; omega) _).setCell (p := ⟨w.heap.size + 1, 2, none⟩) (by simp only []; omega) _).setCell (p := ⟨w.heap.size + 1, 3, none⟩) (by simp only []; omega) _).alloc (by simp; omega) _

set_option maxHeartbeats 2000000 in
theorem machSteps13 (w : World) (vb vo fl vcap : Nat) (fs : List Mf) (zs : List Int) (hF : Forms w) (hm : MfsAt w (.slice (some ⟨vb, vo, none⟩) fl vcap) fs) (hfl : fl = fs.length) (hle : MfsLe fs) (b off n cap : Nat) (hs : InSrc w b off n cap zs) :
    Calls Tryd.prog 13 #[.agg #[.slice (some ⟨vb, vo, none⟩) fl vcap], .slice (some ⟨b, off, none⟩) n cap] w fun e w' => e = .returned (.int .i64 (stepsAns fs zs)) ∧ Below w.heap.size w w' := by
  have HMR := Lib.hid (fun w' (hb : Below w.heap.size w w') => machRuns_any w' _ _ fs zs (hF.below hb) (hm.below hb) hle (hs.below hb).ints (by rw [hs.len]; have := hs.small; omega))
  have HRM := Lib.hid (fun w' (hb : Below w.heap.size w w') (hok : RunsOk fs zs) => runMach_ok w' vb vo fl vcap fs zs (hm.below hb) hfl hle hok b off n cap (hs.below hb) 200000 (Nat.le_refl _))
  clear hF hm hfl hle hs
  unfold FitPost at HMR
  obtain ⟨ans, hans⟩ : ∃ ans, ans = stepsAns fs zs := ⟨_, rfl⟩
  rw [← hans]
  have HANS := Lib.hid hans
  clear hans
  go_enter Tryd.func13, Tryd.ntmps13
  go_wp2_with (fail)
  go_at_call 48
  refine (HMR.out _ (below1 _ _)).mono ?_
  rintro e w1 ⟨q, rfl, hq, hb⟩
  have p0 : w1.cell? ⟨w.heap.size, 0, none⟩ = some (.slice (some ⟨vb, vo, none⟩) fl vcap) := by rw [hb.cell (p := ⟨w.heap.size, 0, none⟩) (by simp)]; simp [go_sem]
  have HB := Lib.hid ((below1 w (.cells #[.slice (some ⟨vb, vo, none⟩) fl vcap] 25)).trans (hb.mono (by simp)))
  have HQ := Lib.hid hq
  clear hb hq HMR
  cases q with
  | false =>
    have hno : ans = -1 := by rw [HANS.out]; exact if_neg fun h => by have := HQ.out.2 h; cases this
    subst hno
    clear HRM HQ
    go_wp2_with (fail)
    go_ret
    exact ⟨rfl, HB.out⟩
  | true =>
    have hok : RunsOk fs zs := HQ.out.1 rfl
    have ha : ans = if (runOf (machPg fs) (fs.length - 1) (toNats zs) 200000).en = 3 then -1 else ((200000 - (runOf (machPg fs) (fs.length - 1) (toNats zs) 200000).cm.left : Nat) : Int) := by
      rw [HANS.out]; exact if_pos hok
    have HRT := Lib.hid (HRM.out w1 HB.out hok)
    generalize runOf (machPg fs) (fs.length - 1) (toNats zs) 200000 = r at *
    have HA := Lib.hid ha
    clear hok ha HRM HQ HANS
    go_wp2_with (fail)
    go_at_call 49
    refine HRT.out.mono ?_
    rintro e w2 ⟨v, rfl, ⟨sa, sn, sc, ca, cc, rfl, _, _, _⟩, hb2⟩
    have HB2 := Lib.hid (HB.out.trans (hb2.mono HB.out.size))
    have hsz2 := HB2.out.size
    clear hb2 HRT p0
    by_cases h3 : r.en = 3
    · have e1 : ((r.en : Nat) : Int) = 3 := by omega
      have ha := HA.out
      rw [if_pos h3] at ha
      subst ha
      have b1 : (((r.en : Nat) : Int) == 3) = true := by simpa using e1
      clear e1 h3 HA
      go_wp2_with (fail)
      go_ret
      exact ⟨rfl, HB2.out.alloc hsz2 _⟩
    · have b1 : (((r.en : Nat) : Int) == 3) = false := by simp; omega
      have ha := HA.out
      rw [if_neg h3] at ha
      subst ha
      clear h3 HA
      go_wp2_with (fail)
      go_ret
      exact ⟨rfl, HB2.out.alloc hsz2 _⟩

end Go.Proofs.YtbdbmmdnidonjaaDoor
