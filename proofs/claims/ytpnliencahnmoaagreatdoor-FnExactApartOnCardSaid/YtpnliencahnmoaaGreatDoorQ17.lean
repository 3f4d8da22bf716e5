/- The reference's run: one statement, the walk. The reference's run: loops. The reference's run of expressions, statements and blocks, however much gas. -/
import Derived.Test.YtpnliencahnmoaaGreatDoorQ16
import Derived.Deep.LoopGhost
set_option linter.unusedVariables false
set_option linter.unusedSimpArgs false
set_option linter.unusedVariables false
set_option linter.unusedSimpArgs false
set_option maxRecDepth 100000
namespace Go.Proofs.YtpnliencahnmoaaGreatDoor
open Go.RowKit
theorem own_frozen {w : World} {B : Nat} {e : TypeId} {size g n c : Nat} {xs : List Value} (h : w.ownsRow B e size (.slice (some ⟨g, 0, none⟩) n c) n xs) (j : Nat) : w.frozen? ⟨g, j, none⟩ = false := by
  rcases h.2 with ⟨h2, _⟩ | ⟨g', cap, cur, h2, hb, hg, _⟩
  · simp at h2
  · injection h2 with h2 _ _
    injection h2 with h2
    injection h2 with h2
    subst h2
    exact frozen_of_row w g j cur e hg
theorem TI.say {w : World} {R CB V B : Nat} {fv sv nv vv : Value} {s : Cm} {env : Env} {box : List Value} {sv1 : Value} {s1 : Cm} {w2 : World} (h : TI w R CB V B fv sv nv vv s env box sv1 s1 0 false w2) (hbd : s1.said.length + s1.left + 1 ≤ 8000) {v : Nat} (hv : v < 256) {o : Obj} {g c : Nat} {w9 : World} (hg : (w2.alloc o).grownBy w9 sv1.ownBlock) (ha : sv1.ownBlock = some g ∨ g = (w2.alloc o).heap.size)
    (ho : w9.ownsRow B 3 1 (.slice (some ⟨g, 0, none⟩) (s1.said.length + 1) c) (s1.said.length + 1) (nats s1.said ++ [.int .i64 (v : Int)])) :
    TI w R CB V B fv sv nv vv s env box (.slice (some ⟨g, 0, none⟩) (s1.said.length + 1) c) { s1 with said := s1.said ++ [v] } 0 false (w9.setCell ⟨R, 1, none⟩ (.slice (some ⟨g, 0, none⟩) (s1.said.length + 1) c)) := by
  have hF : Fr [R, CB] sv1 w2 (.slice (some ⟨g, 0, none⟩) (s1.said.length + 1) c) (w9.setCell ⟨R, 1, none⟩ (.slice (some ⟨g, 0, none⟩) (s1.said.length + 1) c)) := ((Fr.below (below1 w2 o)).trans (Fr.app2 hg ha)).setIn (a := ⟨R, 1, none⟩) (by simp) _
  have hr := h.run
  have hgw : ∀ q, q < w2.heap.size → sv1.ownBlock ≠ some q → g ≠ q := fun q h1 h2 e => by
    subst e
    exact ha.elim h2 (fun e => by simp at e; omega)
  have hgR := hgw R hr.blk.lt hr.ne.2.1
  have hgC := hgw CB hr.cells.lt hr.ne.2.2
  have hb9 : w9.heap[R]? = w2.heap[R]? := by rw [hg.block R (by have := hr.blk.lt; simp; omega) (fun e => hr.ne.2.1 e.symm), Below.heap_alloc _ _ _ hr.blk.lt]
  have hc9 : w9.heap[CB]? = w2.heap[CB]? := by rw [hg.block CB (by have := hr.cells.lt; simp; omega) (fun e => hr.ne.2.2 e.symm), Below.heap_alloc _ _ _ hr.cells.lt]
  refine h.step ⟨(hr.blk.same hb9).set 1 _, (hr.cells.same hc9).other (by simp; exact fun e => hr.ne.1 e.symm) _, ?_, ⟨hr.ne.1, by simp [Value.ownBlock]; exact hgR, by simp [Value.ownBlock]; exact hgC⟩, ⟨hr.cm.cells, hr.cm.cellsS, hr.cm.saidS.snoc v hv⟩, by simp; omega⟩ hF (Nat.le_refl _)
  have e1 : (s1.said ++ [v]).length = s1.said.length + 1 := by simp
  simp only [e1]
  rw [show nats (s1.said ++ [v]) = nats s1.said ++ [.int .i64 (v : Int)] by simp [nats]]
  exact ownsRow_same ho (fun q hq => Below.heap_setCell _ _ _ _ (by simp [Value.ownBlock] at hq; subst hq; exact hgR))
theorem TI.put {w : World} {R CB V B : Nat} {fv sv nv vv : Value} {s : Cm} {env : Env} {box : List Value} {sv1 : Value} {s1 : Cm} {w2 : World} (h : TI w R CB V B fv sv nv vv s env box sv1 s1 0 false w2) (v u : Nat) (hu : u < 256) :
    TI w R CB V B fv sv nv vv s env box sv1 { s1 with cells := s1.cells.set v u } 0 false (w2.setCell ⟨CB, v, none⟩ (.int .i64 (u : Int))) := by
  have hr := h.run
  refine h.step ⟨hr.blk.other (by simp; exact hr.ne.1) _, ?_, ?_, hr.ne, ⟨by simpa using hr.cm.cells, hr.cm.cellsS.set v u hu, hr.cm.saidS⟩, hr.bd⟩ ((Fr.refl _ _ _).setIn (a := ⟨CB, v, none⟩) (by simp) _) (Nat.le_refl _)
  · rw [← nats_set]; exact hr.cells.set v _
  · exact ownsRow_same hr.said (fun q hq => Below.heap_setCell _ _ _ _ (by simp; rintro rfl; exact hr.ne.2.2 hq))
theorem TI.back {w : World} {R CB V B : Nat} {fv sv nv vv : Value} {s : Cm} {env : Env} {box : List Value} {sv1 : Value} {s1 : Cm} {w2 : World} (h : TI w R CB V B fv sv nv vv s env box sv1 s1 0 false w2) {v : Nat} (hv : v < 256) :
    BP R CB V B fv sv nv vv env.length s (.back v s1) (OkT env.length (.back v s1)) w (.returned (.tuple #[])) ((w2.setCell ⟨V, 2, none⟩ (.bool true)).setCell ⟨V, 3, none⟩ (.int .i64 (v : Int))) := by
  have hk : ∀ q, q ≠ V → ((w2.setCell ⟨V, 2, none⟩ (.bool true)).setCell ⟨V, 3, none⟩ (.int .i64 (v : Int))).heap[q]? = w2.heap[q]? := fun q hq => by
    rw [Below.heap_setCell _ _ _ _ (by simp; exact hq), Below.heap_setCell _ _ _ _ (by simp; exact hq)]
  have hO : Only [V] w2 ((w2.setCell ⟨V, 2, none⟩ (.bool true)).setCell ⟨V, 3, none⟩ (.int .i64 (v : Int))) := ((Only.refl [V] w2).setCell (p := ⟨V, 2, none⟩) (by simp) _).setCell (p := ⟨V, 3, none⟩) (by simp) _
  refine ⟨sv1, nv, vv, env, true, v, rfl, h.run.keep (fun q hq => hk q ?_), ⟨(h.en.blk.set 2 _).set 3 _, ownsRow_same h.en.names (fun q hq => hk q (h.ap.n q hq).2.2.1), ownsRow_same h.en.vals (fun q hq => hk q (h.ap.u q hq).2.2.1), h.en.ok⟩, h.ap, Nat.le_refl _, ⟨⟨Nat.le_refl _, (fun e1 s1 e => by cases e), fun u q e => by injection e with e _; exact ⟨rfl, e⟩, hv⟩, by omega⟩, (Fq.of_fr h.fr).app (hO.mono (fun x hx => by simp at hx; rw [mem_foot]; exact .inr (.inr (.inl hx)))) (fun k hk => .inl hk), h.left⟩
  rcases hq with rfl | rfl | hq
  · exact fun e => h.ap.v.1 e.symm
  · exact fun e => h.ap.v.2.1 e.symm
  · rintro rfl; exact h.ap.v.2.2 hq
theorem TI.setv {w : World} {R CB V B : Nat} {fv sv nv : Value} {g n c : Nat} {s : Cm} {env : Env} {box : List Value} {sv1 : Value} {s1 : Cm} {w2 : World} (h : TI w R CB V B fv sv nv (.slice (some ⟨g, 0, none⟩) n c) s env box sv1 s1 0 false w2) {name : ByteArray} {v i : Nat} (hv : v < 256) (hn : n = env.length) (he : envV (env.set name v) = (envV env).set i v ∧ envN (env.set name v) = envN env) :
    BP R CB V B fv sv nv (.slice (some ⟨g, 0, none⟩) n c) env.length s (.go (env.set name v) s1) (OkT env.length (.go (env.set name v) s1)) w (.returned (.tuple #[])) (w2.setCell ⟨g, i, none⟩ (.int .i64 (v : Int))) := by
  subst hn
  have hp := h.ap.u g rfl
  have hl := Env.set_len env name v
  have hk : ∀ q, q ≠ g → (w2.setCell ⟨g, i, none⟩ (.int .i64 (v : Int))).heap[q]? = w2.heap[q]? := fun q hq => Below.heap_setCell _ _ _ _ (by simp; exact hq)
  have hO : Only [g] w2 (w2.setCell ⟨g, i, none⟩ (.int .i64 (v : Int))) := (Only.refl [g] w2).setCell (p := ⟨g, i, none⟩) (by simp) _
  refine ⟨sv1, nv, _, env.set name v, false, 0, rfl, h.run.keep (fun q hq => hk q ?_), ⟨h.en.blk.same (hk V (fun e => hp.2.2.1 e.symm)), ?_, ?_, h.en.ok.set name hv⟩, h.ap, by rw [hl]; exact Nat.le_refl _, ⟨⟨by rw [hl]; exact Nat.le_refl _, fun e1 q e => by injection e with e _; exact ⟨e, rfl, rfl⟩, (fun u q e => by cases e), by omega⟩, by rw [hl]; omega⟩, (Fq.of_fr h.fr).app (hO.mono (fun x hx => by simp at hx; subst hx; rw [mem_foot]; exact .inr (.inr (.inr (.inr (.inr rfl)))))) (fun k hk => .inl hk), h.left⟩
  · rcases hq with rfl | rfl | hq
    · exact fun e => hp.1 e.symm
    · exact fun e => hp.2.1 e.symm
    · rintro rfl; exact hp.2.2.2 hq
  · rw [he.2, hl]
    exact ownsRow_same h.en.names (fun q hq => hk q (by rintro rfl; exact (h.ap.n _ hq).2.2.2.2 rfl))
  · rw [he.1, hl, ← nats_set]
    exact own_set h.en.vals i _
/-- a loop runs with so much gas, its first value being known -/
def CLp (w0 : World) (fs : List Fx) (fv : Value) (R CB B g : Nat) : Prop :=
  ∀ (d : Nat) (name : ByteArray) (c : Ex) (body els : List St) (av bw ev : Value) (env : Env) (v : Nat) (s : Cm) (r : Rb) (w : World) (V : Nat) (sv nv vv : Value), evV fs g c body env v s = some r → v < 256 → exA fs 6 c → body.all (stOk isNB d) = true → body.all (stA fs d) = true → ExsAt w0 av [c] → StsAt w0 bw body → Below w0.heap.size w0 w →
    Rn w R CB B fv sv s 0 false → En w V B nv vv env false 0 → Ap R CB V sv nv vv → B ≤ V → env.length + s.left ≤ 20000 →
    Calls Tryz.prog 156 #[.pointer (some ⟨R, 0, none⟩), .agg #[.int .i64 6, .string name, av, bw, ev], .int .i64 (v : Int), .pointer (some ⟨V, 0, none⟩)] w (BP R CB V B fv sv nv vv env.length s r (OkT env.length r) w)
set_option maxHeartbeats 16000000 in
theorem stmt_any {w0 : World} {fs : List Fx} {fv : Value} {R CB B g : Nat} (hCx : Cx w0 fs fv R CB B) (hG : ∀ g', g' < g → CE w0 fs fv R CB B g') (hGB : ∀ g', g' < g → CBk w0 fs fv R CB B g') (hGL : ∀ g', g' < g → CLp w0 fs fv R CB B g') : CSt w0 fs fv R CB B g := by
  intro d x av bw ev env s r w V sv nv vv hev hok hst hnz hxa hxb hxe hb0 hR hE hA hV hcap hbd
  obtain ⟨op, name, args, body, els⟩ := x
  cases d with
  | zero => simp [stOk] at hok
  | succ d =>
  obtain ⟨g', a, rest, r1, hg, rfl, he1, hstop, hret⟩ := evS_parts hev
  simp only [St.args, St.body, St.els, St.name, St.op] at hxa hxb hxe hnz ⊢
  rw [stOk_eq] at hok
  simp only [Bool.and_eq_true, decide_eq_true_eq] at hok
  obtain ⟨⟨⟨⟨⟨⟨⟨ho, hal⟩, _⟩, hae⟩, _⟩, _⟩, hbo⟩, hlo⟩ := hok
  simp only [stA, Bool.and_eq_true] at hst
  obtain ⟨⟨hca, hcb⟩, hcl⟩ := hst
  have hop := (inR_iff ..).1 ho
  have hexa : ∀ y ∈ a :: rest, exA fs 6 y := fun y hy => by
    have h1 := List.all_eq_true.1 hae y hy
    unfold exVal at h1
    rw [Bool.and_eq_true] at h1
    exact ⟨h1.1, List.all_eq_true.1 hca y hy⟩
  obtain ⟨m, hm⟩ : ∃ m, m = (a :: rest).length := ⟨_, rfl⟩
  rw [← hm] at hal
  obtain ⟨aa, ac, hkf⟩ := hxa.form
  rw [← hm] at hkf
  have hm2 : 1 ≤ m ∧ m ≤ 2 ∧ (op = 4 → m = 2) := by by_cases h4 : op = 4 <;> simp [h4] at hal <;> omega
  have hbb := hxb.lens.1; have hee := hxe.lens.1
  obtain ⟨ba, bc, hbf⟩ := hxb.form
  obtain ⟨ea, ec, hef⟩ := hxe.form
  obtain ⟨bn, hbn⟩ : ∃ n, n = body.length := ⟨_, rfl⟩
  obtain ⟨el, hel⟩ : ∃ n, n = els.length := ⟨_, rfl⟩
  rw [← hbn] at hbb hbf
  rw [← hel] at hee hef
  have hb1 := below1 w (.cells #[.int .i64 op, .string name, av, bw, ev] 70)
  have hb01 := hb0.trans (hb1.mono hb0.size)
  have hTI := TI.start hR hE hA #[.int .i64 op, .string name, av, bw, ev] 70
  have hxa2 := hxa
  rw [hkf] at hxa2
  obtain ⟨b, off, kva, rfl, hbl, e0, e1, e2, e3, hka⟩ := hxa2.get (i := 0) (e := a) rfl
  simp only [Nat.zero_mul, Nat.add_zero] at e0 e1 e2 e3
  have HE0 := Lib.hid e0; have HE1 := Lib.hid e1; have HE2 := Lib.hid e2; have HE3 := Lib.hid e3
  have e0 := cellB hb01 e0; have e1 := cellB hb01 e1; have e2 := cellB hb01 e2; have e3 := cellB hb01 e3
  have HC := Lib.hid (hG g' hg 6 a kva env s r1 _ V sv nv vv false 0 he1 (hexa a (by simp)) (hxa.lens.2 0 a rfl) hka hb01 hTI.run hTI.en hTI.ap (by omega))
  have htot := (tot fs g').e he1
  subst hkf hbf hef
  have HBD : Hid (r1.cm.said.length + r1.cm.left + 1 ≤ 8000) := Lib.hid (by unfold Cm.tot at htot; omega)
  have HTI := Lib.hid hTI; have HB01 := Lib.hid hb01; have HXA := Lib.hid hxa2; have HXB := Lib.hid hxb; have HXE := Lib.hid hxe; have HEXA := Lib.hid hexa; have HSTOP := Lib.hid hstop; have HRET := Lib.hid hret
  have HBO := Lib.hid hbo; have HLO := Lib.hid hlo; have HCB := Lib.hid hcb; have HCL := Lib.hid hcl; have HG := Lib.hid hG; have HGB := Lib.hid hGB; have HGL := Lib.hid hGL; have HGG := Lib.hid hg; have HCX := Lib.hid hCx; have HV := Lib.hid hV; have HCAP := Lib.hid hcap; have HR := Lib.hid hR; have HE := Lib.hid hE; have HB0 := Lib.hid hb0; have HB1 := Lib.hid hb1; have HLT := Lib.hid (hxa.lens.2)
  have HM := Lib.hid hm
  unfold big at hbb hee
  obtain ⟨q0, q1, q2, q3, q4⟩ := blkc5 hTI.box
  have hm1 : (1 : Int) ≤ m := by omega
  clear hev hxa hxa2 hxb hxe hae hca hbo hlo hcb hcl hexa hstop hret hG hGB hGL hg hCx hV hcap hR hE hA hb0 hb01 hTI hka he1 htot hbd hnz hal hm hbn hel ho hb1
  obtain ⟨i0, hi, hz0, hz1, hz2⟩ := info_parts info_str
  obtain ⟨j0, hj, hy0, hy1, hy2⟩ := info_parts info_int
  go_enter Tryz.func121, Tryz.ntmps121
  go_wp2_with (fail)
  go_at_call 154
  refine HC.out.mono ?_
  rintro e w2 ⟨z, sv1, rfl, hz, hzv, hR1, hF1, hL1⟩
  have HT2 := Lib.hid (HTI.out.step hR1 hF1 hL1)
  have HZV := Lib.hid hzv
  obtain ⟨_, _, _, _, c4, _, c6⟩ := blkc7 HT2.out.run.blk
  obtain ⟨q0', q1', q2', q3', q4'⟩ := blkc5 HT2.out.box
  clear hzv hR1 hF1 hL1 HC e0 e1 e2 e3 q0 q1 q2 q3 q4
  have hbw := HCX.out.bel HB0.out HR.out.said HT2.out.fr
  have hcp1 : env.length + 1 + r1.cm.left ≤ 20000 := by have := HCAP.out; have := HT2.out.left; omega
  have hB2 : B ≤ w2.heap.size := by have := HCX.out.hR; have := HT2.out.run.blk.lt; omega
  have HBW := Lib.hid hbw
  clear e0 e1 e2 e3
  by_cases o4 : op = 4
  · subst o4
    obtain ⟨a2, rfl⟩ : ∃ a2, rest = [a2] := by
      have h1 := HM.out
      rw [hm2.2.2 rfl] at h1
      match rest, h1 with
      | [a2], _ => exact ⟨a2, rfl⟩
    have hm2' : m = 2 := hm2.2.2 rfl
    subst hm2'
    obtain ⟨kv2, f0, f1, f2, f3, hk2⟩ : ∃ kvb, w0.cell? ⟨b, off + 4, none⟩ = some (.int .i64 a2.op) ∧ w0.cell? ⟨b, off + 5, none⟩ = some (.int .i64 a2.n) ∧ w0.cell? ⟨b, off + 6, none⟩ = some (.string a2.name) ∧ w0.cell? ⟨b, off + 7, none⟩ = some kvb ∧ ExsAt w0 kvb a2.kids := by
      obtain ⟨b', off', kv', ha, hb, e0, e1, e2, e3, hk⟩ := HXA.out.get (i := 1) (e := a2) rfl
      injection ha with ha
      injection ha with h1 h2 _
      subst h1 h2
      exact ⟨kv', e0, e1, e2, e3, hk⟩
    have f0 := cellB hbw f0; have f1 := cellB hbw f1; have f2 := cellB hbw f2; have f3 := cellB hbw f3
    cases r1 with
    | stop en s1 =>
      obtain rfl := HSTOP.out en s1 rfl
      simp only [Rs.over] at c6
      have HO := Lib.hid (expr_over w2 R CB B fv sv1 s1 en HT2.out.run a2.op a2.n a2.name kv2 (.pointer (some ⟨V, 0, none⟩)))
      clear hbw hk2
      go_wp2_with (fail)
      go_at_call 154
      refine HO.out.mono ?_
      rintro e w3 ⟨rfl, hb3⟩
      have HT3 := Lib.hid (HT2.out.step (HT2.out.run.below hb3) (Fr.below hb3) (Nat.le_refl _))
      obtain ⟨_, _, _, _, _, _, c6'⟩ := blkc7 HT3.out.run.blk
      clear hb3
      go_wp2_with (fail)
      go_end0
      exact HT3.out.ans rfl rfl rfl (fun e1 s1 e => by cases e) (fun v s1 e => by cases e)
    | ret v s1 =>
      obtain rfl := HZV.out v s1 rfl
      simp only [Rs.over] at c6
      have hro := (HRET.out z s1 rfl).2 (by decide)
      unfold evS1 at hro
      rw [if_neg (by decide), if_neg (by decide), if_neg (by decide), if_pos rfl] at hro
      cases hE2 : evE fs g' a2 env s1 with
      | none => simp only [hE2] at hro; cases hro
      | some r2 =>
      simp only [hE2] at hro
      have HC2 := Lib.hid (HG.out g' HGG.out 6 a2 kv2 env s1 r2 w2 V sv1 nv vv false 0 hE2 (HEXA.out a2 (by simp)) (HLT.out 1 a2 rfl) hk2 hbw HT2.out.run HT2.out.en HT2.out.ap (by omega))
      have HRO := Lib.hid hro
      clear hbw hk2 hro hE2
      go_wp2_with (fail)
      go_at_call 154
      refine HC2.out.mono ?_
      rintro e w3 ⟨y, sv2, rfl, hy, hyv, hR2, hF2, hL2⟩
      have HT3 := Lib.hid (HT2.out.step hR2 hF2 hL2)
      obtain ⟨_, _, _, _, c4', _, c6'⟩ := blkc7 HT3.out.run.blk
      obtain ⟨p0, _, _, _, _⟩ := blkc5 HT3.out.box
      have HYV := Lib.hid hyv
      clear hyv hR2 hF2 hL2
      cases r2 with
      | stop e s2 =>
        have hro := HRO.out
        injection hro with hro
        subst hro
        simp only [Rs.over] at c6'
        go_wp2_with (fail)
        go_end0
        exact HT3.out.ans rfl rfl rfl (fun e1 s1 e => by cases e) (fun v s1 e => by cases e)
      | ret u s2 =>
        obtain rfl := HYV.out u s2 rfl
        simp only [Rs.over] at c6'
        have hro := HRO.out
        simp only [] at hro
        by_cases hz16 : 16 ≤ z
        · rw [if_pos hz16] at hro
          injection hro with hro
          subst hro
          have HS := Lib.hid (l5stop_any w3 R CB B fv sv2 s2 0 2 false HT3.out.run)
          have hzi : (16 : Int) ≤ z := by omega
          go_wp2_with (fail)
          go_at_call 153
          refine HS.out.mono ?_
          rintro e w4 ⟨rfl, hR4, hF4⟩
          have HT4 := Lib.hid (HT3.out.step hR4 hF4 (Nat.le_refl _))
          clear hR4 hF4
          go_wp2_with (fail)
          go_end0
          exact HT4.out.ans rfl rfl rfl (fun e1 s1 e => by cases e) (fun v s1 e => by cases e)
        · rw [if_neg hz16] at hro
          injection hro with hro
          subst hro
          have hzi : (z : Int) < 16 := by omega
          have hzl : z < s2.cells.length := by have := HT3.out.run.cm.cells; simp only [Rs.cm] at this; omega
          have d0 : w3.cell? ⟨CB, z, none⟩ = some (.int .i64 ((s2.cells.getD z 0 : Nat) : Int)) := by rw [HT3.out.run.cells.cell]; exact nats_get hzl
          have fz := HT3.out.run.cells.frozen z
          have HT4 := Lib.hid (HT3.out.put z y hy)
          clear hzl
          go_wp2_with (fail)
          go_end0
          exact HT4.out.ans rfl rfl rfl (fun e1 s1 e => by injection e with e _; exact e.symm) (fun v s1 e => by cases e)
  · have o4' := neI o4
    have HO4 := Lib.hid o4
    cases r1 with
    | stop en s1 =>
      obtain rfl := HSTOP.out en s1 rfl
      simp only [Rs.over] at c6
      clear o4 hbw
      go_wp2_with (fail)
      go_end0
      exact HT2.out.ans rfl rfl rfl (fun e1 s1 e => by cases e) (fun v s1 e => by cases e)
    | ret v s1 =>
    obtain rfl := HZV.out v s1 rfl
    simp only [Rs.over] at c6
    have hro := HRET.out z s1 rfl
    have hops : op = 1 ∨ op = 2 ∨ op = 3 ∨ op = 5 ∨ op = 6 ∨ op = 7 ∨ op = 8 := by omega
    obtain ⟨v0, v1, v2, v3⟩ := blkc4 HT2.out.en.blk
    obtain ⟨_, c1, _⟩ := blkc7 HT2.out.run.blk
    have hnl : env.length ≤ 20000 := by have := HCAP.out; omega
    clear o4 o4'
    rcases hops with rfl | rfl | rfl | rfl | rfl | rfl | rfl
    · have hro := hro.2 (by decide)
      unfold evS1 at hro
      rw [if_pos rfl] at hro
      injection hro with hro
      subst hro
      have vf := HT2.out.en.blk.frozen 0
      go_upto_region 8 with (fail)
      refine wp_region_chain (fun W => Blk W V [nv, vv, .bool false, .int .i64 0] ∧ Blk W w.heap.size [.int .i64 1, .string name, .slice (some ⟨b, off, none⟩) m ac, .slice ba bn bc, .slice ea el ec]) [(0, false), (1, false), (2, false), (3, false), (4, true), (5, false), (6, true)] [7, 8, 9, 10, 11] 11 (by kernel_rfl) (by kernel_rfl) (fun d v c a w h => by cases d <;> exact h) ⟨HT2.out.en.blk, HT2.out.box⟩ ?_
      simp only [pickO, List.map_cons, List.map_nil, List.getD_cons_zero, List.getD_cons_succ]
      iterate 7
        first
        | (refine heldO_stepY (v := ?_) rfl ?_ ?_
           rotate_left
           · intro W
             go_simp
             try rfl
           simp only [Act.put, List.setIfInBounds_toArray, List.set_cons_zero, List.set_cons_succ])
        | (refine heldO_step (v := ?_) rfl ?_ ?_
           rotate_left
           · intro W hS
             obtain ⟨y0, y1⟩ := hS
             obtain ⟨y00, y01, y02, y03⟩ := blkc4 y0
             obtain ⟨y10, y11, y12, y13, y14⟩ := blkc5 y1
             go_simp
             try rfl
           simp only [Act.put, List.setIfInBounds_toArray, List.set_cons_zero, List.set_cons_succ])
      refine heldO_nil ?_
      refine tailO_step rfl (fun K hK => ?_)
      go_simp
      refine hK _ _ (.inr ⟨HT2.out.en.blk.alloc _, HT2.out.box.alloc _⟩) ?_
      clear hK K
      refine tailO_step rfl (fun K hK => ?_)
      refine wp_append_lies _ (.tmp 37) (.tmp 40) 61 rfl B 9 i0 _ 1 16 Tryz.underlying61 hi hz0 hz1 hz2 rfl (by decide) nv env.length ((envN env).map Value.string) (by rfl) (HT2.out.en.names.alloc _) ⟨w2.heap.size, 0, none⟩ 1 1 [.string name] (by rfl) rfl (World.news_of_block (heap_alloc_new _ _)) (by simp [Value.oneCell']) (by decide) (by unfold maxLen; omega) (by omega) (by simp; omega) _ rfl ?_
      intro g9 c9 w9 ho9 hg9 hat9 hl9
      have hS9 : Blk w9 V [nv, vv, .bool false, .int .i64 0] ∧ Blk w9 w.heap.size [.int .i64 1, .string name, .slice (some ⟨b, off, none⟩) m ac, .slice ba bn bc, .slice ea el ec] :=
        ⟨(HT2.out.en.blk.alloc _).same (hg9.block V (HT2.out.en.blk.alloc _).lt (fun e => (HT2.out.ap.n V e.symm).2.2.1 rfl)), (HT2.out.box.alloc _).same (hg9.block _ (HT2.out.box.alloc _).lt (fun e => by have := HT2.out.olt.2.1 _ e.symm; omega))⟩
      have HS9 := Lib.hid hS9
      have HLI := Lib.hid (HT2.out.let1 (o := .cells #[.string name] 9) (w9 := w9) ⟨hg9.os, hg9.tape, hg9.output, hg9.size, hg9.block⟩ hat9 ho9)
      refine hK _ _ (.inr HS9.out) ?_
      clear hK K ho9 hg9 hat9 hS9
      iterate 2
        refine tailO_step rfl (fun K hK => ?_)
        go_simp
        refine hK _ _ (.inr HS9.out) ?_
        clear hK K
      have f9 := HS9.out.1.frozen 0
      have q9 := (blkc4 HS9.out.1).1
      refine tailO_step rfl (fun K hK => ?_)
      go_simp
      refine hK _ _ (.inl rfl) (tailO_nil ?_)
      clear hK K q9 f9 HS9
      generalize hw5 : w9.setCell _ _ = w5
      rw [hw5] at HLI
      obtain ⟨v0', v1', _, _⟩ := blkc4 HLI.out.vb
      have hB5 : B ≤ w5.heap.size := by have := HCX.out.hR; have := HLI.out.run.blk.lt; omega
      clear hw5 v0 v1 v2 v3 c1 c4 c6 q0' q1' q2' q3' q4' hbw
      go_wp2_with (first | (at_builtin; refine wpList_append_lies _ rfl (.tmp 48) (.tmp 50) 26 (by rfl) B 3 j0 _ 1 8 Tryz.underlying26 hj hy0 hy1 hy2 rfl (by decide) _ env.length (nats (envV env)) (by rfl) (HLI.out.vals.alloc _) ⟨w5.heap.size, 0, none⟩ 1 1 [.int .i64 (z : Int)] (by rfl) rfl (World.news_of_block (heap_alloc_new _ _)) (by simp [Value.oneCell']) (by decide) (by unfold maxLen; omega) (by omega) (by simp; omega) _ rfl ?_; intro g8 c8 w8 ho8 hg8 hat8 _; have HBP := Lib.hid (HLI.out.let2 hz HT2.out.left hg8 hat8 ho8); have hv8 := (HLI.out.vb.alloc _).same (hg8.block V (HLI.out.vb.alloc _).lt (fun e => (HLI.out.ap.u V e.symm).2.2.1 rfl)); have f8 := hv8.frozen 1; have q8 := (blkc4 hv8).2.1; clear ho8 hg8 hat8 hv8))
      go_end0
      exact HBP.out
    · have hro := hro.2 (by decide)
      unfold evS1 at hro
      rw [if_neg (by decide), if_pos rfl] at hro
      cases hget : env.get name with
      | none => rw [hget] at hro; cases hro
      | some u0 =>
      rw [hget] at hro
      injection hro with hro
      subst hro
      obtain ⟨i, hi1, hi2, hi3, hset⟩ := env_place hget
      have hil := idx_lt hi1
      rw [envN_len] at hil
      obtain ⟨g, c, rfl⟩ := own_form HT2.out.en.vals (by omega)
      have hcv := own_cell1 HT2.out.en.vals hil
      have HCV : Hid (w2.cell? ⟨g, i, none⟩ = some (.int .i64 (u0 : Int))) := Lib.hid (by rw [hcv]; unfold nats; rw [List.getElem?_map, hi3]; rfl)
      have HBP := Lib.hid ((HT2.out.step (HT2.out.run.below (Below.refl _ w2).drew) (Fr.below (Below.refl _ w2).drew) (Nat.le_refl _)).setv (name := name) hz rfl (hset z))
      have HLV := Lib.hid (l5Var_any w2.drew B nv (envN env) name i (by rw [envN_len]; exact HT2.out.en.names) (by rw [envN_len]; omega) hi1 hi2)
      have fr := own_frozen HT2.out.en.vals i
      have k0 : (0 : Int) ≤ i := by omega
      have k1 : (i : Int) < env.length := by omega
      clear hi1 hi2 hi3 hset hcv hget
      go_upto_region 11 with (fail)
      refine wp_region_chain (fun W => Blk W V [nv, .slice (some ⟨g, 0, none⟩) env.length c, .bool false, .int .i64 0] ∧ Blk W w.heap.size [.int .i64 2, .string name, .slice (some ⟨b, off, none⟩) m ac, .slice ba bn bc, .slice ea el ec]) [(0, false), (1, false), (2, false), (3, true), (4, false), (5, false), (6, false), (7, true), (8, false), (9, true), (11, false)] [10, 12, 13] 13 (by kernel_rfl) (by kernel_rfl) (fun d v c a w h => by cases d <;> exact h) ⟨HT2.out.en.blk, HT2.out.box⟩ ?_
      simp only [pickO, List.map_cons, List.map_nil, List.getD_cons_zero, List.getD_cons_succ]
      iterate 11
        first
        | (refine heldO_stepY (v := ?_) rfl ?_ ?_
           rotate_left
           · intro W
             go_simp
             try rfl
           simp only [Act.put, List.setIfInBounds_toArray, List.set_cons_zero, List.set_cons_succ])
        | (refine heldO_step (v := ?_) rfl ?_ ?_
           rotate_left
           · intro W hS
             obtain ⟨y0, y1⟩ := hS
             obtain ⟨y00, y01, y02, y03⟩ := blkc4 y0
             obtain ⟨y10, y11, y12, y13, y14⟩ := blkc5 y1
             go_simp
             try rfl
           simp only [Act.put, List.setIfInBounds_toArray, List.set_cons_zero, List.set_cons_succ])
      refine heldO_nil ?_
      refine tailO_step rfl (fun K hK => ?_)
      go_simp
      refine HLV.out.mono ?_
      rintro e _ ⟨rfl, rfl⟩
      refine hK _ _ (.inr ⟨HT2.out.en.blk, HT2.out.box⟩) ?_
      clear hK K
      refine tailO_step rfl (fun K hK => ?_)
      go_simp
      refine hK _ _ (.inr ⟨HT2.out.en.blk, HT2.out.box⟩) ?_
      clear hK K
      have q9 := HCV.out
      refine tailO_step rfl (fun K hK => ?_)
      go_simp
      refine hK _ _ (.inl rfl) (tailO_nil ?_)
      clear hK K q9
      go_wp2_with (fail)
      go_end0
      exact HBP.out
    · have hro := hro.2 (by decide)
      unfold evS1 at hro
      rw [if_neg (by decide), if_neg (by decide), if_pos rfl] at hro
      injection hro with hro
      subst hro
      have hsl : s1.said.length + s1.left + 1 ≤ 8000 := HBD.out
      obtain ⟨sl, hsl2⟩ : ∃ n, n = s1.said.length := ⟨_, rfl⟩
      have hsl3 : sl ≤ 8000 := by omega
      have HSL := Lib.hid hsl; have HSL2 := Lib.hid hsl2
      have hrow : w2.ownsRow B 3 1 sv1 sl (nats s1.said) := by rw [hsl2]; exact HT2.out.run.said
      have HROW := Lib.hid hrow
      have HRB := Lib.hid HT2.out.run.blk
      clear hsl hsl2 hrow hbw
      go_wp2_with (first | (at_builtin; go_loud (refine wpList_append_lies _ rfl (.tmp 76) (.tmp 78) 26 (by rfl) B 3 j0 _ 1 8 Tryz.underlying26 hj hy0 hy1 hy2 rfl (by decide) _ sl (nats s1.said) (by rfl) (HROW.out.alloc _) ⟨w2.heap.size, 0, none⟩ 1 1 [.int .i64 (z : Int)] (by rfl) rfl (World.news_of_block (heap_alloc_new _ _)) (by simp [Value.oneCell']) (by decide) (by unfold maxLen; omega) (by omega) (by simp; omega) _ rfl ?_; intro g8 c8 w8 ho8 hg8 hat8 _; have HBP := Lib.hid (HT2.out.say (s1 := s1) (c := c8) HSL.out hz hg8 hat8 (by rw [← HSL2.out]; exact ho8)); have hv8 := (HRB.out.alloc _).same (hg8.block R (HRB.out.alloc _).lt (fun e => HT2.out.run.ne.2.1 e.symm)); have f8 := hv8.frozen 1; have q8 := (blkc7 hv8).2.1; rw [← HSL2.out] at HBP; clear ho8 hg8 hat8 hv8)))
      go_end0
      exact HBP.out.ans rfl rfl rfl (fun e1 s1 e => by injection e with e _; exact e.symm) (fun v s1 e => by cases e)
    · have hro := hro.2 (by decide)
      unfold evS1 at hro
      rw [if_neg (by decide), if_neg (by decide), if_neg (by decide), if_neg (by decide), if_pos rfl] at hro
      obtain ⟨rb, hrb, rfl⟩ : ∃ rb, evB fs g' (if z = 0 then els else body) env s1 = some rb ∧ r = cutR env.length rb := by
        cases hb : evB fs g' (if z = 0 then els else body) env s1 with
        | none => rw [hb] at hro; cases hro
        | some rb => rw [hb] at hro; exact ⟨rb, rfl, by cases rb <;> (injection hro with hro; exact hro.symm)⟩
      by_cases hz0 : z = 0
      · rw [if_pos hz0] at hrb
        have HCS := Lib.hid (HGB.out g' HGG.out d els _ env s1 rb w2 V sv1 nv vv hrb HLO.out HCL.out HXE.out hbw HT2.out.run HT2.out.en HT2.out.ap HV.out (by simp only [Rs.cm] at hcp1; omega))
        have hzi : ((z : Int) != 0) = false := by simp [bne, hz0]
        clear hrb hro hbw hz0
        go_wp2_with (fail)
        go_at_call 82
        refine HCS.out.mono ?_
        intro e w3 hBP
        have HBP := Lib.hid (HT2.out.ofB hBP)
        obtain ⟨_, _, _, _, _, _, rfl, _⟩ := hBP
        go_wp2_with (fail)
        go_end0
        exact HBP.out
      · rw [if_neg hz0] at hrb
        have HCS := Lib.hid (HGB.out g' HGG.out d body _ env s1 rb w2 V sv1 nv vv hrb HBO.out HCB.out HXB.out hbw HT2.out.run HT2.out.en HT2.out.ap HV.out (by simp only [Rs.cm] at hcp1; omega))
        have hzi : ((z : Int) != 0) = true := by simp [bne, hz0]
        clear hrb hro hbw hz0
        go_wp2_with (fail)
        go_at_call 82
        refine HCS.out.mono ?_
        intro e w3 hBP
        have HBP := Lib.hid (HT2.out.ofB hBP)
        obtain ⟨_, _, _, _, _, _, rfl, _⟩ := hBP
        go_wp2_with (fail)
        go_end0
        exact HBP.out
    · obtain ⟨hre, hrv⟩ := hro.1 rfl
      subst hre
      have HCS := Lib.hid (HGL.out g' HGG.out d name a body els (.slice (some ⟨b, off, none⟩) m ac) (.slice ba bn bc) (.slice ea el ec) env z s1 r w2 V sv1 nv vv hrv hz (HEXA.out a (by simp)) HBO.out HCB.out HXA.out HXB.out hbw HT2.out.run HT2.out.en HT2.out.ap HV.out (by simp only [Rs.cm] at hcp1; omega))
      clear hrv hro hbw
      go_wp2_with (fail)
      go_at_call 156
      refine HCS.out.mono ?_
      intro e w3 hBP
      have HBP := Lib.hid (HT2.out.ofT hBP)
      obtain ⟨_, _, _, _, _, _, rfl, _⟩ := hBP
      go_wp2_with (fail)
      go_end0
      exact HBP.out
    · have hro := hro.2 (by decide)
      unfold evS1 at hro
      rw [if_neg (by decide), if_neg (by decide), if_neg (by decide), if_neg (by decide), if_neg (by decide), if_pos rfl] at hro
      injection hro with hro
      subst hro
      have f2 := HT2.out.en.blk.frozen 2; have f3 := HT2.out.en.blk.frozen 3
      have HBP := Lib.hid (HT2.out.back hz)
      clear hbw
      go_wp2_with (fail)
      go_end0
      exact HBP.out
    · have hro := hro.2 (by decide)
      unfold evS1 at hro
      rw [if_neg (by decide), if_neg (by decide), if_neg (by decide), if_neg (by decide), if_neg (by decide), if_neg (by decide), if_pos rfl] at hro
      injection hro with hro
      subst hro
      clear hbw
      go_wp2_with (fail)
      go_end0
      exact HT2.out.ans rfl rfl rfl (fun e1 s1 e => by injection e with e _; exact e.symm) (fun v s1 e => by cases e)
end Go.Proofs.YtpnliencahnmoaaGreatDoor

set_option linter.unusedVariables false
set_option linter.unusedSimpArgs false
set_option maxRecDepth 100000
namespace Go.Proofs.YtpnliencahnmoaaGreatDoor
open Go.RowKit
structure LP (R CB V B : Nat) (fv sv nv vv : Value) (n : Nat) (s : Cm) (w : World) (box : List Value) (env' : Env) (s' : Cm) (en' : Nat) (ov' bk' : Bool) (bv' : Nat) (sv' nv' vv' : Value) (wr : World) : Prop where
  si : SI R CB V B fv sv nv vv n s w env' s' en' ov' bk' bv' sv' nv' vv' wr
  box : Blk wr w.heap.size box
  nb : w.heap.size ∉ foot R CB V sv' nv' vv'
  len : env'.length = n
theorem LP.go {R CB V B : Nat} {fv sv nv vv : Value} {n : Nat} {s : Cm} {w : World} {box : List Value} {env' : Env} {s' : Cm} {en' : Nat} {ov' bk' : Bool} {bv' : Nat} {sv' nv' vv' : Value} {wr : World} (h : LP R CB V B fv sv nv vv n s w box env' s' en' ov' bk' bv' sv' nv' vv' wr) {env2 : Env} {s2 : Cm} {en2 : Nat} {ov2 bk2 : Bool} {bv2 : Nat} {sv2 nv2 vv2 : Value} {w2 : World}
    (hS : SI R CB V B fv sv nv vv n s w env2 s2 en2 ov2 bk2 bv2 sv2 nv2 vv2 w2) (hF : Fq (foot R CB V sv' nv' vv') wr (foot R CB V sv2 nv2 vv2) w2) (hl : env2.length = n) : LP R CB V B fv sv nv vv n s w box env2 s2 en2 ov2 bk2 bv2 sv2 nv2 vv2 w2 :=
  ⟨hS, h.box.same (hF.only.block _ h.box.lt h.nb), fun hm => (hF.row _ hm).elim h.nb (fun e => by have := h.box.lt; omega), hl⟩
theorem LP.fr {R CB V B : Nat} {fv sv nv vv : Value} {n : Nat} {s : Cm} {w : World} {box : List Value} {env' : Env} {s' : Cm} {en' : Nat} {ov' bk' : Bool} {bv' : Nat} {sv' nv' vv' : Value} {wr : World} (h : LP R CB V B fv sv nv vv n s w box env' s' en' ov' bk' bv' sv' nv' vv' wr) {s2 : Cm} {en2 : Nat} {ov2 : Bool} {sv2 : Value} {w2 : World} (hR : Rn w2 R CB B fv sv2 s2 en2 ov2) (hF : Fr [R, CB] sv' wr sv2 w2) (hl : s2.left ≤ s'.left) :
    LP R CB V B fv sv nv vv n s w box env' s2 en2 ov2 bk' bv' sv2 nv' vv' w2 := h.go (h.si.fr hR hF hl) (Fq.of_fr hF) h.len
theorem LP.ans {R CB V B : Nat} {fv sv nv vv : Value} {n : Nat} {s : Cm} {w : World} {box : List Value} {env' : Env} {s' : Cm} {en' : Nat} {ov' bk' : Bool} {bv' : Nat} {sv' nv' vv' : Value} {wr : World} (h : LP R CB V B fv sv nv vv n s w box env' s' en' ov' bk' bv' sv' nv' vv' wr) {r : Rb} (hc : r.cm = s') (he : r.en = en') (ho : r.over = ov') (hg : ∀ e1 s1, r = .go e1 s1 → env' = e1 ∧ bk' = false ∧ bv' = 0) (hb : ∀ v s1, r = .back v s1 → bk' = true ∧ bv' = v) :
    BP R CB V B fv sv nv vv n s r (OkT n r) w (.returned (.tuple #[])) wr :=
  ⟨sv', nv', vv', env', bk', bv', rfl, by rw [hc, he, ho]; exact h.si.run, h.si.en, h.si.ap, h.si.lo, ⟨⟨h.si.lo, hg, hb, h.si.b256⟩, by have := h.len; omega⟩, h.si.fq, by rw [hc]; exact h.si.left⟩
/-- how far a loop is -/
def LQ (fs : List Fx) (c : Ex) (body : List St) (r : Rb) (k a : Nat) (env : Env) (s : Cm) (en : Nat) (ov : Bool) : Prop :=
  (ov = false → en = 0 ∧ evV fs k c body env a s = some r) ∧ (ov = true → r = .stop en s)
set_option maxHeartbeats 8000000 in
theorem loop_any {w0 : World} {fs : List Fx} {fv : Value} {R CB B g : Nat} (hCx : Cx w0 fs fv R CB B) (hG : ∀ g', g' < g → CE w0 fs fv R CB B g') (hGB : ∀ g', g' ≤ g → CBk w0 fs fv R CB B g') : CLp w0 fs fv R CB B g := by
  intro d name c body els av bw ev env v s r w V sv nv vv hev hv hex hbo hcb hxa hxb hb0 hR hE hA hV hcap
  obtain ⟨aa, ac, hkf⟩ := hxa.form
  obtain ⟨ba, bc, hbf⟩ := hxb.form
  obtain ⟨bn, hbn⟩ : ∃ n, n = body.length := ⟨_, rfl⟩
  have hbb := hxb.lens.1
  have hlt := hxa.lens.2 0 c rfl
  rw [← hbn] at hbb hbf
  rw [show [c].length = 1 from rfl] at hkf
  have hxa2 := hxa
  rw [hkf] at hxa2
  obtain ⟨b, off, kva, rfl, hbl, e0, e1, e2, e3, hka⟩ := hxa2.get (i := 0) (e := c) rfl
  simp only [Nat.zero_mul, Nat.add_zero] at e0 e1 e2 e3
  subst hkf hbf
  obtain ⟨n, hn⟩ : ∃ n, n = env.length := ⟨_, rfl⟩
  have hb1 := below1 w (.cells #[.int .i64 6, .string name, .slice (some ⟨b, off, none⟩) 1 ac, .slice ba bn bc, ev] 70)
  have HLP : Hid (LP R CB V B fv sv nv vv n s w [.int .i64 6, .string name, .slice (some ⟨b, off, none⟩) 1 ac, .slice ba bn bc, ev] env s 0 false false 0 sv nv vv (w.alloc (.cells #[.int .i64 6, .string name, .slice (some ⟨b, off, none⟩) 1 ac, .slice ba bn bc, ev] 70))) := Lib.hid ⟨⟨hR.below hb1, hE.below hb1, hA, by omega, Fq.below hb1, Nat.le_refl _, by omega, by omega⟩, Blk.new _ _ _, fun hm => by
    rw [mem_foot] at hm
    rcases hm with e | e | e | e | e | e
    · have := hR.blk.lt; omega
    · have := hR.cells.lt; omega
    · have := hE.blk.lt; omega
    · have := (World.ownsRow.lt hR.said _ e).2; omega
    · have := (World.ownsRow.lt hE.names _ e).2; omega
    · have := (World.ownsRow.lt hE.vals _ e).2; omega, hn.symm⟩
  have HLQ : Hid (LQ fs c body r g v env s 0 false) := Lib.hid ⟨fun _ => ⟨rfl, hev⟩, (fun h => by cases h)⟩
  rw [← hn]
  have hcap2 : n + s.left ≤ 20000 := by omega
  have HE0 := Lib.hid e0; have HE1 := Lib.hid e1; have HE2 := Lib.hid e2; have HE3 := Lib.hid e3; have HKA := Lib.hid hka
  have HR := Lib.hid hR; have HE := Lib.hid hE; have HB0 := Lib.hid hb0; have HG := Lib.hid hG; have HGB := Lib.hid hGB; have HCX := Lib.hid hCx; have HV := Lib.hid hV; have HEX := Lib.hid hex; have HBO := Lib.hid hbo; have HCB := Lib.hid hcb; have HXB := Lib.hid hxb; have HLT := Lib.hid hlt; have HCAP := Lib.hid hcap2
  unfold big at hbb
  clear hR hE hb0 hG hGB hCx hV hex hbo hcb hxb hlt hev hA hcap hcap2 hn hbn hxa hxa2 hka e0 e1 e2 e3 hb1
  go_enter Tryz.func156, Tryz.ntmps156
  go_wp2_with (fail)
  go_loopg [2] g (fun k p wr => ∃ (a : Nat) (env' : Env) (s' : Cm) (en' : Nat) (ov' : Bool) (sv' nv' vv' : Value), p = .int .i64 (a : Int) ∧ a < 256 ∧ k ≤ g ∧ Hid (LP R CB V B fv sv nv vv n s w [.int .i64 6, .string name, .slice (some ⟨b, off, none⟩) 1 ac, .slice ba bn bc, ev] env' s' en' ov' false 0 sv' nv' vv' wr) ∧ Hid (LQ fs c body r k a env' s' en' ov'))
  case atStart => exact ⟨v, _, _, _, _, _, _, _, rfl, hv, Nat.le_refl _, HLP, HLQ⟩
  case round =>
  obtain ⟨a, env', s', en', ov', sv', nv', vv', rfl, ha, hk, HP, HQ⟩ := hrel
  obtain ⟨_, _, _, _, _, _, c6⟩ := blkc7 HP.out.si.run.blk
  obtain ⟨q0, q1, q2, q3, q4⟩ := blkc5 HP.out.box
  by_cases hz : a = 0
  · subst hz
    cases ov'
    · obtain ⟨rfl, hr⟩ := HQ.out.1 rfl
      rw [evV, if_pos rfl] at hr
      injection hr with hr
      subst hr
      go_wp2_with (fail)
      go_end0
      exact HP.out.ans rfl rfl rfl (fun e1 s1 e => by injection e with e _; exact ⟨e, rfl, rfl⟩) (fun v s1 e => by cases e)
    · obtain rfl := HQ.out.2 rfl
      go_wp2_with (fail)
      go_end0
      exact HP.out.ans rfl rfl rfl (fun e1 s1 e => by cases e) (fun v s1 e => by cases e)
  · have hzi : ((a : Int) != 0) = true := by simp [bne, hz]
    have HZ := Lib.hid hz
    clear hz
    cases ov'
    · obtain ⟨rfl, hr⟩ := HQ.out.1 rfl
      rw [evV, if_neg HZ.out] at hr
      cases hB : evB fs gk body env' s' with
      | none => rw [hB] at hr; cases hr
      | some rb =>
      rw [hB] at hr
      have hbw := HCX.out.belF HB0.out HR.out HE.out HV.out HP.out.si.fq
      have HC := Lib.hid (HGB.out gk hk d body _ env' s' rb wr V sv' nv' vv' hB HBO.out HCB.out HXB.out hbw HP.out.si.run HP.out.si.en HP.out.si.ap HV.out HP.out.si.cap)
      obtain ⟨k', rfl⟩ : ∃ k', gk = k' + 1 := by
        cases gk with
        | zero => simp [evB] at hB
        | succ k' => exact ⟨k', rfl⟩
      have HRR := Lib.hid hr
      clear hr hB hbw
      go_wp2_with (fail)
      go_at_call 82
      refine HC.out.mono ?_
      rintro e w2 ⟨sv2, nv2, vv2, env2, bk2, bv2, rfl, hR2, hE2, hA2, hlo2, ⟨hl2, hg2, hbk2, hbv2⟩, hF2, hL2⟩
      have HL2 : Hid (env2.length = n) := Lib.hid (by rw [hl2]; exact HP.out.len)
      have HP2 := Lib.hid (HP.out.go (HP.out.si.st hR2 hE2 hA2 hlo2 hF2 hL2 (by have := HCAP.out; have h2 := HP.out.si.left; have := HL2.out; omega) hbv2) hF2 HL2.out)
      obtain ⟨_, _, _, _, _, _, c6'⟩ := blkc7 HP2.out.si.run.blk
      obtain ⟨_, _, d2, _⟩ := blkc4 HP2.out.si.en.blk
      have HG2 := Lib.hid hg2; have HK2 := Lib.hid hbk2
      clear hR2 hE2 hA2 hlo2 hl2 hg2 hbk2 hbv2 hF2 hL2 c6 q0 q1 q2 q3 q4
      cases rb with
      | stop en s2 =>
        have hr := HRR.out
        simp only [] at hr
        injection hr with hr
        subst hr
        simp only [Rb.over] at c6'
        go_wp2_with (fail)
        go_end0
        exact HP2.out.ans rfl rfl rfl (fun e1 s1 e => by cases e) (fun v s1 e => by cases e)
      | back u s2 =>
        have hr := HRR.out
        simp only [] at hr
        injection hr with hr
        subst hr
        obtain ⟨rfl, rfl⟩ := HK2.out u s2 rfl
        simp only [Rb.over] at c6'
        go_wp2_with (fail)
        go_end0
        exact HP2.out.ans rfl rfl rfl (fun e1 s1 e => by cases e) (fun v s1 e => by injection e with e _; exact ⟨rfl, e⟩)
      | go e1 s2 =>
        have hr := HRR.out
        simp only [] at hr
        obtain ⟨rfl, rfl, rfl⟩ := HG2.out e1 s2 rfl
        simp only [Rb.over] at c6'
        have HT := Lib.hid (l5take_any w2 R CB B fv sv2 s2 HP2.out.si.run)
        by_cases hs0 : s2.left = 0
        · rw [if_pos hs0] at hr
          injection hr with hr
          subst hr
          have HS0 := Lib.hid hs0
          clear hs0
          go_wp2_with (fail)
          go_at_call 120
          refine HT.out.mono ?_
          rintro e w3 ⟨rfl, hR3, _, hF3⟩
          have HP3 := Lib.hid (HP2.out.fr (hR3 HS0.out) hF3 (Nat.le_refl _))
          have hb3 := HCX.out.belF HB0.out HR.out HE.out HV.out HP3.out.si.fq
          have e0 := cellB hb3 HE0.out; have e1 := cellB hb3 HE1.out; have e2 := cellB hb3 HE2.out; have e3 := cellB hb3 HE3.out
          obtain ⟨q0, q1, q2, q3, q4⟩ := blkc5 HP3.out.box
          have HO := Lib.hid (expr_over w3 R CB B fv sv2 s2 3 HP3.out.si.run c.op c.n c.name kva (.pointer (some ⟨V, 0, none⟩)))
          clear hR3 hF3 hb3
          go_wp2_with (fail)
          go_at_call 154
          refine HO.out.mono ?_
          rintro e w4 ⟨rfl, hb4⟩
          have HP4 := Lib.hid (HP3.out.fr (HP3.out.si.run.below hb4) (Fr.below hb4) (Nat.le_refl _))
          clear hb4
          go_wp2_with (fail)
          go_roundg k'
          case rel => exact ⟨0, _, _, _, _, _, _, _, rfl, by omega, by omega, HP4, Lib.hid ⟨(fun h => by cases h), fun _ => rfl⟩⟩
          case measure => omega
        · rw [if_neg hs0] at hr
          obtain ⟨k2, r1, hkk, hE1, hst, hrt⟩ := evW_parts hr
          obtain rfl : k' = k2 := by omega
          have HS0 := Lib.hid hs0; have HST := Lib.hid hst; have HRT := Lib.hid hrt; have HE1E := Lib.hid hE1
          clear hs0 hr hst hrt hE1 hkk
          go_wp2_with (fail)
          go_at_call 120
          refine HT.out.mono ?_
          rintro e w3 ⟨rfl, _, hR3, hF3⟩
          have HP3 := Lib.hid (HP2.out.fr (hR3 HS0.out) hF3 (by show s2.left - 1 ≤ s2.left; omega))
          have hb3 := HCX.out.belF HB0.out HR.out HE.out HV.out HP3.out.si.fq
          have e0 := cellB hb3 HE0.out; have e1 := cellB hb3 HE1.out; have e2 := cellB hb3 HE2.out; have e3 := cellB hb3 HE3.out
          obtain ⟨q0, q1, q2, q3, q4⟩ := blkc5 HP3.out.box
          have HO := Lib.hid (HG.out k' (by omega) 6 c kva _ s2.tick r1 w3 V sv2 nv2 vv2 false 0 (by have := HE1E.out; rw [HP.out.len] at *; exact this) HEX.out HLT.out HKA.out hb3 HP3.out.si.run HP3.out.si.en HP3.out.si.ap (by have := HP3.out.si.cap; omega))
          clear hR3 hF3 hb3
          go_wp2_with (fail)
          go_at_call 154
          refine HO.out.mono ?_
          rintro e w4 ⟨z, sv4, rfl, hz, hzv, hR4, hF4, hL4⟩
          have HP4 := Lib.hid (HP3.out.fr hR4 hF4 hL4)
          have HZV := Lib.hid hzv
          clear hR4 hF4 hL4 hzv
          go_wp2_with (fail)
          go_roundg k'
          case rel =>
            refine ⟨z, _, _, _, _, _, _, _, rfl, hz, by omega, HP4, Lib.hid ?_⟩
            cases r1 with
            | stop en s5 => exact ⟨(fun h => by cases h), fun _ => HST.out en s5 rfl⟩
            | ret u s5 =>
              obtain rfl := HZV.out u s5 rfl
              exact ⟨fun _ => ⟨rfl, by have := HRT.out z s5 rfl; rw [HP.out.len] at *; exact this⟩, (fun h => by cases h)⟩
          case measure => omega
    · obtain rfl := HQ.out.2 rfl
      go_wp2_with (fail)
      go_end0
      exact HP.out.ans rfl rfl rfl (fun e1 s1 e => by cases e) (fun v s1 e => by cases e)
end Go.Proofs.YtpnliencahnmoaaGreatDoor

set_option linter.unusedVariables false
set_option linter.unusedSimpArgs false
set_option maxRecDepth 100000
namespace Go.Proofs.YtpnliencahnmoaaGreatDoor
open Go.RowKit
set_option maxHeartbeats 2000000 in
theorem expr_call {w : World} {R CB V B : Nat} {fv sv : Value} {s : Cm} {r : Rs} (h : Rn w R CB B fv sv s 0 false) (n : Int) (nm : ByteArray) (kv : Value)
    (hC : ∀ w', Below w.heap.size w w' → Calls Tryz.prog 191 #[.pointer (some ⟨R, 0, none⟩), .agg #[.int .i64 13, .int .i64 n, .string nm, kv], .pointer (some ⟨V, 0, none⟩)] w' (EP R CB B fv sv s r w')) {a : Option Addr} {m c : Nat} (hk : kv = .slice a m c) :
    Calls Tryz.prog 154 #[.pointer (some ⟨R, 0, none⟩), .agg #[.int .i64 13, .int .i64 n, .string nm, kv], .pointer (some ⟨V, 0, none⟩)] w (EP R CB B fv sv s r w) := by
  subst hk
  have hb1 := below1 w (.cells #[.int .i64 13, .int .i64 n, .string nm, .slice a m c] 67)
  have h1 := h.below hb1
  obtain ⟨_, _, _, _, _, _, c6⟩ := blkc7 h1.blk
  have HC := Lib.hid (hC _ hb1)
  have HB1 := Lib.hid hb1
  clear h h1 hC hb1
  go_enter Tryz.func154, Tryz.ntmps154
  go_wp2_with (fail)
  go_at_call 191
  refine HC.out.mono ?_
  rintro e w2 ⟨z, sv2, rfl, hz, hzv, hR2, hF2, hL2⟩
  have HZV := Lib.hid hzv; have HR2 := Lib.hid hR2; have HF2 := Lib.hid ((Fr.below HB1.out).trans hF2); have HL2 := Lib.hid hL2
  clear hzv hR2 hF2 hL2
  go_wp2_with (fail)
  go_ret
  exact ⟨z, sv2, rfl, hz, HZV.out, HR2.out, HF2.out, HL2.out⟩
theorem expr_any {w0 : World} {fs : List Fx} {fv : Value} {R CB B g : Nat} (hCx : Cx w0 fs fv R CB B) (hG : ∀ g', g' < g → CE w0 fs fv R CB B g') (hGB : ∀ g', g' < g → CBk w0 fs fv R CB B g') : CE w0 fs fv R CB B g := by
  intro d e kv env s r w V sv nv vv bk bv hev hex hnz hkv hb0 hR hE hA hl
  obtain ⟨op, n, name, kids⟩ := e
  simp only [Ex.kids, Ex.name, Ex.op, Ex.n] at hkv hnz ⊢
  cases g with
  | zero => simp [evE] at hev
  | succ g =>
  obtain ⟨hok, hck⟩ := hex
  cases d with
  | zero => simp [exOk] at hok
  | succ d =>
  simp only [exOk, Bool.and_eq_true, decide_eq_true_eq] at hok
  simp only [chkA, Bool.and_eq_true] at hck
  obtain ⟨⟨⟨⟨⟨hop, hkn⟩, _⟩, hn⟩, _⟩, hka⟩ := hok
  obtain ⟨h13, hkc⟩ := hck
  have hexk : ∀ y ∈ kids, exA fs d y := fun y hy => ⟨List.all_eq_true.1 hka y hy, List.all_eq_true.1 hkc y hy⟩
  have hGg := hG g (Nat.lt_succ_self g)
  unfold evE at hev
  by_cases o1 : op = 1
  · subst o1
    rw [if_pos rfl] at hev
    injection hev with hev
    subst hev
    obtain ⟨k, rfl⟩ : ∃ k : Nat, n = k := ⟨n.toNat, by omega⟩
    exact expr_num hR k (by omega) name kv _
  rw [if_neg o1] at hev
  by_cases o2 : op = 2
  · subst o2
    rw [if_pos rfl] at hev
    cases hv : env.get name with
    | none => rw [hv] at hev; cases hev
    | some v =>
      rw [hv] at hev
      injection hev with hev
      subst hev
      exact expr_var hR hE hl n name v hv kv
  rw [if_neg o2] at hev
  by_cases o13 : op = 13
  · subst o13
    rw [if_pos rfl] at hev h13
    cases hL : evL fs g kids env s with
    | none => rw [hL] at hev; cases hf : fnIx fs name <;> rw [hf] at hev <;> cases hev
    | some RL =>
    cases hf : fnIx fs name with
    | none => rw [hf] at h13; cases h13
    | some k =>
    rw [hL, hf] at hev
    rw [hf] at h13
    simp only [decide_eq_true_eq] at h13
    obtain ⟨f, hfk, hpl⟩ : ∃ f, fs[k]? = some f ∧ f.params.length = kids.length := by
      cases hk : fs[k]? with
      | none => rw [hk] at h13; cases h13
      | some f => rw [hk] at h13; injection h13 with h13; exact ⟨f, rfl, h13⟩
    obtain ⟨a, c, hkf⟩ := hkv.form
    refine expr_call hR n name kv (fun w' hb => ?_) hkf
    refine call_any hCx (fun g' hg => hG g' (by omega)) (fun g' hg => hGB g' (by omega)) (hR.below hb) (hE.below hb) hA hl (hb0.trans (hb.mono hb0.size)) n name kv hkv hexk (by have := hkn.2; simp [kidsN] at this; exact this) hf hfk hpl hL (r := r) ?_ ?_
    · intro vs s1 e; subst e; exact hev
    · intro en s1 e; subst e; injection hev with hev; exact hev.symm
  rw [if_neg o13] at hev
  by_cases o11 : op = 11
  · subst o11
    have hk1 : kids.length = 1 := by simp [kidsN] at hkn; omega
    obtain ⟨a, rfl⟩ := List.length_eq_one_iff.1 hk1
    simp only [if_true] at hev
    cases hE1 : evE fs g a env s with
    | none => rw [hE1] at hev; cases hev
    | some r1 =>
      refine expr_not hCx hGg hR hE hA hl hb0 n name kv hkv (hexk a (by simp)) hE1 ?_
      rw [hE1] at hev
      cases r1 <;> (injection hev with hev <;> exact hev)
  by_cases o12 : op = 12
  · subst o12
    have hk1 : kids.length = 1 := by simp [kidsN] at hkn; omega
    obtain ⟨a, rfl⟩ := List.length_eq_one_iff.1 hk1
    simp only [if_neg o11, if_true] at hev
    cases hE1 : evE fs g a env s with
    | none => rw [hE1] at hev; cases hev
    | some r1 =>
      refine expr_at hCx hGg hR hE hA hl hb0 n name kv hkv (hexk a (by simp)) hE1 ?_
      rw [hE1] at hev
      cases r1 with
      | ret v s1 =>
        simp only at hev
        unfold atR
        simp only []
        split at hev <;> rename_i h16
        · rw [if_pos h16]; injection hev
        · rw [if_neg h16]; injection hev
      | stop en s1 => injection hev with hev <;> exact hev
  have hk2 : kids.length = 2 := by simp [kidsN, o1, o2, o11, o12, o13] at hkn; omega
  obtain ⟨a, a2, rfl⟩ : ∃ a a2, kids = [a, a2] := by
    match kids, hk2 with
    | [a, a2], _ => exact ⟨a, a2, rfl⟩
  simp only at hev
  by_cases o10 : op = 10
  · subst o10
    simp only [if_true] at hev
    cases hE1 : evE fs g a env s with
    | none => rw [hE1] at hev; cases hev
    | some r1 =>
    rw [hE1] at hev
    cases r1 with
    | stop en s1 =>
      injection hev with hev
      subst hev
      exact expr_and (q := .stop en s1) hCx hGg hR hE hA hl hb0 n name kv hkv (hexk a (by simp)) (hexk a2 (by simp)) hE1 (fun v s1 e => by cases e) (fun en s1 e => by exact e ▸ rfl) rfl
    | ret v s1 =>
      simp only at hev
      by_cases hv0 : v = 0
      · rw [if_pos hv0] at hev
        injection hev with hev
        subst hev
        exact expr_and (q := .ret 0 s1) hCx hGg hR hE hA hl hb0 n name kv hkv (hexk a (by simp)) (hexk a2 (by simp)) hE1 (fun v' s1' e hv' => by injection e with e _; exact absurd (e ▸ hv0) hv') (fun en s1 e => by cases e) (if_pos hv0)
      · rw [if_neg hv0] at hev
        cases hE2 : evE fs g a2 env s1 with
        | none => rw [hE2] at hev; cases hev
        | some q =>
          rw [hE2] at hev
          refine expr_and (q := q) hCx hGg hR hE hA hl hb0 n name kv hkv (hexk a (by simp)) (hexk a2 (by simp)) hE1 (fun v' s1' e _ => by injection e with e1 e2; rw [← e2]; exact hE2) (fun en s1 e => by cases e) ?_
          rw [show andR (.ret v s1) q = andQ q from if_neg hv0]
          cases q <;> (injection hev with hev <;> exact hev)
  rw [if_neg o10] at hev
  have ho39 : 3 ≤ op ∧ op ≤ 9 := by omega
  rw [if_pos ho39] at hev
  obtain ⟨k, rfl⟩ : ∃ k : Nat, op = k := ⟨op.toNat, by omega⟩
  cases hE1 : evE fs g a env s with
  | none => rw [hE1] at hev; cases hev
  | some r1 =>
  rw [hE1] at hev
  cases r1 with
  | stop en s1 =>
    injection hev with hev
    subst hev
    exact expr_two (q := .stop en s1) hCx hGg hR hE hA hl hb0 n name kv hkv (by omega) (hexk a (by simp)) (hexk a2 (by simp)) hE1 (fun v s1 e => by cases e) (fun en s1 e => by exact e ▸ rfl) rfl
  | ret v s1 =>
    simp only at hev
    cases hE2 : evE fs g a2 env s1 with
    | none => rw [hE2] at hev; cases hev
    | some q =>
      rw [hE2] at hev
      refine expr_two (q := q) hCx hGg hR hE hA hl hb0 n name kv hkv (by omega) (hexk a (by simp)) (hexk a2 (by simp)) hE1 (fun v' s1' e => by injection e with e1 e2; rw [← e2]; exact hE2) (fun en s1 e => by cases e) ?_
      show twoQ k v q = r
      cases q with
      | stop en s2 => injection hev with hev <;> exact hev
      | ret u s2 =>
        simp only [twoN, Int.toNat_natCast] at hev
        unfold twoQ
        simp only []
        cases harn : arithN k v u with
        | none => rw [harn] at hev; injection hev with hev <;> exact hev
        | some x => rw [harn] at hev; injection hev with hev <;> exact hev
theorem runs_all {w0 : World} {fs : List Fx} {fv : Value} {R CB B : Nat} (hCx : Cx w0 fs fv R CB B) : ∀ g, CE w0 fs fv R CB B g ∧ CBk w0 fs fv R CB B g ∧ CLp w0 fs fv R CB B g := by
  intro g
  induction g using Nat.strongRecOn with
  | ind g ih =>
    have hE := expr_any hCx (fun g' hg => (ih g' hg).1) (fun g' hg => (ih g' hg).2.1)
    have hS : ∀ g', g' < g → CSt w0 fs fv R CB B g' := fun g' hg => stmt_any hCx (fun q hq => (ih q (by omega)).1) (fun q hq => (ih q (by omega)).2.1) (fun q hq => (ih q (by omega)).2.2)
    have hB := stmts_any hCx hS
    refine ⟨hE, hB, loop_any hCx (fun q hq => (ih q hq).1) (fun q hq => ?_)⟩
    rcases Nat.lt_or_ge q g with h | h
    · exact (ih q h).2.1
    · obtain rfl : q = g := by omega
      exact hB
end Go.Proofs.YtpnliencahnmoaaGreatDoor
