/- The reference's run: statements one after the other. The interpreter of trees: what is said and what is left of the fuel are together never more. No program in sight. The reference's run: one statement, the plain part. -/
import Derived.Test.YtpnliencahnmoaaGreatDoorQ15
set_option linter.unusedVariables false
set_option linter.unusedSimpArgs false
set_option linter.unusedVariables false
set_option linter.unusedSimpArgs false
set_option maxRecDepth 100000
namespace Go.Proofs.YtpnliencahnmoaaGreatDoor
open Go.RowKit
theorem Cx.belF {w0 : World} {fs : List Fx} {fv : Value} {R CB B : Nat} (h : Cx w0 fs fv R CB B) {w w' : World} {V : Nat} {sv nv vv : Value} {s : Cm} {en : Nat} {ov : Bool} {env : Env} {bk : Bool} {bv : Nat} (hb : Below w0.heap.size w0 w) (hR : Rn w R CB B fv sv s en ov) (hE : En w V B nv vv env bk bv) (hV : B ≤ V) {S' : List Nat} (hf : Fq (foot R CB V sv nv vv) w S' w') : Below w0.heap.size w0 w' :=
  hf.only.below hb hb.size (fun z hz => by
    have h0 := h.b0; have h1 := h.hR; have h2 := h.hCB
    rw [mem_foot] at hz
    rcases hz with e | e | e | e | e | e
    · omega
    · omega
    · omega
    · have := ownBlock_of hR.said z e; omega
    · have := ownBlock_of hE.names z e; omega
    · have := ownBlock_of hE.vals z e; omega)
/-- statements on their way -/
structure SI (R CB V B : Nat) (fv sv nv vv : Value) (n : Nat) (s : Cm) (w : World) (env' : Env) (s' : Cm) (en' : Nat) (ov' bk' : Bool) (bv' : Nat) (sv' nv' vv' : Value) (wr : World) : Prop where
  run : Rn wr R CB B fv sv' s' en' ov'
  en : En wr V B nv' vv' env' bk' bv'
  ap : Ap R CB V sv' nv' vv'
  lo : n ≤ env'.length
  fq : Fq (foot R CB V sv nv vv) w (foot R CB V sv' nv' vv') wr
  left : s'.left ≤ s.left
  cap : env'.length + s'.left ≤ 20000
  b256 : bv' < 256
theorem SI.fr {R CB V B : Nat} {fv sv nv vv : Value} {n : Nat} {s : Cm} {w : World} {env' : Env} {s' : Cm} {en' : Nat} {ov' bk' : Bool} {bv' : Nat} {sv' nv' vv' : Value} {wr : World} (h : SI R CB V B fv sv nv vv n s w env' s' en' ov' bk' bv' sv' nv' vv' wr) {s2 : Cm} {en2 : Nat} {ov2 : Bool} {sv2 : Value} {w2 : World} (hR : Rn w2 R CB B fv sv2 s2 en2 ov2) (hF : Fr [R, CB] sv' wr sv2 w2) (hl : s2.left ≤ s'.left) :
    SI R CB V B fv sv nv vv n s w env' s2 en2 ov2 bk' bv' sv2 nv' vv' w2 :=
  ⟨hR, h.en.fr h.ap hF, h.ap.fr h.en hF, h.lo, h.fq.trans (Fq.of_fr hF), Nat.le_trans hl h.left, by have := h.cap; omega, h.b256⟩
theorem SI.st {R CB V B : Nat} {fv sv nv vv : Value} {n : Nat} {s : Cm} {w : World} {env' : Env} {s' : Cm} {en' : Nat} {ov' bk' : Bool} {bv' : Nat} {sv' nv' vv' : Value} {wr : World} (h : SI R CB V B fv sv nv vv n s w env' s' en' ov' bk' bv' sv' nv' vv' wr) {env2 : Env} {s2 : Cm} {en2 : Nat} {ov2 bk2 : Bool} {bv2 : Nat} {sv2 nv2 vv2 : Value} {w2 : World}
    (hR : Rn w2 R CB B fv sv2 s2 en2 ov2) (hE : En w2 V B nv2 vv2 env2 bk2 bv2) (hA : Ap R CB V sv2 nv2 vv2) (hlo : env'.length ≤ env2.length) (hF : Fq (foot R CB V sv' nv' vv') wr (foot R CB V sv2 nv2 vv2) w2) (hl : s2.left ≤ s'.left) (hc : env2.length + s2.left ≤ 20000) (hb : bv2 < 256) :
    SI R CB V B fv sv nv vv n s w env2 s2 en2 ov2 bk2 bv2 sv2 nv2 vv2 w2 :=
  ⟨hR, hE, hA, Nat.le_trans h.lo hlo, h.fq.trans hF, Nat.le_trans hl h.left, hc, hb⟩
theorem cut_rev {α : Type} (l : List α) (n : Nat) : (l.drop (l.length - n)).reverse = l.reverse.take n := by
  rw [List.reverse_drop]
  by_cases h : n ≤ l.length
  · congr 1; omega
  · rw [show l.length - (l.length - n) = l.length by omega, List.take_of_length_le (by simp), List.take_of_length_le (by simp; omega)]
theorem envN_cut (env : Env) (n : Nat) : envN (env.cut n) = (envN env).take n := by
  unfold envN Env.cut; rw [List.map_drop, show env.length = (env.map Prod.fst).length by simp, cut_rev]
theorem envV_cut (env : Env) (n : Nat) : envV (env.cut n) = (envV env).take n := by
  unfold envV Env.cut; rw [List.map_drop, show env.length = (env.map Prod.snd).length by simp, cut_rev]
theorem cut_len {env : Env} {n : Nat} (h : n ≤ env.length) : (env.cut n).length = n := by unfold Env.cut; rw [List.length_drop]; omega
theorem ownB_len (a : Option Addr) (n m c : Nat) : (Value.slice a n c).ownBlock = (Value.slice a m c).ownBlock := by cases a <;> rfl
/-- the block's own variables are gone -/
theorem SI.fin {R CB V B : Nat} {fv sv nv vv : Value} {n : Nat} {s : Cm} {w : World} {env' : Env} {s' : Cm} {en' : Nat} {ov' bk' : Bool} {bv' : Nat} {sv' : Value} {na ua : Option Addr} {l nc uc : Nat} {wr : World} (h : SI R CB V B fv sv nv vv n s w env' s' en' ov' bk' bv' sv' (.slice na l nc) (.slice ua l uc) wr) (hl : l = env'.length) :
    SI R CB V B fv sv nv vv n s w (env'.cut n) s' en' ov' bk' bv' sv' (.slice na n nc) (.slice ua n uc) ((wr.setCell ⟨V, 0, none⟩ (.slice na n nc)).setCell ⟨V, 1, none⟩ (.slice ua n uc)) := by
  subst hl
  have hlo := h.lo
  have hcl := cut_len hlo
  have hk : ∀ q, q ≠ V → ((wr.setCell ⟨V, 0, none⟩ (.slice na n nc)).setCell ⟨V, 1, none⟩ (.slice ua n uc)).heap[q]? = wr.heap[q]? := fun q hq => by
    rw [Below.heap_setCell _ _ _ _ (by simp; exact fun e => hq e), Below.heap_setCell _ _ _ _ (by simp; exact fun e => hq e)]
  have hO : Only [V] wr ((wr.setCell ⟨V, 0, none⟩ (.slice na n nc)).setCell ⟨V, 1, none⟩ (.slice ua n uc)) := ((Only.refl [V] wr).setCell (p := ⟨V, 0, none⟩) (by simp) _).setCell (p := ⟨V, 1, none⟩) (by simp) _
  have hnb := ownB_len na env'.length n nc
  have hub := ownB_len ua env'.length n uc
  have hap : Ap R CB V sv' (.slice na n nc) (.slice ua n uc) := ⟨h.ap.v, by rw [← hnb, ← hub]; exact h.ap.n, by rw [← hub]; exact h.ap.u⟩
  have hn := ownsRow_take h.en.names hlo
  have hv := ownsRow_take h.en.vals hlo
  refine ⟨h.run.keep (fun q hq => hk q ?_), ⟨(h.en.blk.set 0 _).set 1 _, ?_, ?_, h.en.ok.cut n⟩, hap, by omega, h.fq.trans ⟨hO.mono (fun x hx => by simp at hx; rw [mem_foot]; exact .inr (.inr (.inl hx))), fun k hk => .inl (by unfold foot at hk ⊢; rw [hnb, hub]; exact hk)⟩, h.left, by have := h.cap; omega, h.b256⟩
  · rcases hq with rfl | rfl | hq
    · exact fun e => h.ap.v.1 e.symm
    · exact fun e => h.ap.v.2.1 e.symm
    · rintro rfl; exact h.ap.v.2.2 hq
  · rw [envN_cut, hcl, List.map_take]
    exact ownsRow_same (by simpa using hn) (fun q hq => hk q (hap.n q hq).2.2.1)
  · rw [envV_cut, hcl]
    unfold nats
    rw [List.map_take]
    exact ownsRow_same (by simpa [nats] using hv) (fun q hq => hk q (hap.u q hq).2.2.1)
/-- how far the statements are -/
def BI (fs : List Fx) (g : Nat) (ss : List St) (r : Rb) (j : Nat) (env : Env) (s : Cm) (en : Nat) (ov bk : Bool) (bv : Nat) : Prop :=
  (ov = false → bk = false → en = 0 ∧ bv = 0 ∧ ∃ gj, gj ≤ g ∧ evB fs gj (ss.drop j) env s = some r) ∧ (ov = true → r = .stop en s) ∧ (ov = false → bk = true → en = 0 ∧ r = .back bv s)
theorem BI.next {fs : List Fx} {g : Nat} {ss : List St} {r : Rb} {j : Nat} {env : Env} {s : Cm} {en bv : Nat} (h : BI fs g ss r j env s en false false bv) {x : St} (hx : ss[j]? = some x) :
    (s.left = 0 → BI fs g ss r (j + 1) env s 3 true false bv) ∧ (s.left ≠ 0 → ∃ gj rs, gj < g ∧ evS fs gj x env s.tick = some rs ∧ ∀ env' bk' bv', OkS env.length rs env' bk' bv' → BI fs g ss r (j + 1) env' rs.cm rs.en rs.over bk' bv') := by
  obtain ⟨_, _, gj, hg, he⟩ := h.1 rfl rfl
  have hl := idx_lt hx
  rw [List.getElem?_eq_getElem hl] at hx
  injection hx with hx
  rw [← List.getElem_cons_drop hl, hx] at he
  cases gj with
  | zero => simp [evB] at he
  | succ gj =>
    rw [evB] at he
    refine ⟨fun h0 => ?_, fun h0 => ?_⟩
    · rw [if_pos h0] at he
      injection he with he
      exact ⟨(fun h => by cases h), fun _ => he.symm, (fun h => by cases h)⟩
    · rw [if_neg h0] at he
      cases hE : evS fs gj x env s.tick with
      | none => rw [hE] at he; cases he
      | some rs =>
        rw [hE] at he
        refine ⟨gj, rs, by omega, hE, fun env' bk' bv' hok => ?_⟩
        cases rs with
        | go e1 s1 =>
          obtain ⟨rfl, rfl, rfl⟩ := hok.2.1 e1 s1 rfl
          exact ⟨fun _ _ => ⟨rfl, rfl, gj, by omega, he⟩, (fun h => by cases h), (fun _ h => by cases h)⟩
        | back v s1 =>
          obtain ⟨rfl, rfl⟩ := hok.2.2.1 v s1 rfl
          injection he with he
          exact ⟨(fun _ h => by cases h), (fun h => by cases h), fun _ _ => ⟨rfl, he.symm⟩⟩
        | stop e s1 =>
          injection he with he
          exact ⟨(fun h => by cases h), fun _ => he.symm, (fun h => by cases h)⟩
theorem BI.fin {fs : List Fx} {g : Nat} {ss : List St} {r : Rb} {j : Nat} {env : Env} {s : Cm} {en : Nat} {ov bk : Bool} {bv : Nat} (h : BI fs g ss r j env s en ov bk bv) (hx : ss.length ≤ j ∨ ov = true ∨ bk = true) :
    r.cm = s ∧ r.en = en ∧ r.over = ov ∧ (∀ e1 s1, r = .go e1 s1 → env = e1 ∧ bk = false ∧ bv = 0) ∧ (∀ v s1, r = .back v s1 → bk = true ∧ bv = v) := by
  cases ov
  · cases bk
    · obtain ⟨rfl, rfl, gj, _, he⟩ := h.1 rfl rfl
      rw [List.drop_of_length_le (by rcases hx with h | h | h <;> first | exact h | cases h)] at he
      cases gj with
      | zero => simp [evB] at he
      | succ gj =>
        rw [evB] at he
        injection he with he
        subst he
        exact ⟨rfl, rfl, rfl, fun e1 s1 e => by injection e with e _; exact ⟨e, rfl, rfl⟩, (fun v s1 e => by cases e)⟩
    · obtain ⟨rfl, rfl⟩ := h.2.2 rfl rfl
      exact ⟨rfl, rfl, rfl, (fun e1 s1 e => by cases e), fun v s1 e => by injection e with e _; exact ⟨rfl, e⟩⟩
  · obtain rfl := h.2.1 rfl
    exact ⟨rfl, rfl, rfl, (fun e1 s1 e => by cases e), (fun v s1 e => by cases e)⟩
/-- a statement runs with so much gas -/
def CSt (w0 : World) (fs : List Fx) (fv : Value) (R CB B g : Nat) : Prop :=
  ∀ (d : Nat) (x : St) (av bw ev : Value) (env : Env) (s : Cm) (r : Rb) (w : World) (V : Nat) (sv nv vv : Value), evS fs g x env s = some r → stOk isNB d x = true → stA fs d x = true → x.name.size ≤ big → ExsAt w0 av x.args → StsAt w0 bw x.body → StsAt w0 ev x.els → Below w0.heap.size w0 w →
    Rn w R CB B fv sv s 0 false → En w V B nv vv env false 0 → Ap R CB V sv nv vv → B ≤ V → env.length + 1 + s.left ≤ 20000 → s.said.length + s.left + 1 ≤ 8000 →
    Calls Tryz.prog 121 #[.pointer (some ⟨R, 0, none⟩), .agg #[.int .i64 x.op, .string x.name, av, bw, ev], .pointer (some ⟨V, 0, none⟩)] w (BP R CB V B fv sv nv vv env.length s r (fun env' bk' bv' => OkS env.length r env' bk' bv' ∧ env'.length ≤ env.length + 1) w)
set_option maxHeartbeats 8000000 in
theorem stmts_any {w0 : World} {fs : List Fx} {fv : Value} {R CB B g : Nat} (hCx : Cx w0 fs fv R CB B) (hS : ∀ g', g' < g → CSt w0 fs fv R CB B g') : CBk w0 fs fv R CB B g := by
  intro d ss v env s r w V sv nv vv hev hok hst hsx hb0 hR hE hA hV hcap
  obtain ⟨a, cap, hvf⟩ := hsx.form
  obtain ⟨m, hm⟩ : ∃ m, m = ss.length := ⟨_, rfl⟩
  have hmb : m ≤ big := by rw [hm]; exact hsx.lens.1
  rw [← hm] at hvf
  subst hvf
  obtain ⟨n, hn⟩ : ∃ n, n = env.length := ⟨_, rfl⟩
  have HSI : Hid (SI R CB V B fv sv nv vv n s w env s 0 false false 0 sv nv vv w) := Lib.hid ⟨hR, hE, hA, by omega, Fq.refl _ _, Nat.le_refl _, by omega, by omega⟩
  have HBI : Hid (BI fs g ss r 0 env s 0 false false 0) := Lib.hid ⟨fun _ _ => ⟨rfl, rfl, g, Nat.le_refl _, by simpa using hev⟩, (fun h => by cases h), (fun _ h => by cases h)⟩
  obtain ⟨na, nc, hnf⟩ := rowForm hE.names
  obtain ⟨d0, _, _, _⟩ := blkc4 hE.blk
  rw [hnf, ← hn] at d0
  have HR := Lib.hid hR; have HE := Lib.hid hE; have HB0 := Lib.hid hb0; have HM := Lib.hid hm; have HS := Lib.hid hS; have HX := Lib.hid hsx; have HCX := Lib.hid hCx; have HV := Lib.hid hV
  have HOK : Hid (∀ x ∈ ss, stOk isNB d x = true) := Lib.hid (List.all_eq_true.1 hok)
  have HST : Hid (∀ x ∈ ss, stA fs d x = true) := Lib.hid (List.all_eq_true.1 hst)
  have hn2 : n ≤ 20000 := by omega
  have HN := Lib.hid hn
  rw [← hn]
  unfold big at hmb
  clear hR hE hb0 hm hS hsx hCx hV hok hst hev hA hcap hnf hn
  go_enter Tryz.func82, Tryz.ntmps82
  go_wp2_with (fail)
  clear d0
  go_loopw [7] (fun i wr => ∃ (j : Nat) (env' : Env) (s' : Cm) (en' : Nat) (ov' bk' : Bool) (bv' : Nat) (sv' nv' vv' : Value), j ≤ m ∧ i = .int .i64 j ∧ Hid (SI R CB V B fv sv nv vv n s w env' s' en' ov' bk' bv' sv' nv' vv' wr) ∧ Hid (BI fs g ss r j env' s' en' ov' bk' bv')) (fun i _ => m - (intOf i).toNat)
  case atStart => exact ⟨0, _, _, _, _, _, _, _, _, _, Nat.zero_le _, rfl, HSI, HBI⟩
  case round =>
  obtain ⟨j, env', s', en', ov', bk', bv', sv', nv', vv', hjm, rfl, HI, HB⟩ := hrel
  obtain ⟨l, hl⟩ : ∃ l, l = env'.length := ⟨_, rfl⟩
  obtain ⟨na', nc', hnf⟩ := rowForm HI.out.en.names
  obtain ⟨ua', uc', huf⟩ := rowForm HI.out.en.vals
  rw [← hl] at hnf huf
  subst hnf; subst huf
  obtain ⟨_, _, _, _, _, _, c6⟩ := blkc7 HI.out.run.blk
  obtain ⟨d0, d1, d2, d3⟩ := blkc4 HI.out.en.blk
  have hc1 : l ≤ nc' := by have := HI.out.en.names; rw [← hl] at this; exact own_cap this
  have hc2 : l ≤ uc' := by have := HI.out.en.vals; rw [← hl] at this; exact own_cap this
  have hnl : n ≤ l := by rw [hl]; exact HI.out.lo
  have hl2 : l ≤ 20000 := by have := HI.out.cap; omega
  have HF2 := Lib.hid (HI.out.fin hl)
  have HFIN : Hid ((ss.length ≤ j ∨ ov' = true ∨ bk' = true) → BP R CB V B fv sv nv vv n s r (OkB n r) w (.returned (.tuple #[])) ((wr.setCell ⟨V, 0, none⟩ (.slice na' n nc')).setCell ⟨V, 1, none⟩ (.slice ua' n uc'))) := Lib.hid (fun hx => by
    obtain ⟨q1, q2, q3, q4, q5⟩ := HB.out.fin hx
    have hf := HF2.out
    refine ⟨sv', _, _, env'.cut n, bk', bv', rfl, by rw [q1, q2, q3]; exact hf.run, hf.en, hf.ap, hf.lo, ⟨cut_len HI.out.lo, fun e1 s1 e => ?_, q5, hf.b256⟩, hf.fq, by rw [q1]; exact hf.left⟩
    obtain ⟨rfl, h2, h3⟩ := q4 e1 s1 e
    exact ⟨rfl, h2, h3⟩)
  have f0 := HI.out.en.blk.frozen 0; have f1 := HI.out.en.blk.frozen 1
  have HL := Lib.hid hl
  clear hl d3 HF2
  by_cases hlt : j < m
  · cases ov'
    · cases bk'
      · obtain ⟨x, hx⟩ : ∃ x, ss[j]? = some x := ⟨_, List.getElem?_eq_getElem (by rw [← HM.out]; exact hlt)⟩
        have HT := Lib.hid (l5take_any wr R CB B fv sv' s' (by have := HI.out.run; rw [(HB.out.1 rfl rfl).1] at this; exact this))
        have HNX := Lib.hid (HB.out.next hx)
        obtain ⟨b', off', av, bw, ev, rfl, hbl', e0, e1, e2, e3, e4, hxa, hxb, hxe⟩ := HX.out.get hx
        have HXX := Lib.hid hx; have HXA := Lib.hid hxa; have HXB := Lib.hid hxb; have HXE := Lib.hid hxe
        have HE0 := Lib.hid e0; have HE1 := Lib.hid e1; have HE2 := Lib.hid e2; have HE3 := Lib.hid e3; have HE4 := Lib.hid e4
        have k0 : (0 : Int) ≤ j := by omega
        have k1 : (j : Int) < m := by omega
        have hbv : bv' = 0 := (HB.out.1 rfl rfl).2.1
        subst hbv
        by_cases hz : s'.left = 0
        · have HB2 := Lib.hid (HNX.out.1 hz)
          have HZ := Lib.hid hz
          clear hx hxa hxb hxe e0 e1 e2 e3 e4 hz
          go_wp2_with (fail)
          go_at_call 120
          refine HT.out.mono ?_
          rintro e w2 ⟨rfl, hR2, _, hF2⟩
          have HI2 := Lib.hid (HI.out.fr (hR2 HZ.out) hF2 (Nat.le_refl _))
          obtain ⟨_, _, _, _, _, _, c6'⟩ := blkc7 HI2.out.run.blk
          clear hR2 hF2
          go_wp2_with (fail)
          go_roundw
          case rel => exact ⟨j + 1, _, _, _, _, _, _, _, _, _, by omega, by go_num, HI2, HB2⟩
          case measure => simp [intOf]; omega
        · obtain ⟨gj, rs, hg, hes, hnx⟩ := HNX.out.2 hz
          have HZ := Lib.hid hz; have HG := Lib.hid hg; have HES := Lib.hid hes; have HNN := Lib.hid hnx
          clear hx hxa hxb hxe e0 e1 e2 e3 e4 hz hg hes hnx
          go_wp2_with (fail)
          go_at_call 120
          refine HT.out.mono ?_
          rintro e w2 ⟨rfl, _, hR2, hF2⟩
          have HI2 := Lib.hid (HI.out.fr (hR2 HZ.out) hF2 (by show s'.left - 1 ≤ s'.left; omega))
          have hb2 := HCX.out.belF HB0.out HR.out HE.out HV.out HI2.out.fq
          have e0 := cellB hb2 HE0.out; have e1 := cellB hb2 HE1.out; have e2 := cellB hb2 HE2.out; have e3 := cellB hb2 HE3.out; have e4 := cellB hb2 HE4.out
          have hcp : env'.length + 1 + s'.tick.left ≤ 20000 := by have := HI.out.cap; have h2 := HZ.out; show env'.length + 1 + (s'.left - 1) ≤ 20000; omega
          have HCP := Lib.hid hcp
          have HC := Lib.hid (HS.out gj HG.out d x av bw ev env' s'.tick rs w2 V sv' _ _ HES.out (HOK.out x (List.mem_of_getElem? HXX.out)) (HST.out x (List.mem_of_getElem? HXX.out)) (HX.out.lens.2 j x HXX.out) HXA.out HXB.out HXE.out hb2 HI2.out.run HI2.out.en HI2.out.ap HV.out hcp (by have := HI.out.run.bd; have h2 := HZ.out; show s'.said.length + (s'.left - 1) + 1 ≤ 8000; omega))
          obtain ⟨_, _, _, _, _, _, c6'⟩ := blkc7 HI2.out.run.blk
          clear hR2 hF2 hb2 hcp
          go_wp2_with (fail)
          go_at_call 121
          refine HC.out.mono ?_
          rintro e w3 ⟨sv3, nv3, vv3, env3, bk3, bv3, rfl, hR3, hE3, hA3, hlo3, ⟨hok3, hle3⟩, hF3, hL3⟩
          have HI3 := Lib.hid (HI2.out.st hR3 hE3 hA3 hlo3 hF3 hL3 (by have := HCP.out; omega) hok3.2.2.2)
          have HB3 := Lib.hid (HNN.out env3 bk3 bv3 hok3)
          clear hR3 hE3 hA3 hlo3 hok3 hle3 hF3 hL3
          go_wp2_with (fail)
          go_roundw
          case rel => exact ⟨j + 1, _, _, _, _, _, _, _, _, _, by omega, by go_num, HI3, HB3⟩
          case measure => simp [intOf]; omega
      · go_wp2_with (fail)
        go_end0
        exact HFIN.out (.inr (.inr (by first | rfl | trivial)))
    · go_wp2_with (fail)
      go_end0
      exact HFIN.out (.inr (.inl (by first | rfl | trivial)))
  · obtain rfl : m = j := by omega
    go_wp2_with (fail)
    go_end0
    exact HFIN.out (.inl (by rw [HM.out]; exact Nat.le_refl _))
end Go.Proofs.YtpnliencahnmoaaGreatDoor

set_option linter.unusedVariables false
set_option linter.unusedSimpArgs false
set_option maxRecDepth 100000
namespace Go.Proofs.YtpnliencahnmoaaGreatDoor
open Go.RowKit
def Cm.tot (s : Cm) : Nat := s.said.length + s.left
def Rl.cm : Rl → Cm
  | .vals _ s => s
  | .stop _ s => s
structure Tot (fs : List Fx) (g : Nat) : Prop where
  e : ∀ {x env s r}, evE fs g x env s = some r → r.cm.tot ≤ s.tot
  l : ∀ {x env s r}, evL fs g x env s = some r → r.cm.tot ≤ s.tot
  c : ∀ {k vs s r}, evC fs g k vs s = some r → r.cm.tot ≤ s.tot
  b : ∀ {x env s r}, evB fs g x env s = some r → r.cm.tot ≤ s.tot
  s : ∀ {x env s r}, evS fs g x env s = some r → r.cm.tot ≤ s.tot + 1
  w : ∀ {c b env s r}, evW fs g c b env s = some r → r.cm.tot ≤ s.tot
theorem tick_tot {s : Cm} (h : ¬ s.left = 0) : s.tick.tot + 1 = s.tot := by
  show s.said.length + (s.left - 1) + 1 = s.said.length + s.left
  omega
theorem tot (fs : List Fx) : ∀ g, Tot fs g := by
  intro g
  induction g with
  | zero =>
    refine ⟨?_, ?_, ?_, ?_, ?_, ?_⟩
    · intro x env s r h; simp [evE] at h
    · intro x env s r h; simp [evL] at h
    · intro x env s r h; simp [evC] at h
    · intro x env s r h; simp [evB] at h
    · intro x env s r h; simp [evS] at h
    · intro c b env s r h; simp [evW] at h
  | succ g ih =>
    refine ⟨?_, ?_, ?_, ?_, ?_, ?_⟩
    · intro x env s r h
      obtain ⟨op, n, name, kids⟩ := x
      unfold evE at h
      split at h
      · injection h with h; subst h; exact Nat.le_refl _
      split at h
      · split at h
        · cases h
        · injection h with h; subst h; exact Nat.le_refl _
      split at h
      · split at h
        · rename_i h1 _; exact Nat.le_trans (ih.c h) (ih.l h1)
        · rename_i h1 _; injection h with h; subst h; have h9 := ih.l h1; exact h9
        · cases h
      split at h
      · split at h
        · split at h
          · rename_i h1; injection h with h; subst h; have h9 := ih.e h1; exact h9
          · exact ih.e h
        split at h
        · split at h
          · rename_i h1
            split at h
            · injection h with h; subst h; have h9 := ih.e h1; exact h9
            · injection h with h; subst h; have h9 := ih.e h1; exact h9
          · exact ih.e h
        · cases h
      · split at h
        · split at h
          · rename_i h1
            split at h
            · injection h with h; subst h; have h9 := ih.e h1; exact h9
            · split at h
              · rename_i h2; injection h with h; subst h; have h9 := Nat.le_trans (ih.e h2) (ih.e h1); exact h9
              · exact Nat.le_trans (ih.e h) (ih.e h1)
          · exact ih.e h
        split at h
        · split at h
          · rename_i h1
            split at h
            · rename_i h2
              split at h
              · injection h with h; subst h; have h9 := Nat.le_trans (ih.e h2) (ih.e h1); exact h9
              · injection h with h; subst h; have h9 := Nat.le_trans (ih.e h2) (ih.e h1); exact h9
            · exact Nat.le_trans (ih.e h) (ih.e h1)
          · exact ih.e h
        · cases h
      · cases h
    · intro x env s r h
      match x, h with
      | [], h => rw [evL] at h; injection h with h; subst h; exact Nat.le_refl _
      | e :: r', h =>
        rw [evL] at h
        split at h
        · rename_i h1
          split at h
          · rename_i h2; injection h with h; subst h; have h9 := Nat.le_trans (ih.l h2) (ih.e h1); exact h9
          · exact Nat.le_trans (ih.l h) (ih.e h1)
        · rename_i h1; injection h with h; subst h; have h9 := ih.e h1; exact h9
        · cases h
    · intro k vs s r h
      unfold evC at h
      split at h
      · cases h
      split at h
      · cases h
      split at h
      · rename_i h1; injection h with h; subst h; have h9 := ih.b h1; exact h9
      · rename_i h1; injection h with h; subst h; have h9 := ih.b h1; exact h9
      · rename_i h1; injection h with h; subst h; have h9 := ih.b h1; exact h9
      · cases h
    · intro x env s r h
      match x, h with
      | [], h => rw [evB] at h; injection h with h; subst h; exact Nat.le_refl _
      | y :: r', h =>
        rw [evB] at h
        split at h
        · injection h with h; subst h; exact Nat.le_refl _
        · rename_i h0
          have ht := tick_tot h0
          split at h
          · rename_i h1; have := ih.b h; have h2 := ih.s h1; simp only [Rb.cm] at h2; omega
          · have := ih.s h; omega
    · intro x env s r h
      obtain ⟨op, name, args, body, els⟩ := x
      unfold evS at h
      split at h
      · split at h
        · have := ih.w h; omega
        · cases h
      split at h
      · cases h
      split at h
      · cases h
      · rename_i h1; injection h with h; subst h; have := ih.e h1; simp only [Rs.cm] at this; simp only [Rb.cm]; omega
      rename_i h1
      have h1 := ih.e h1
      simp only [Rs.cm] at h1
      split at h
      · injection h with h; subst h; simp only [Rb.cm]; omega
      split at h
      · split at h
        · cases h
        · injection h with h; subst h; simp only [Rb.cm]; omega
      split at h
      · injection h with h; subst h
        simp only [Rb.cm]
        unfold Cm.tot at h1 ⊢
        simp
        omega
      split at h
      · split at h
        · split at h
          · rename_i h2
            have h2 := ih.e h2
            simp only [Rs.cm] at h2
            split at h
            · injection h with h; subst h; simp only [Rb.cm]; omega
            · injection h with h; subst h; simp only [Rb.cm]; unfold Cm.tot at h1 h2 ⊢; simp only; omega
          · rename_i h2
            have h2 := ih.e h2
            simp only [Rs.cm] at h2
            injection h with h; subst h; simp only [Rb.cm]; omega
          · cases h
        · cases h
      split at h
      · split at h
        · rename_i h2; have h2 := ih.b h2; simp only [Rb.cm] at h2; injection h with h; subst h; simp only [Rb.cm]; omega
        · have := ih.b h; omega
      split at h
      · injection h with h; subst h; simp only [Rb.cm]; omega
      split at h
      · injection h with h; subst h; simp only [Rb.cm]; omega
      · cases h
    · intro c b env s r h
      unfold evW at h
      split at h
      · cases h
      · rename_i h1; injection h with h; subst h; have h9 := ih.e h1; exact h9
      rename_i h1
      have h1 := ih.e h1
      simp only [Rs.cm] at h1
      split at h
      · injection h with h; subst h; exact h1
      split at h
      · rename_i h2
        have h2 := ih.b h2
        simp only [Rb.cm] at h2
        split at h
        · injection h with h; subst h; simp only [Rb.cm]; omega
        · rename_i h0
          have ht := tick_tot h0
          have := ih.w h
          omega
      · have := ih.b h; omega
/-- a loop, its first value being known -/
def evV (fs : List Fx) (g : Nat) (c : Ex) (body : List St) (env : Env) (v : Nat) (s : Cm) : Option Rb :=
  if v = 0 then some (.go env s) else
  match evB fs g body env s with
  | some (.go e1 s2) => if s2.left = 0 then some (.stop 3 s2) else evW fs g c body (e1.cut env.length) s2.tick
  | y => y
theorem evW_parts {fs : List Fx} {g : Nat} {c : Ex} {body : List St} {env : Env} {s : Cm} {r : Rb} (h : evW fs g c body env s = some r) : ∃ g' r1, g = g' + 1 ∧ evE fs g' c env s = some r1 ∧ (∀ e s1, r1 = .stop e s1 → r = .stop e s1) ∧ (∀ v s1, r1 = .ret v s1 → evV fs g' c body env v s1 = some r) := by
  cases g with
  | zero => simp [evW] at h
  | succ g =>
    rw [evW] at h
    cases hE : evE fs g c env s with
    | none => rw [hE] at h; cases h
    | some r1 =>
      rw [hE] at h
      refine ⟨g, r1, rfl, hE, fun e s1 e1 => ?_, fun v s1 e1 => ?_⟩
      · subst e1; injection h with h; exact h.symm
      · subst e1; exact h
end Go.Proofs.YtpnliencahnmoaaGreatDoor

set_option linter.unusedVariables false
set_option linter.unusedSimpArgs false
set_option maxRecDepth 100000
namespace Go.Proofs.YtpnliencahnmoaaGreatDoor
open Go.RowKit
/-- a store into an owned row of one-cell elements -/
theorem own_set {w : World} {B : Nat} {e : TypeId} {g n c : Nat} {xs : List Value} (h : w.ownsRow B e 1 (.slice (some ⟨g, 0, none⟩) n c) n xs) (j : Nat) (u : Value) : (w.setCell ⟨g, j, none⟩ u).ownsRow B e 1 (.slice (some ⟨g, 0, none⟩) n c) n (xs.set j u) := by
  obtain ⟨h1, h2⟩ := h
  refine ⟨by simpa using h1, ?_⟩
  rcases h2 with ⟨h2, _⟩ | ⟨g', cap, cur, h2, hb, hg, hn, hm, hs, hx⟩
  · simp at h2
  · injection h2 with h2 _ h4
    injection h2 with h2
    injection h2 with h2
    subst h2
    subst h4
    exact .inr ⟨g, c, cur.setIfInBounds j u, rfl, hb, heap_setCell_same w g j cur e u hg, hn, hm, by simpa using hs, by rw [← hx]; simp [List.take_set]⟩
/-- a statement on its way -/
structure TI (w : World) (R CB V B : Nat) (fv sv nv vv : Value) (s : Cm) (env : Env) (box : List Value) (sv1 : Value) (s1 : Cm) (en1 : Nat) (ov1 : Bool) (w2 : World) : Prop where
  box : Blk w2 w.heap.size box
  run : Rn w2 R CB B fv sv1 s1 en1 ov1
  fr : Fr [R, CB] sv w sv1 w2
  en : En w2 V B nv vv env false 0
  ap : Ap R CB V sv1 nv vv
  sq : w.heap.size ≠ R ∧ w.heap.size ≠ CB ∧ sv1.ownBlock ≠ some w.heap.size
  left : s1.left ≤ s.left
  olt : V < w.heap.size ∧ (∀ q, nv.ownBlock = some q → q < w.heap.size) ∧ ∀ q, vv.ownBlock = some q → q < w.heap.size
theorem TI.start {w : World} {R CB V B : Nat} {fv sv nv vv : Value} {s : Cm} {env : Env} (h : Rn w R CB B fv sv s 0 false) (hE : En w V B nv vv env false 0) (hA : Ap R CB V sv nv vv) (cs : Array Value) (t : TypeId) : TI w R CB V B fv sv nv vv s env cs.toList sv s 0 false (w.alloc (.cells cs t)) := by
  have hb := below1 w (.cells cs t)
  refine ⟨Blk.new _ _ _, h.below hb, Fr.below hb, hE.below hb, hA, ⟨?_, ?_, ?_⟩, Nat.le_refl _, hE.blk.lt, fun q hq => (World.ownsRow.lt hE.names q hq).2, fun q hq => (World.ownsRow.lt hE.vals q hq).2⟩
  · have := h.blk.lt; omega
  · have := h.cells.lt; omega
  · intro e; have := (World.ownsRow.lt h.said _ e).2; omega
theorem TI.step {w : World} {R CB V B : Nat} {fv sv nv vv : Value} {s : Cm} {env : Env} {box : List Value} {sv1 : Value} {s1 : Cm} {en1 : Nat} {ov1 : Bool} {w2 : World} (h : TI w R CB V B fv sv nv vv s env box sv1 s1 en1 ov1 w2) {sv2 : Value} {s2 : Cm} {en2 : Nat} {ov2 : Bool} {wx : World} (hR : Rn wx R CB B fv sv2 s2 en2 ov2) (hF : Fr [R, CB] sv1 w2 sv2 wx) (hl : s2.left ≤ s1.left) :
    TI w R CB V B fv sv nv vv s env box sv2 s2 en2 ov2 wx :=
  ⟨hF.blk h.box (by simp; exact ⟨h.sq.1, h.sq.2.1⟩) h.sq.2.2, hR, h.fr.trans hF, h.en.fr h.ap hF, h.ap.fr h.en hF, ⟨h.sq.1, h.sq.2.1, hF.ne h.box.lt h.sq.2.2⟩, Nat.le_trans hl h.left, h.olt⟩
/-- how a statement answers -/
def OkT (n : Nat) (r : Rb) (env' : Env) (back' : Bool) (bv' : Nat) : Prop := OkS n r env' back' bv' ∧ env'.length ≤ n + 1
theorem TI.ans {w : World} {R CB V B : Nat} {fv sv nv vv : Value} {s : Cm} {env : Env} {box : List Value} {sv1 : Value} {s1 : Cm} {en1 : Nat} {ov1 : Bool} {w2 : World} (h : TI w R CB V B fv sv nv vv s env box sv1 s1 en1 ov1 w2) {r : Rb} (hc : r.cm = s1) (he : r.en = en1) (ho : r.over = ov1) (hg : ∀ e1 s1, r = .go e1 s1 → e1 = env) (hb : ∀ v s1, r ≠ .back v s1) :
    BP R CB V B fv sv nv vv env.length s r (OkT env.length r) w (.returned (.tuple #[])) w2 :=
  ⟨sv1, nv, vv, env, false, 0, rfl, by rw [hc, he, ho]; exact h.run, h.en, h.ap, Nat.le_refl _, ⟨⟨Nat.le_refl _, fun e1 s1 e => ⟨(hg e1 s1 e).symm, rfl, rfl⟩, fun v s1 e => absurd e (hb v s1), by omega⟩, by omega⟩, Fq.of_fr h.fr, by rw [hc]; exact h.left⟩
def cutR (n : Nat) : Rb → Rb
  | .go e s => .go (e.cut n) s
  | y => y
theorem TI.ofB {w : World} {R CB V B : Nat} {fv sv nv vv : Value} {s : Cm} {env : Env} {box : List Value} {sv1 : Value} {s1 : Cm} {en1 : Nat} {ov1 : Bool} {w2 : World} (h : TI w R CB V B fv sv nv vv s env box sv1 s1 en1 ov1 w2) {rb : Rb} {e : Ending} {w3 : World} (hB : BP R CB V B fv sv1 nv vv env.length s1 rb (OkB env.length rb) w2 e w3) :
    BP R CB V B fv sv nv vv env.length s (cutR env.length rb) (OkT env.length (cutR env.length rb)) w e w3 := by
  obtain ⟨sv', nv', vv', env', bk', bv', rfl, hR, hE, hA, hlo, ⟨hl, h1, h2, h3⟩, hF, hL⟩ := hB
  refine ⟨sv', nv', vv', env', bk', bv', rfl, by cases rb <;> exact hR, hE, hA, hlo, ⟨⟨hlo, fun e1 q e => ?_, fun v q e => ?_, h3⟩, by omega⟩, (Fq.of_fr h.fr).trans hF, by have := h.left; cases rb <;> exact Nat.le_trans hL this⟩
  · cases rb with
    | go e2 s2 => injection e with e _; obtain ⟨q1, q2, q3⟩ := h1 e2 s2 rfl; exact ⟨by rw [q1, e], q2, q3⟩
    | back v s2 => cases e
    | stop v s2 => cases e
  · cases rb with
    | go e2 s2 => cases e
    | back v s2 => injection e with e _; obtain ⟨q1, q2⟩ := h2 v s2 rfl; exact ⟨q1, by rw [q2, e]⟩
    | stop v s2 => cases e
theorem TI.ofT {w : World} {R CB V B : Nat} {fv sv nv vv : Value} {s : Cm} {env : Env} {box : List Value} {sv1 : Value} {s1 : Cm} {en1 : Nat} {ov1 : Bool} {w2 : World} (h : TI w R CB V B fv sv nv vv s env box sv1 s1 en1 ov1 w2) {r : Rb} {e : Ending} {w3 : World} (hB : BP R CB V B fv sv1 nv vv env.length s1 r (OkT env.length r) w2 e w3) :
    BP R CB V B fv sv nv vv env.length s r (OkT env.length r) w e w3 := by
  obtain ⟨sv', nv', vv', env', bk', bv', rfl, hR, hE, hA, hlo, hok, hF, hL⟩ := hB
  exact ⟨sv', nv', vv', env', bk', bv', rfl, hR, hE, hA, hlo, hok, (Fq.of_fr h.fr).trans hF, Nat.le_trans hL h.left⟩
/-- a variable on its way: the name stands -/
structure LI (w : World) (R CB V B : Nat) (fv sv nv vv : Value) (env : Env) (sv1 : Value) (s1 : Cm) (name : ByteArray) (nv1 : Value) (w5 : World) : Prop where
  vb : Blk w5 V [nv1, vv, .bool false, .int .i64 0]
  names : w5.ownsRow B 9 1 nv1 (env.length + 1) ((envN env ++ [name]).map Value.string)
  vals : w5.ownsRow B 3 1 vv env.length (nats (envV env))
  run : Rn w5 R CB B fv sv1 s1 0 false
  ap : Ap R CB V sv1 nv1 vv
  fq : Fq (foot R CB V sv nv vv) w (foot R CB V sv1 nv1 vv) w5
  ok : EnvOk env
theorem Fq.app {S : List Nat} {w w2 w3 : World} {S2 S3 : List Nat} (h : Fq S w S2 w2) (hO : Only S2 w2 w3) (hr : ∀ k ∈ S3, k ∈ S2 ∨ w2.heap.size ≤ k) : Fq S w S3 w3 := h.trans ⟨hO, hr⟩
theorem TI.let1 {w : World} {R CB V B : Nat} {fv sv nv vv : Value} {s : Cm} {env : Env} {box : List Value} {sv1 : Value} {s1 : Cm} {w2 : World} (h : TI w R CB V B fv sv nv vv s env box sv1 s1 0 false w2) {name : ByteArray} {o : Obj} {g c : Nat} {w9 : World} (hg : (w2.alloc o).grownBy w9 nv.ownBlock) (ha : nv.ownBlock = some g ∨ g = (w2.alloc o).heap.size)
    (ho : w9.ownsRow B 9 1 (.slice (some ⟨g, 0, none⟩) (env.length + 1) c) (env.length + 1) ((envN env).map Value.string ++ [.string name])) :
    LI w R CB V B fv sv nv vv env sv1 s1 name (.slice (some ⟨g, 0, none⟩) (env.length + 1) c) (w9.setCell ⟨V, 0, none⟩ (.slice (some ⟨g, 0, none⟩) (env.length + 1) c)) := by
  have hn0 : ∀ q, q < w2.heap.size → nv.ownBlock ≠ some q → w9.heap[q]? = w2.heap[q]? := fun q hq hv => by rw [hg.block q (by simp; omega) (fun e => hv e.symm), Below.heap_alloc _ _ _ hq]
  have hk : ∀ q, q < w2.heap.size → nv.ownBlock ≠ some q → q ≠ V → (w9.setCell ⟨V, 0, none⟩ (.slice (some ⟨g, 0, none⟩) (env.length + 1) c)).heap[q]? = w2.heap[q]? := fun q h1 h2 h3 => by rw [Below.heap_setCell _ _ _ _ (by simp; exact h3), hn0 q h1 h2]
  have hsz : w2.heap.size ≤ w9.heap.size := by have := hg.size; simp at this; omega
  have hgl : nv.ownBlock = some g ∨ w2.heap.size ≤ g := ha.elim .inl (fun e => .inr (by simp at e; omega))
  have hgw : ∀ q, q < w2.heap.size → nv.ownBlock ≠ some q → g ≠ q := fun q h1 h2 e => by subst e; exact hgl.elim h2 (fun e => by omega)
  have hvl := h.en.blk.lt
  have hnV : nv.ownBlock ≠ some V := fun e => (h.ap.n V e).2.2.1 rfl
  have hnR : nv.ownBlock ≠ some R := fun e => (h.ap.n R e).1 rfl
  have hnC : nv.ownBlock ≠ some CB := fun e => (h.ap.n CB e).2.1 rfl
  have hnS : ∀ q, sv1.ownBlock = some q → nv.ownBlock ≠ some q := fun q hs hv => (h.ap.n q hv).2.2.2.1 hs
  have hnU : ∀ q, vv.ownBlock = some q → nv.ownBlock ≠ some q := fun q hs hv => (h.ap.n q hv).2.2.2.2 hs
  have hO : Only (foot R CB V sv1 nv vv) w2 (w9.setCell ⟨V, 0, none⟩ (.slice (some ⟨g, 0, none⟩) (env.length + 1) c)) := by
    refine ⟨hg.os, hg.tape, hg.output, by simpa using hsz, fun i hi hn => ?_⟩
    rw [mem_foot] at hn
    exact hk i hi (fun e => hn (.inr (.inr (.inr (.inr (.inl e)))))) (fun e => hn (.inr (.inr (.inl e))))
  refine ⟨(h.en.blk.same (hn0 _ hvl hnV)).set 0 _, ?_, ?_, h.run.keep (fun q hq => ?_), ⟨h.ap.v, fun q hq => ?_, h.ap.u⟩, (Fq.of_fr h.fr).app hO (fun k hk => ?_), h.en.ok⟩
  · rw [List.map_append]
    exact ownsRow_same ho (fun q hq => Below.heap_setCell _ _ _ _ (by simp [Value.ownBlock] at hq; subst hq; exact hgw V hvl hnV))
  · exact ownsRow_same h.en.vals (fun q hq => hk q (World.ownsRow.lt h.en.vals q hq).2 (hnU q hq) (h.ap.u q hq).2.2.1)
  · rcases hq with rfl | rfl | hq
    · exact hk _ h.run.blk.lt hnR (fun e => h.ap.v.1 e.symm)
    · exact hk _ h.run.cells.lt hnC (fun e => h.ap.v.2.1 e.symm)
    · exact hk q (World.ownsRow.lt h.run.said q hq).2 (hnS q hq) (fun e => h.ap.v.2.2 (by rw [← e]; exact hq))
  · simp [Value.ownBlock] at hq
    subst hq
    exact ⟨hgw R h.run.blk.lt hnR, hgw CB h.run.cells.lt hnC, hgw V hvl hnV, fun e => hgw g (World.ownsRow.lt h.run.said g e).2 (hnS g e) rfl, fun e => hgw g (World.ownsRow.lt h.en.vals g e).2 (hnU g e) rfl⟩
  · rw [mem_foot] at hk ⊢
    rcases hk with e | e | e | e | e | e
    · exact .inl (.inl e)
    · exact .inl (.inr (.inl e))
    · exact .inl (.inr (.inr (.inl e)))
    · exact .inl (.inr (.inr (.inr (.inl e))))
    · simp [Value.ownBlock] at e
      subst e
      rcases hgl with e | e
      · exact .inl (.inr (.inr (.inr (.inr (.inl e)))))
      · exact .inr e
    · exact .inl (.inr (.inr (.inr (.inr (.inr e)))))
theorem LI.let2 {w : World} {R CB V B : Nat} {fv sv nv vv : Value} {env : Env} {sv1 : Value} {s1 : Cm} {name : ByteArray} {nv1 : Value} {w5 : World} (h : LI w R CB V B fv sv nv vv env sv1 s1 name nv1 w5) {v : Nat} (hv : v < 256) {s : Cm} (hl : s1.left ≤ s.left) {o : Obj} {g c : Nat} {w9 : World} (hg : (w5.alloc o).grownBy w9 vv.ownBlock) (ha : vv.ownBlock = some g ∨ g = (w5.alloc o).heap.size)
    (ho : w9.ownsRow B 3 1 (.slice (some ⟨g, 0, none⟩) (env.length + 1) c) (env.length + 1) (nats (envV env) ++ [.int .i64 (v : Int)])) :
    BP R CB V B fv sv nv vv env.length s (.go ((name, v) :: env) s1) (OkT env.length (.go ((name, v) :: env) s1)) w (.returned (.tuple #[])) (w9.setCell ⟨V, 1, none⟩ (.slice (some ⟨g, 0, none⟩) (env.length + 1) c)) := by
  have hn0 : ∀ q, q < w5.heap.size → vv.ownBlock ≠ some q → w9.heap[q]? = w5.heap[q]? := fun q hq hv => by rw [hg.block q (by simp; omega) (fun e => hv e.symm), Below.heap_alloc _ _ _ hq]
  have hk : ∀ q, q < w5.heap.size → vv.ownBlock ≠ some q → q ≠ V → (w9.setCell ⟨V, 1, none⟩ (.slice (some ⟨g, 0, none⟩) (env.length + 1) c)).heap[q]? = w5.heap[q]? := fun q h1 h2 h3 => by rw [Below.heap_setCell _ _ _ _ (by simp; exact h3), hn0 q h1 h2]
  have hsz : w5.heap.size ≤ w9.heap.size := by have := hg.size; simp at this; omega
  have hgl : vv.ownBlock = some g ∨ w5.heap.size ≤ g := ha.elim .inl (fun e => .inr (by simp at e; omega))
  have hgw : ∀ q, q < w5.heap.size → vv.ownBlock ≠ some q → g ≠ q := fun q h1 h2 e => by subst e; exact hgl.elim h2 (fun e => by omega)
  have hvl := h.vb.lt
  have hnV : vv.ownBlock ≠ some V := fun e => (h.ap.u V e).2.2.1 rfl
  have hnR : vv.ownBlock ≠ some R := fun e => (h.ap.u R e).1 rfl
  have hnC : vv.ownBlock ≠ some CB := fun e => (h.ap.u CB e).2.1 rfl
  have hnS : ∀ q, sv1.ownBlock = some q → vv.ownBlock ≠ some q := fun q hs hv => (h.ap.u q hv).2.2.2 hs
  have hnN : ∀ q, nv1.ownBlock = some q → vv.ownBlock ≠ some q := fun q hq => (h.ap.n q hq).2.2.2.2
  have hO : Only (foot R CB V sv1 nv1 vv) w5 (w9.setCell ⟨V, 1, none⟩ (.slice (some ⟨g, 0, none⟩) (env.length + 1) c)) := by
    refine ⟨hg.os, hg.tape, hg.output, by simpa using hsz, fun i hi hn => ?_⟩
    rw [mem_foot] at hn
    exact hk i hi (fun e => hn (.inr (.inr (.inr (.inr (.inr e)))))) (fun e => hn (.inr (.inr (.inl e))))
  have hen : envN ((name, v) :: env) = envN env ++ [name] := envN_cons _ _ _
  have hev : envV ((name, v) :: env) = envV env ++ [v] := envV_cons _ _ _
  refine ⟨sv1, nv1, .slice (some ⟨g, 0, none⟩) (env.length + 1) c, (name, v) :: env, false, 0, rfl, h.run.keep (fun q hq => ?_), ⟨(h.vb.same (hn0 _ hvl hnV)).set 1 _, ?_, ?_, ?_⟩, ⟨h.ap.v, fun q hq => ?_, fun q hq => ?_⟩, by simp, ⟨⟨by simp, fun e1 q e => by injection e with e _; exact ⟨e, rfl, rfl⟩, (fun v q e => by cases e), by omega⟩, by simp⟩, h.fq.app hO (fun k hk => ?_), hl⟩
  · rcases hq with rfl | rfl | hq
    · exact hk _ h.run.blk.lt hnR (fun e => h.ap.v.1 e.symm)
    · exact hk _ h.run.cells.lt hnC (fun e => h.ap.v.2.1 e.symm)
    · exact hk q (World.ownsRow.lt h.run.said q hq).2 (hnS q hq) (fun e => h.ap.v.2.2 (by rw [← e]; exact hq))
  · rw [hen]
    exact ownsRow_same h.names (fun q hq => hk q (World.ownsRow.lt h.names q hq).2 (hnN q hq) (h.ap.n q hq).2.2.1)
  · rw [hev, show nats (envV env ++ [v]) = nats (envV env) ++ [.int .i64 (v : Int)] by simp [nats]]
    exact ownsRow_same ho (fun q hq => Below.heap_setCell _ _ _ _ (by simp [Value.ownBlock] at hq; subst hq; exact hgw V hvl hnV))
  · intro p hp
    rcases List.mem_cons.1 hp with rfl | hp
    · exact hv
    · exact h.ok p hp
  · refine ⟨(h.ap.n q hq).1, (h.ap.n q hq).2.1, (h.ap.n q hq).2.2.1, (h.ap.n q hq).2.2.2.1, fun e => ?_⟩
    simp [Value.ownBlock] at e
    exact hgw q (World.ownsRow.lt h.names q hq).2 (hnN q hq) e
  · simp [Value.ownBlock] at hq
    subst hq
    exact ⟨hgw R h.run.blk.lt hnR, hgw CB h.run.cells.lt hnC, hgw V hvl hnV, fun e => hgw g (World.ownsRow.lt h.run.said g e).2 (hnS g e) rfl⟩
  · rw [mem_foot] at hk ⊢
    rcases hk with e | e | e | e | e | e
    · exact .inl (.inl e)
    · exact .inl (.inr (.inl e))
    · exact .inl (.inr (.inr (.inl e)))
    · exact .inl (.inr (.inr (.inr (.inl e))))
    · exact .inl (.inr (.inr (.inr (.inr (.inl e)))))
    · simp [Value.ownBlock] at e
      subst e
      rcases hgl with e | e
      · exact .inl (.inr (.inr (.inr (.inr (.inr e)))))
      · exact .inr e
/-- what is left of a statement behind its first value -/
def evS1 (fs : List Fx) (g : Nat) (op : Int) (name : ByteArray) (rest : List Ex) (body els : List St) (env : Env) (v : Nat) (s1 : Cm) : Option Rb :=
  if op = 1 then some (.go ((name, v) :: env) s1)
  else if op = 2 then (match env.get name with | none => none | some _ => some (.go (env.set name v) s1))
  else if op = 3 then some (.go env { s1 with said := s1.said ++ [v] })
  else if op = 4 then
    match rest with
    | [b] =>
      (match evE fs g b env s1 with
      | some (.ret u s2) => if 16 ≤ v then some (.stop 2 s2) else some (.go env { s2 with cells := s2.cells.set v u })
      | some (.stop e s2) => some (.stop e s2)
      | none => none)
    | _ => none
  else if op = 5 then
    match evB fs g (if v = 0 then els else body) env s1 with
    | some (.go e1 s2) => some (.go (e1.cut env.length) s2)
    | y => y
  else if op = 7 then some (.back v s1)
  else if op = 8 then some (.go env s1)
  else none
theorem evS_parts {fs : List Fx} {g : Nat} {op : Int} {name : ByteArray} {args : List Ex} {body els : List St} {env : Env} {s : Cm} {r : Rb} (h : evS fs g (.mk op name args body els) env s = some r) :
    ∃ g' a rest r1, g' < g ∧ args = a :: rest ∧ evE fs g' a env s = some r1 ∧ (∀ e s1, r1 = .stop e s1 → r = .stop e s1) ∧ ∀ v s1, r1 = .ret v s1 → (op = 6 → rest = [] ∧ evV fs g' a body env v s1 = some r) ∧ (op ≠ 6 → evS1 fs g' op name rest body els env v s1 = some r) := by
  cases g with
  | zero => simp [evS] at h
  | succ g =>
    unfold evS at h
    by_cases o : op = 6
    · rw [if_pos o] at h
      match args, h with
      | [], h => cases h
      | _ :: _ :: _, h => cases h
      | [c], h =>
        obtain ⟨g', r1, hg, he, h1, h2⟩ := evW_parts h
        exact ⟨g', c, [], r1, by omega, rfl, he, h1, fun v s1 e => ⟨fun _ => ⟨rfl, h2 v s1 e⟩, fun hn => absurd o hn⟩⟩
    · rw [if_neg o] at h
      match args, h with
      | [], h => cases h
      | a :: rest, h =>
        simp only at h
        cases hE : evE fs g a env s with
        | none => rw [hE] at h; cases h
        | some r1 =>
          rw [hE] at h
          refine ⟨g, a, rest, r1, by omega, rfl, hE, fun e s1 e1 => ?_, fun v s1 e1 => ⟨fun h6 => absurd h6 o, fun _ => ?_⟩⟩
          · subst e1; injection h with h; exact h.symm
          · subst e1; exact h
end Go.Proofs.YtpnliencahnmoaaGreatDoor
