/- The program's run: calls, blocks. The program's run: a function's call. The program's run: what stands between two steps of a statement. -/
import Derived.Test.YtpnliencahnmoaaGreatDoorQ20
set_option linter.unusedVariables false
set_option linter.unusedSimpArgs false
set_option linter.unusedVariables false
set_option linter.unusedSimpArgs false
set_option maxRecDepth 100000
namespace Go.Proofs.YtpnliencahnmoaaGreatDoor
open Go.RowKit
/-- how statements answer -/
def BQ (M B : Nat) (fv sv : Value) (v : Value) (segs : List Env) (ks : List Nat) (rb : Rb) (w : World) (e : Ending) (w' : World) : Prop :=
  ∃ sv', Fr (M :: ks) sv w sv' w' ∧ Mn w' M B fv sv' rb.cm ∧ match rb with
    | .go e1 s1 => e = .returned (.pointer none) ∧ (∀ q, sv'.ownBlock = some q → q ∉ ks) ∧ ∃ segs', EnC w' (1000 - s1.left) v segs' ks ∧ segs'.flatten = e1 ∧ segs'.tail.map List.length = segs.tail.map List.length ∧ segs'.length = segs.length
    | .back u _ => (∃ q, e = .returned (.pointer (some ⟨q, 0, none⟩)) ∧ w'.cell? ⟨q, 0, none⟩ = some (.int .i64 (u : Int))) ∧ u < 256
    | .stop en _ => e = .panicked (endChain en)
def GB (w0 : World) (fs : List Fx) (fv : Value) (M B g : Nat) : Prop :=
  ∀ (d : Nat) (ss : List St) (lv : Value) (s : Cm) (r : Rb) (w : World) (sv v : Value) (segs : List Env) (ks : List Nat), evB fs g ss segs.flatten s = some r → ss.all (stOk isNB d) = true → ss.all (stA fs d) = true → StsAt w0 lv ss → Ist w0 w M B fv sv s (1000 - s.left) v segs ks → (∀ k ∈ ks, w0.heap.size ≤ k) →
    Calls Tryz.prog 117 #[.pointer (some ⟨M, 0, none⟩), lv, v] w (BQ M B fv sv v segs ks r w)
def GS (w0 : World) (fs : List Fx) (fv : Value) (M B g : Nat) : Prop :=
  ∀ (d : Nat) (x : St) (av bv ev : Value) (s : Cm) (r : Rb) (w : World) (sv v : Value) (segs : List Env) (ks : List Nat), evS fs g x segs.flatten s = some r → stOk isNB d x = true → stA fs d x = true → x.name.size ≤ big → ExsAt w0 av x.args → StsAt w0 bv x.body → StsAt w0 ev x.els → Ist w0 w M B fv sv s (999 - s.left) v segs ks → (∀ k ∈ ks, w0.heap.size ≤ k) → s.said.length + s.left ≤ 399 →
    Calls Tryz.prog 147 #[.pointer (some ⟨M, 0, none⟩), .agg #[.int .i64 x.op, .string x.name, av, bv, ev], v] w (BQ M B fv sv v segs ks r w)
theorem evB_step {fs : List Fx} {g : Nat} {x : St} {l : List St} {env : Env} {s : Cm} {r : Rb} (h : evB fs g (x :: l) env s = some r) : ∃ g', g = g' + 1 ∧ ((s.left = 0 ∧ r = .stop 3 s) ∨ (s.left ≠ 0 ∧ ∃ r1, evS fs g' x env s.tick = some r1 ∧ ((∃ e1 s1, r1 = .go e1 s1 ∧ evB fs g' l e1 s1 = some r) ∨ ((∀ e1 s1, r1 ≠ .go e1 s1) ∧ r = r1)))) := by
  cases g with
  | zero => simp [evB] at h
  | succ g =>
    refine ⟨g, rfl, ?_⟩
    rw [evB] at h
    by_cases hl : s.left = 0
    · rw [if_pos hl] at h; injection h with h; exact .inl ⟨hl, h.symm⟩
    · rw [if_neg hl] at h
      refine .inr ⟨hl, ?_⟩
      cases he : evS fs g x env s.tick with
      | none => rw [he] at h; cases h
      | some r1 =>
        rw [he] at h
        refine ⟨r1, rfl, ?_⟩
        cases r1 with
        | go e1 s1 => exact .inl ⟨e1, s1, rfl, h⟩
        | back u s1 => injection h with h; exact .inr ⟨(fun e1 s1 e => by cases e), h.symm⟩
        | stop en s1 => injection h with h; exact .inr ⟨(fun e1 s1 e => by cases e), h.symm⟩
theorem evB_nil {fs : List Fx} {g : Nat} {env : Env} {s : Cm} {r : Rb} (h : evB fs g [] env s = some r) : r = .go env s := by
  cases g with
  | zero => simp [evB] at h
  | succ g => rw [evB] at h; injection h with h; exact h.symm
/-- where statements stand -/
structure Bi (w0 w : World) (M B : Nat) (fv sv v : Value) (segs : List Env) (ks : List Nat) (a : Nat) (sv1 : Value) (s1 : Cm) (segs1 : List Env) (w1 : World) : Prop where
  fr : Fr (M :: ks) sv w sv1 w1
  st : Ist w0 w1 M B fv sv1 s1 a v segs1 ks
  tl : segs1.tail.map List.length = segs.tail.map List.length ∧ segs1.length = segs.length
theorem Bi.below {w0 w : World} {M B : Nat} {fv sv v : Value} {segs : List Env} {ks : List Nat} {a : Nat} {sv1 : Value} {s1 : Cm} {segs1 : List Env} {w1 w2 : World} (h : Bi w0 w M B fv sv v segs ks a sv1 s1 segs1 w1) (hb : Below w1.heap.size w1 w2) : Bi w0 w M B fv sv v segs ks a sv1 s1 segs1 w2 :=
  ⟨⟨h.fr.only.trans (Only.of_below hb _), h.fr.row⟩, h.st.below hb, h.tl⟩
theorem Fr.more {fx : List Nat} {M : Nat} {sv sv' : Value} {w w' : World} (h : Fr [M] sv w sv' w') : Fr (M :: fx) sv w sv' w' := ⟨h.only.mono (fun x hx => by simp at hx ⊢; rcases hx with h | h <;> simp [h]), h.row⟩
theorem Bi.step {w0 w : World} {fs : List Fx} {M B : Nat} {fv sv v : Value} {segs : List Env} {ks : List Nat} {a : Nat} {sv1 sv2 : Value} {s1 s2 : Cm} {segs1 : List Env} {w1 w2 : World} (hI : Ix w0 fs fv M B) (h : Bi w0 w M B fv sv v segs ks a sv1 s1 segs1 w1) (hF : Fr [M] sv1 w1 sv2 w2) (hm : Mn w2 M B fv sv2 s2) : Bi w0 w M B fv sv v segs ks a sv2 s2 segs1 w2 :=
  ⟨h.fr.trans hF.more, h.st.fr hI hF hm, h.tl⟩
theorem Bi.ans {w0 w : World} {M B : Nat} {fv sv v : Value} {segs : List Env} {ks : List Nat} {s1 : Cm} {sv1 : Value} {segs1 : List Env} {w1 : World} (h : Bi w0 w M B fv sv v segs ks (1000 - s1.left) sv1 s1 segs1 w1) : BQ M B fv sv v segs ks (.go segs1.flatten s1) w (.returned (.pointer none)) w1 :=
  ⟨sv1, h.fr, h.st.mn, rfl, h.st.ap.2, segs1, h.st.ec, rfl, h.tl⟩
/-- what follows a run of statements that goes on -/
theorem Bi.next {w0 w : World} {fs : List Fx} {M B : Nat} {fv sv v : Value} {segs : List Env} {ks : List Nat} {a : Nat} {sv1 sv2 : Value} {s1 s2 : Cm} {segs1 segs2 : List Env} {w1 w2 : World} (hI : Ix w0 fs fv M B) (hks : ∀ k ∈ ks, w0.heap.size ≤ k) (h : Bi w0 w M B fv sv v segs ks a sv1 s1 segs1 w1) (hF : Fr (M :: ks) sv1 w1 sv2 w2) (hm : Mn w2 M B fv sv2 s2) (hap : ∀ q, sv2.ownBlock = some q → q ∉ ks) {a2 : Nat} (hE : EnC w2 a2 v segs2 ks) (ht : segs2.tail.map List.length = segs1.tail.map List.length ∧ segs2.length = segs1.length) : Bi w0 w M B fv sv v segs ks a2 sv2 s2 segs2 w2 :=
  ⟨h.fr.trans hF, ⟨Only.below h.st.b0 hF.only h.st.b0.size (fun b hb => by
    rcases List.mem_append.1 hb with hb | hb
    · rcases List.mem_cons.1 hb with rfl | hb
      · exact hI.hM
      · exact hks b hb
    · exact Nat.le_trans hI.hB (ownBlock_of h.st.mn.said b (by simpa using hb))), hm, hE, h.st.ap.1, hap⟩, ht.1.trans h.tl.1, ht.2.trans h.tl.2⟩
theorem Bi.end {w0 w : World} {M B : Nat} {fv sv v : Value} {segs : List Env} {ks : List Nat} {a : Nat} {sv1 : Value} {s1 : Cm} {segs1 : List Env} {w1 w2 : World} (h : Bi w0 w M B fv sv v segs ks a sv1 s1 segs1 w1) {r : Rb} {e : Ending} (hB : BQ M B fv sv1 v segs1 ks r w1 e w2) : BQ M B fv sv v segs ks r w e w2 := by
  obtain ⟨sv2, h1, h2, h3⟩ := hB
  refine ⟨sv2, h.fr.trans h1, h2, ?_⟩
  cases r with
  | go e1 s2 =>
    obtain ⟨h3, h4, segs', h5, h6, h7, h8⟩ := h3
    exact ⟨h3, h4, segs', h5, h6, h7.trans h.tl.1, h8.trans h.tl.2⟩
  | back u s2 => exact h3
  | stop en s2 => exact h3
set_option maxHeartbeats 8000000 in
theorem iblock_any {w0 : World} {fs : List Fx} {fv : Value} {M B g : Nat} (hI : Ix w0 fs fv M B) (hG : ∀ g', g' < g → GS w0 fs fv M B g') : GB w0 fs fv M B g := by
  intro d ss lv s r w sv v segs ks hev hok hsa hS hst hks
  obtain ⟨a, cap, hf⟩ := hS.form
  obtain ⟨m, hm⟩ : ∃ m, m = ss.length := ⟨_, rfl⟩
  have hmb : m ≤ big := by rw [hm]; exact hS.lens.1
  unfold big at hmb
  rw [← hm] at hf
  subst hf
  have HEV := Lib.hid hev; have HOK := Lib.hid hok; have HSA := Lib.hid hsa; have HS := Lib.hid hS; have HST := Lib.hid hst; have HKS := Lib.hid hks; have HM := Lib.hid hm; have HI := Lib.hid hI; have HG := Lib.hid hG
  have hMl := hst.mn.blk.lt
  obtain ⟨V, rfl⟩ := hst.ec.ptr
  clear hev hok hsa hS hst hks hm hI hG
  go_enter Tryz.func117, Tryz.ntmps117
  go_wp2_with (fail)
  go_loopw [12] (fun i wr => ∃ (j : Nat), j ≤ m ∧ i = .int .i64 (j : Int) ∧ Hid (∃ (sv1 : Value) (s1 : Cm) (segs1 : List Env) (g1 : Nat), g1 ≤ g ∧ Bi w0 w M B fv sv (.pointer (some ⟨V, 0, none⟩)) segs ks (1000 - s1.left) sv1 s1 segs1 wr ∧ evB fs g1 (ss.drop j) segs1.flatten s1 = some r)) (fun i _ => m - (intOf i).toNat)
  case atStart => exact ⟨0, Nat.zero_le _, rfl, Lib.hid ⟨sv, s, segs, g, Nat.le_refl _, ⟨Fr.refl _ _ _, HST.out, rfl, rfl⟩, HEV.out⟩⟩
  case round =>
    obtain ⟨j, hj, rfl, HR⟩ := hrel
    obtain ⟨sv1, s1, segs1, g1, hg1, hB1, hev⟩ := HR.out
    have HB1 := Lib.hid hB1
    by_cases hlt : j < m
    · have hkl : j < ss.length := by rw [← HM.out]; exact hlt
      obtain ⟨x, hx⟩ : ∃ x, x = ss[j] := ⟨_, rfl⟩
      have hxk : ss[j]? = some x := by rw [hx]; exact List.getElem?_eq_getElem hkl
      rw [List.drop_eq_getElem_cons hkl, ← hx] at hev
      obtain ⟨g2, hgg, hev⟩ := evB_step hev
      obtain ⟨b', off, av, bv, ev, rfl, hbl, e0, e1, e2, e3, e4, ka, kb, ke⟩ := HS.out.get hxk
      have hbr := hB1.st.b0
      have e0 := cellB hbr e0; have e1 := cellB hbr e1; have e2 := cellB hbr e2; have e3 := cellB hbr e3; have e4 := cellB hbr e4
      obtain ⟨aa, ac, haf⟩ := ka.form
      obtain ⟨ba, bc, hbf⟩ := kb.form
      obtain ⟨ea, ec, hef⟩ := ke.form
      have HKA := Lib.hid ka; have HKB := Lib.hid kb; have HKE := Lib.hid ke
      have HZ := Lib.hid (HS.out.lens.2 j x hxk)
      have HXO := Lib.hid (List.all_eq_true.1 HOK.out x (List.mem_of_getElem? hxk))
      have HXA := Lib.hid (List.all_eq_true.1 HSA.out x (List.mem_of_getElem? hxk))
      obtain ⟨al, hal⟩ : ∃ l, l = x.args.length := ⟨_, rfl⟩
      obtain ⟨bl, hbll⟩ : ∃ l, l = x.body.length := ⟨_, rfl⟩
      obtain ⟨el, hel⟩ : ∃ l, l = x.els.length := ⟨_, rfl⟩
      rw [← hal] at haf
      rw [← hbll] at hbf
      rw [← hel] at hef
      subst haf hbf hef
      have HG2 : Hid (g2 < g) := Lib.hid (by omega)
      have HEV2 := Lib.hid hev
      have k0 : (0 : Int) ≤ j := by omega
      have k1 : (j : Int) < m := by omega
      obtain ⟨X, hX⟩ : ∃ X, X = wr.heap.size := ⟨_, rfl⟩
      obtain ⟨wa, hwa⟩ : ∃ wa, wa = wr.alloc (.cells #[.int .i64 x.op, .string x.name, .slice aa al ac, .slice ba bl bc, .slice ea el ec] 70) := ⟨_, rfl⟩
      have hba : Below wr.heap.size wr wa := by rw [hwa]; exact below1 _ _
      have HWA : Hid (Bi w0 w M B fv sv (.pointer (some ⟨V, 0, none⟩)) segs ks (1000 - s1.left) sv1 s1 segs1 wa ∧ Blk wa X [.int .i64 x.op, .string x.name, .slice aa al ac, .slice ba bl bc, .slice ea el ec] ∧ X ≠ M) := Lib.hid ⟨hB1.below hba, by rw [hwa, hX]; exact Blk.new _ _ _, by have := hB1.st.mn.blk.lt; omega⟩
      have HTK := Lib.hid (tick_any wa M B fv sv1 s1 HWA.out.1.st.mn)
      clear hkl hx hxk hev hgg hbr hbl ka kb ke hal hbll hel hba hB1 hg1 HR
      go_upto_region 4 with (fail)
      rw [← hwa, ← hX]
      clear hwa hX
      rcases HEV2.out with ⟨hl0, hr⟩ | ⟨hl0, r1, hs1, hnx⟩
      · subst hr
        unfold TickP at HTK
        simp only [if_pos hl0] at HTK
        clear hl0
        go_wp2_with (fail)
        go_at_call 146
        refine HTK.out.mono ?_
        rintro e w2 ⟨rfl, hM2, hO2⟩
        have HB2 := Lib.hid (HWA.out.1.step HI.out (Fr.of_only hO2) hM2)
        clear hM2 hO2
        go_wp2_with (fail)
        exact ⟨rfl, sv1, HB2.out.fr, HB2.out.st.mn, rfl⟩
      · unfold TickP at HTK
        simp only [if_neg hl0] at HTK
        have HNX := Lib.hid hnx
        have HS1 := Lib.hid hs1
        have HL0 := Lib.hid hl0
        clear hl0 hnx hs1
        go_wp2_with (fail)
        go_at_call 146
        refine HTK.out.mono ?_
        rintro e w2 ⟨rfl, hM2, hO2⟩
        have HB2 := Lib.hid (HWA.out.1.step HI.out (Fr.of_only hO2) hM2)
        have hbx := hO2.blk1 HWA.out.2.1 HWA.out.2.2
        obtain ⟨z0, z1, z2, z3, z4⟩ := blkc5 hbx
        have HSC := Lib.hid (HG.out g2 HG2.out d x _ _ _ s1.tick r1 w2 sv1 _ segs1 ks HS1.out HXO.out HXA.out HZ.out HKA.out HKB.out HKE.out ⟨HB2.out.st.b0, HB2.out.st.mn, HB2.out.st.ec.mono (by have h1 := HL0.out; have h2 := HWA.out.1.st.mn.bd; show 1000 - s1.left ≤ 999 - (s1.left - 1); omega), HB2.out.st.ap⟩ HKS.out (by have h1 := HL0.out; have h2 := HWA.out.1.st.mn.bd; show s1.said.length + (s1.left - 1) ≤ 399; omega))
        clear hM2 hO2 hbx
        go_wp2_with (fail)
        go_at_call 147
        refine HSC.out.mono ?_
        rintro e w3 hq
        have HQ := Lib.hid hq
        cases r1 with
        | go e1 s2 =>
          obtain ⟨sv3, hF, hM3, rfl, hap, segs3, hE3, hfl, ht1, ht2⟩ := hq
          have HB3 : Hid (∃ (sv1 : Value) (s1 : Cm) (segs1 : List Env) (g1 : Nat), g1 ≤ g ∧ Bi w0 w M B fv sv (.pointer (some ⟨V, 0, none⟩)) segs ks (1000 - s1.left) sv1 s1 segs1 w3 ∧ evB fs g1 (ss.drop (j + 1)) segs1.flatten s1 = some r) := Lib.hid ⟨sv3, s2, segs3, g2, by have := HG2.out; omega, HB2.out.next HI.out HKS.out hF hM3 hap hE3 ⟨ht1, ht2⟩, by
            rcases HNX.out with ⟨e2, s3, h1, h2⟩ | ⟨h1, _⟩
            · injection h1 with h1 h3
              subst h1 h3
              rw [hfl]; exact h2
            · exact absurd rfl (h1 _ _)⟩
          clear hF hM3 hap hE3 hfl ht1 ht2
          go_wp2_with (fail)
          go_roundw
          case rel => exact ⟨j + 1, by omega, by go_num, HB3⟩
          case measure => simp [intOf]; omega
        | back u s2 =>
          obtain ⟨sv3, hF, hM3, ⟨q, rfl, hq0⟩, hu⟩ := hq
          have hr : r = .back u s2 := by
            rcases HNX.out with ⟨e2, s3, h1, _⟩ | ⟨_, h1⟩
            · cases h1
            · exact h1
          subst hr
          have HQQ := Lib.hid (HB2.out.end HQ.out)
          clear hF hM3 hu
          go_wp2_with (fail)
          go_ret
          exact HQQ.out
        | stop en s2 =>
          obtain ⟨sv3, hF, hM3, rfl⟩ := hq
          have hr : r = .stop en s2 := by
            rcases HNX.out with ⟨e2, s3, h1, _⟩ | ⟨_, h1⟩
            · cases h1
            · exact h1
          subst hr
          have HQQ := Lib.hid (HB2.out.end HQ.out)
          clear hF hM3
          go_wp2_with (fail)
          exact ⟨rfl, HQQ.out⟩
    · have hje : j = m := by omega
      have hd : ss.drop j = [] := by rw [hje, HM.out]; exact List.drop_length
      rw [hd] at hev
      have hr := evB_nil hev
      subst hr
      clear hje hd hev
      go_wp2_with (fail)
      go_ret
      exact HB1.out.ans
end Go.Proofs.YtpnliencahnmoaaGreatDoor

set_option linter.unusedVariables false
set_option linter.unusedSimpArgs false
set_option maxRecDepth 100000
namespace Go.Proofs.YtpnliencahnmoaaGreatDoor
open Go.RowKit
theorem Fr.dropNew {M : Nat} {ks : List Nat} {sv sv2 : Value} {w w1 w2 : World} (h1 : Below w.heap.size w w1) (h2 : Fr (M :: ks) sv w1 sv2 w2) (hk : ∀ k ∈ ks, w.heap.size ≤ k) : Fr [M] sv w sv2 w2 := by
  refine ⟨⟨h2.only.os.trans h1.os, h2.only.tape.trans h1.tape, h2.only.output.trans h1.output, Nat.le_trans h1.size h2.only.size, fun i hi hn => ?_⟩, ?_⟩
  · rw [h2.only.block i (Nat.lt_of_lt_of_le hi h1.size) (fun hm => ?_), h1.block i hi]
    simp only [List.mem_append, List.mem_cons, List.not_mem_nil, or_false] at hn hm
    rcases hm with (h | h) | h
    · exact hn (.inl h)
    · have := hk i h; omega
    · exact hn (.inr h)
  · rcases h2.row with h | h
    · exact .inl h
    · exact .inr (fun k e => Nat.le_trans h1.size (h k e))
theorem zip_take {ps : List ByteArray} {vs : List Nat} {j : Nat} {p : ByteArray} {u : Nat} (h1 : ps[j]? = some p) (h2 : vs[j]? = some u) : ((ps.zip vs).take (j + 1)).reverse = (p, u) :: ((ps.zip vs).take j).reverse := by
  have h : (ps.zip vs)[j]? = some (p, u) := by
    rw [List.getElem?_zip_eq_some]; exact ⟨h1, h2⟩
  rw [List.take_add_one, h]
  simp
theorem evC_some {fs : List Fx} {g k : Nat} {vs : List Nat} {s : Cm} {r : Rs} (h : evC fs g k vs s = some r) : ∃ f, fs[k]? = some f := by
  cases g with
  | zero => simp [evC] at h
  | succ g =>
    rw [evC] at h
    cases hf : fs[k]? with
    | none => rw [hf] at h; cases h
    | some f => exact ⟨f, rfl⟩
set_option maxHeartbeats 8000000 in
theorem icall_any {w0 : World} {fs : List Fx} {fv : Value} {M B g : Nat} (hI : Ix w0 fs fv M B) (hG : ∀ g', g' < g → GB w0 fs fv M B g') : GC w0 fs fv M B g := by
  intro k iv vs s r w sv hev hb0 hMn hna hsm
  obtain ⟨f, hf⟩ := evC_some hev
  obtain ⟨g', rb, rfl, hpl, hev2, hr⟩ := evC_parts hev hf
  obtain ⟨fa, fcap, hfv, hfm⟩ := hI.at0.form
  obtain ⟨fl, hfl⟩ : ∃ fl, fl = fs.length := ⟨_, rfl⟩
  rw [← hfl] at hfv hfm
  have hkl : k < fl := by rw [hfl]; exact idx_lt hf
  have hfs2 := hI.at0
  rw [hfv] at hfs2
  obtain ⟨_, fb, fo, pv, bv, rfl, hbl, x0, x1, x2, hpv, hbv⟩ := hfs2.get hf
  have hoks := hI.ok f (List.mem_of_getElem? hf)
  have hokf := hoks.1
  simp only [fxOk, Bool.and_eq_true, decide_eq_true_eq] at hokf
  have hp3 := hokf.1.1.2
  have hbok := hokf.2
  obtain ⟨ia, ic, hif, hic⟩ := hna
  subst hif
  obtain ⟨pa, pc, hpf, hpm⟩ := hpv.form
  obtain ⟨n, hn⟩ : ∃ n, n = f.params.length := ⟨_, rfl⟩
  have hvn : vs.length = n := by rw [hn, hpl]
  rw [hvn] at hic ⊢
  rw [← hn] at hpf hpm hp3
  subst hpf
  obtain ⟨bl, bc, hbf⟩ := hbv.form
  obtain ⟨bn, hbn⟩ : ∃ bn, bn = f.body.length := ⟨_, rfl⟩
  rw [← hbn] at hbf
  subst hbf
  have k0 : (0 : Int) ≤ k := by omega
  have k1 : (k : Int) < fl := by omega
  unfold big at hfm hpm
  have hmm := @run_makeMap Tryz.prog
  obtain ⟨b, hb⟩ : ∃ b, b = w.heap.size := ⟨_, rfl⟩
  obtain ⟨p, hp⟩ : ∃ p, p = w.heap.size + 1 := ⟨_, rfl⟩
  obtain ⟨w1, hw1⟩ : ∃ w1, w1 = (w.alloc (.map #[] 0)).alloc (.cells #[.map (some b), .pointer none] 152) := ⟨_, rfl⟩
  have HW1 : Hid (Below w.heap.size w w1 ∧ Blk w1 p [.map (some b), .pointer none] ∧ Mp w1 b 0 []) := Lib.hid ⟨by rw [hw1]; exact ((Below.refl _ w).alloc (Nat.le_refl _) _).alloc (by simp) _, by rw [hw1, hp]; exact Blk.fresh (by simp) rfl, by rw [hw1, hb]; exact (Mp.made w).same (Below.heap_alloc _ _ _ (by simp))⟩
  have HPB : Hid (p ≠ b ∧ w.heap.size ≤ b ∧ w.heap.size ≤ p ∧ M < w.heap.size) := Lib.hid (by have := hMn.blk.lt; omega)
  have HI := Lib.hid hI; have HG := Lib.hid hG; have HB0 := Lib.hid hb0; have HMN := Lib.hid hMn; have HIC := Lib.hid hic; have HSM := Lib.hid hsm; have HEV := Lib.hid hev2; have HR := Lib.hid hr; have HPV := Lib.hid hpv; have HBV := Lib.hid hbv; have HN := Lib.hid hn; have HVN := Lib.hid hvn; have HBOK := Lib.hid hbok; have HSA := Lib.hid hoks.2; have HFV := Lib.hid hfv
  have HX1 := Lib.hid x1; have HX2 := Lib.hid x2
  have hb01 := hb0.trans (HW1.out.1.mono hb0.size)
  have x1 := cellB hb01 x1
  have m0 : w1.cell? ⟨M, 0, none⟩ = some (.slice (some ⟨fb, fo, none⟩) fl fcap) := by rw [← hfv]; exact (hMn.below HW1.out.1).cells.1
  clear hI hG hb0 hMn hic hsm hev2 hr hpv hbv hn hvn hbok hokf hoks hfs2 hfl hkl hbn hev hf hpl hfv hbl x0 x2 hb01
  go_enter Tryz.func76, Tryz.ntmps76
  go_upto_region 2 with (fail)
  rw [← hp, ← hb, ← hw1]
  clear hw1 hb hp
  go_wp2_with (fail)
  go_loopw [24] (fun i wr => ∃ (j : Nat), j ≤ n ∧ i = .int .i64 (j : Int) ∧ Hid (Below w.heap.size w wr ∧ Blk wr p [.map (some b), .pointer none] ∧ Mp wr b j (((f.params.zip vs).take j).reverse))) (fun i _ => n - (intOf i).toNat)
  case atStart => exact ⟨0, Nat.zero_le _, rfl, Lib.hid ⟨HW1.out.1, HW1.out.2.1, by simpa using HW1.out.2.2⟩⟩
  case round =>
    obtain ⟨j, hj, rfl, HR2⟩ := hrel
    obtain ⟨y0, y1⟩ : wr.cell? ⟨p, 0, none⟩ = some (.map (some b)) ∧ wr.cell? ⟨p, 1, none⟩ = some (.pointer none) := ⟨(HR2.out.2.1.cell 0).trans rfl, (HR2.out.2.1.cell 1).trans rfl⟩
    have hbw := HB0.out.trans (HR2.out.1.mono HB0.out.size)
    have x1 := cellB hbw HX1.out
    have x2 := cellB hbw HX2.out
    have m0 : wr.cell? ⟨M, 0, none⟩ = some (.slice (some ⟨fb, fo, none⟩) fl fcap) := by rw [← HFV.out]; exact (HMN.out.below HR2.out.1).cells.1
    have HBW := Lib.hid hbw
    clear hbw
    by_cases hlt : j < n
    · obtain ⟨s0, hs0⟩ : ∃ s0, f.params[j]? = some s0 := ⟨_, List.getElem?_eq_getElem (by rw [← HN.out]; exact hlt)⟩
      obtain ⟨u, hu⟩ : ∃ u, vs[j]? = some u := ⟨_, List.getElem?_eq_getElem (by rw [HVN.out]; exact hlt)⟩
      have hsz := HPV.out.len hs0
      have hpw := HPV.out.below HBW.out
      obtain ⟨_, b2, o2, rfl, c0⟩ := hpw.get hs0
      obtain ⟨ib, io, rfl, hil, i0⟩ := HIC.out j hlt
      have i0 := cellB HR2.out.1 i0
      have hgd : vs.getD j 0 = u := by rw [List.getD_eq_getElem?_getD, hu]; rfl
      rw [hgd] at i0
      have hu2 : u < 256 := HSM.out u (List.mem_of_getElem? hu)
      have HZT := Lib.hid (zip_take hs0 hu)
      have hml : s0.size ≤ maxLen := by unfold maxLen; unfold big at hsz; omega
      have HML := Lib.hid hml; have HU2 := Lib.hid hu2
      have HJM : Hid (j < maxLen) := Lib.hid (by unfold maxLen; omega)
      have k2 : (0 : Int) ≤ j := by omega
      have k3 : (j : Int) < n := by omega
      have HNX : Hid (∀ w6 : World, (∀ L : Env, (∀ y, L.get y = if s0 = y then some u else Env.get ((f.params.zip vs).take j).reverse y) → Mp w6 b (j + 1) L) → wr.grownBy w6 (some b) → Below w.heap.size w w6 ∧ Blk w6 p [.map (some b), .pointer none] ∧ Mp w6 b (j + 1) (((f.params.zip vs).take (j + 1)).reverse)) := Lib.hid (fun w6 hM hg =>
        ⟨Only.below HR2.out.1 (bs := [b]) ⟨hg.os, hg.tape, hg.output, hg.size, fun i hi hn => hg.block i hi (by simp at hn; simpa using hn)⟩ HR2.out.1.size (by simp; exact HPB.out.2.1), HR2.out.2.1.grown hg (fun e => by injection e with e; exact HPB.out.1 e.symm), by rw [HZT.out]; exact hM _ (fun y => Env.get_cons _ _ _ _)⟩)
      have HM2 := Lib.hid HR2.out.2.2
      clear hs0 hu hsz hpw hgd hu2 hml hil x1 x2
      go_upto_region 5 with (fail)
      go_still_tail 9, (by kernel_rfl)
      change wpList _ _ _ _ _ wr.drew
      go_wp2_with (at_mapUpdate; refine wpList_mp_put _ rfl _ _ _ rfl b j _ rfl (HM2.out.same rfl) HJM.out s0 rfl HML.out u rfl HU2.out ?_; intro w6 hM6 hg6; have HN6 := Lib.hid (HNX.out w6 hM6 ⟨hg6.os, hg6.tape, hg6.output, hg6.size, hg6.block⟩); clear hM6 hg6)
      go_roundw
      case rel => exact ⟨j + 1, by omega, by go_num, HN6⟩
      case measure => simp [intOf]; omega
    · have hje : j = n := by omega
      have HL : Hid (((f.params.zip vs).take j).reverse = (f.params.zip vs).reverse) := Lib.hid (by rw [List.take_of_length_le (by rw [List.length_zip]; rw [hje, HN.out]; exact Nat.min_le_left _ _)])
      have HIST : Hid (Ist w0 wr M B (.slice (some ⟨fb, fo, none⟩) fl fcap) sv s (1000 - s.left) (.pointer (some ⟨p, 0, none⟩)) [(f.params.zip vs).reverse] [p, b]) := Lib.hid (by
        have hmn := HMN.out
        rw [HFV.out] at hmn
        refine ⟨HBW.out, hmn.below HR2.out.1, .last HR2.out.2.1 HPB.out.1 (by have := HR2.out.2.2; rw [HL.out] at this; exact this) (by have := hmn.bd; omega) ?_, ?_, fun q hq hk => ?_⟩
        · intro y hy
          rw [List.mem_reverse] at hy
          exact HSM.out _ (List.of_mem_zip hy).2
        · have := HPB.out; simp; omega
        · have h1 := (World.ownsRow.lt hmn.said q hq).2
          have := HPB.out
          simp at hk
          omega)
      have HBLK := Lib.hid (fun (hfv : fv = .slice (some ⟨fb, fo, none⟩) fl fcap) => HG.out g' (Nat.lt_succ_self _) 4 f.body (.slice bl bn bc) s rb wr sv (.pointer (some ⟨p, 0, none⟩)) [(f.params.zip vs).reverse] [p, b] (by simpa using HEV.out) HBOK.out HSA.out HBV.out (by rw [hfv]; exact HIST.out) (by have := HPB.out; have := HB0.out.size; simp; omega))
      have HBL2 := Lib.hid (HBLK.out HFV.out)
      have HDN : Hid (∀ sv2 w2, Fr [M, p, b] sv wr sv2 w2 → Fr [M] sv w sv2 w2) := Lib.hid (fun sv2 w2 hF => Fr.dropNew HR2.out.1 hF (by have := HPB.out; simp; omega))
      clear hje y0 y1
      go_wp2_with (fail)
      go_at_call 117
      refine HBL2.out.mono ?_
      rintro e w2 ⟨sv2, hF, hM2, hm⟩
      have HF := Lib.hid (HDN.out _ _ hF); have HM3 := Lib.hid hM2
      clear hF hM2
      have hrr := HR.out
      cases rb with
      | go e1 s1 =>
        obtain ⟨rfl, _⟩ := hm
        simp only [rsOf] at hrr
        subst hrr
        go_wp2_with (fail)
        go_ret
        exact ⟨sv2, HF.out, HM3.out, rfl, by omega⟩
      | back u s1 =>
        obtain ⟨⟨q, rfl, q0⟩, hu⟩ := hm
        simp only [rsOf] at hrr
        subst hrr
        go_wp2_with (fail)
        go_ret
        exact ⟨sv2, HF.out, HM3.out, rfl, hu⟩
      | stop en s1 =>
        obtain rfl := hm
        simp only [rsOf] at hrr
        subst hrr
        go_wp2_with (fail)
        exact ⟨rfl, sv2, HF.out, HM3.out, rfl⟩
end Go.Proofs.YtpnliencahnmoaaGreatDoor

set_option linter.unusedVariables false
set_option linter.unusedSimpArgs false
set_option maxRecDepth 100000
namespace Go.Proofs.YtpnliencahnmoaaGreatDoor
open Go.RowKit
structure Lef (fs : List Fx) (g : Nat) : Prop where
  e : ∀ {x env s r}, evE fs g x env s = some r → r.cm.left ≤ s.left
  l : ∀ {x env s r}, evL fs g x env s = some r → r.cm.left ≤ s.left
  c : ∀ {k vs s r}, evC fs g k vs s = some r → r.cm.left ≤ s.left
  b : ∀ {x env s r}, evB fs g x env s = some r → r.cm.left ≤ s.left
  s : ∀ {x env s r}, evS fs g x env s = some r → r.cm.left ≤ s.left
  w : ∀ {c b env s r}, evW fs g c b env s = some r → r.cm.left ≤ s.left
theorem tick_lef {s : Cm} (h : ¬ s.left = 0) : s.tick.left + 1 = s.left := by
  show (s.left - 1) + 1 = s.left
  omega
theorem lef (fs : List Fx) : ∀ g, Lef fs g := by
  intro g
  induction g with
  | zero =>
    refine ⟨?_, ?_, ?_, ?_, ?_, ?_⟩
    · intro x env s r h; simp [evE] at h
    · intro x env s r h; simp [evL] at h
    · intro x env s r h; simp [evC] at h
    · intro x env s r h; simp [evB] at h
    · intro x env s r h; simp [evS] at h
    · intro c b env s r h; simp [evW] at h
  | succ g ih =>
    refine ⟨?_, ?_, ?_, ?_, ?_, ?_⟩
    · intro x env s r h
      obtain ⟨op, n, name, kids⟩ := x
      unfold evE at h
      split at h
      · injection h with h; subst h; exact Nat.le_refl _
      split at h
      · split at h
        · cases h
        · injection h with h; subst h; exact Nat.le_refl _
      split at h
      · split at h
        · rename_i h1 _; exact Nat.le_trans (ih.c h) (ih.l h1)
        · rename_i h1 _; injection h with h; subst h; have h9 := ih.l h1; exact h9
        · cases h
      split at h
      · split at h
        · split at h
          · rename_i h1; injection h with h; subst h; have h9 := ih.e h1; exact h9
          · exact ih.e h
        split at h
        · split at h
          · rename_i h1
            split at h
            · injection h with h; subst h; have h9 := ih.e h1; exact h9
            · injection h with h; subst h; have h9 := ih.e h1; exact h9
          · exact ih.e h
        · cases h
      · split at h
        · split at h
          · rename_i h1
            split at h
            · injection h with h; subst h; have h9 := ih.e h1; exact h9
            · split at h
              · rename_i h2; injection h with h; subst h; have h9 := Nat.le_trans (ih.e h2) (ih.e h1); exact h9
              · exact Nat.le_trans (ih.e h) (ih.e h1)
          · exact ih.e h
        split at h
        · split at h
          · rename_i h1
            split at h
            · rename_i h2
              split at h
              · injection h with h; subst h; have h9 := Nat.le_trans (ih.e h2) (ih.e h1); exact h9
              · injection h with h; subst h; have h9 := Nat.le_trans (ih.e h2) (ih.e h1); exact h9
            · exact Nat.le_trans (ih.e h) (ih.e h1)
          · exact ih.e h
        · cases h
      · cases h
    · intro x env s r h
      match x, h with
      | [], h => rw [evL] at h; injection h with h; subst h; exact Nat.le_refl _
      | e :: r', h =>
        rw [evL] at h
        split at h
        · rename_i h1
          split at h
          · rename_i h2; injection h with h; subst h; have h9 := Nat.le_trans (ih.l h2) (ih.e h1); exact h9
          · exact Nat.le_trans (ih.l h) (ih.e h1)
        · rename_i h1; injection h with h; subst h; have h9 := ih.e h1; exact h9
        · cases h
    · intro k vs s r h
      unfold evC at h
      split at h
      · cases h
      split at h
      · cases h
      split at h
      · rename_i h1; injection h with h; subst h; have h9 := ih.b h1; exact h9
      · rename_i h1; injection h with h; subst h; have h9 := ih.b h1; exact h9
      · rename_i h1; injection h with h; subst h; have h9 := ih.b h1; exact h9
      · cases h
    · intro x env s r h
      match x, h with
      | [], h => rw [evB] at h; injection h with h; subst h; exact Nat.le_refl _
      | y :: r', h =>
        rw [evB] at h
        split at h
        · injection h with h; subst h; exact Nat.le_refl _
        · rename_i h0
          have ht := tick_lef h0
          split at h
          · rename_i h1; have := ih.b h; have h2 := ih.s h1; simp only [Rb.cm] at h2; omega
          · have := ih.s h; omega
    · intro x env s r h
      obtain ⟨op, name, args, body, els⟩ := x
      unfold evS at h
      split at h
      · split at h
        · have := ih.w h; omega
        · cases h
      split at h
      · cases h
      split at h
      · cases h
      · rename_i h1; injection h with h; subst h; have := ih.e h1; simp only [Rs.cm] at this; simp only [Rb.cm]; omega
      rename_i h1
      have h1 := ih.e h1
      simp only [Rs.cm] at h1
      split at h
      · injection h with h; subst h; simp only [Rb.cm]; omega
      split at h
      · split at h
        · cases h
        · injection h with h; subst h; simp only [Rb.cm]; omega
      split at h
      · injection h with h; subst h
        simp only [Rb.cm]
        unfold Cm.left at h1 ⊢
        simp
        omega
      split at h
      · split at h
        · split at h
          · rename_i h2
            have h2 := ih.e h2
            simp only [Rs.cm] at h2
            split at h
            · injection h with h; subst h; simp only [Rb.cm]; omega
            · injection h with h; subst h; simp only [Rb.cm]; (first | omega | (simp only at *; omega))
          · rename_i h2
            have h2 := ih.e h2
            simp only [Rs.cm] at h2
            injection h with h; subst h; simp only [Rb.cm]; omega
          · cases h
        · cases h
      split at h
      · split at h
        · rename_i h2; have h2 := ih.b h2; simp only [Rb.cm] at h2; injection h with h; subst h; simp only [Rb.cm]; omega
        · have := ih.b h; omega
      split at h
      · injection h with h; subst h; simp only [Rb.cm]; omega
      split at h
      · injection h with h; subst h; simp only [Rb.cm]; omega
      · cases h
    · intro c b env s r h
      unfold evW at h
      split at h
      · cases h
      · rename_i h1; injection h with h; subst h; have h9 := ih.e h1; exact h9
      rename_i h1
      have h1 := ih.e h1
      simp only [Rs.cm] at h1
      split at h
      · injection h with h; subst h; exact h1
      split at h
      · rename_i h2
        have h2 := ih.b h2
        simp only [Rb.cm] at h2
        split at h
        · injection h with h; subst h; simp only [Rb.cm]; omega
        · rename_i h0
          have ht := tick_lef h0
          have := ih.w h
          omega
      · have := ih.b h; omega
theorem EnC.head {w : World} {a : Nat} {v : Value} {segs : List Env} {ks : List Nat} (h : EnC w a v segs ks) : ∃ p r, v = .pointer (some ⟨p, 0, none⟩) ∧ ks = p :: r := by
  cases h <;> exact ⟨_, _, rfl, rfl⟩
theorem EnC.ne {w : World} {a : Nat} {v : Value} {segs : List Env} {ks : List Nat} (h : EnC w a v segs ks) : ∃ L r, segs = L :: r := by
  cases h <;> exact ⟨_, _, rfl⟩
/-- a new variable in the newest block -/
theorem EnC.top {w : World} {a V : Nat} {L : Env} {rest : List Env} {ks : List Nat} (h : EnC w a (.pointer (some ⟨V, 0, none⟩)) (L :: rest) ks) (s : ByteArray) : ∃ (b n : Nat) (au : Option Addr), b ∈ ks ∧ Blk w V [.map (some b), .pointer au] ∧ Mp w b n L ∧ n ≤ a ∧
    ∀ (w' : World) (u : Nat), u < 256 → w.grownBy w' (some b) → Mp w' b (n + 1) ((s, u) :: L) → EnC w' (a + 1) (.pointer (some ⟨V, 0, none⟩)) (((s, u) :: L) :: rest) ks := by
  cases h with
  | last hb hne hm hn hL =>
    exact ⟨_, _, _, by simp, hb, hm, hn, fun w' u hu hg hm' => .last (hb.grown hg (fun e => by injection e with e; exact hne e.symm)) hne hm' (by omega) (fun x hx => by
      rcases List.mem_cons.1 hx with rfl | hx
      · exact hu
      · exact hL x hx)⟩
  | more hb hne hm hn hL hp hk hlt hu' =>
    exact ⟨_, _, _, by simp, hb, hm, hn, fun w' u hu hg hm' => .more (hb.grown hg (fun e => by injection e with e; exact hne e.symm)) hne hm' (by omega) (fun x hx => by
      rcases List.mem_cons.1 hx with rfl | hx
      · exact hu
      · exact hL x hx) hp hk hlt ((hu'.keep (fun k hk' => hg.block k (hu'.lt k hk') (fun e => by injection e with e; subst e; exact hk hk'))).mono (Nat.le_succ _))⟩
/-- the inner block's variables are gone -/
theorem EnC.outer {w : World} {a p b V : Nat} {segs' : List Env} {ks : List Nat} (h : EnC w a (.pointer (some ⟨p, 0, none⟩)) segs' (p :: b :: ks)) (hV : ∃ r, ks = V :: r) : ∃ L rest, segs' = L :: rest ∧ EnC w a (.pointer (some ⟨V, 0, none⟩)) rest ks := by
  cases h with
  | last hb hne hm hn hL => obtain ⟨r, hr⟩ := hV; cases hr
  | more hb hne hm hn hL hp hk hlt hu =>
    obtain ⟨q, r', h1, h2⟩ := hu.head
    obtain ⟨r, hr⟩ := hV
    rw [hr] at h2
    injection h2 with h2 _
    subst h2
    rw [h1] at hu
    exact ⟨_, _, rfl, hu⟩
theorem flat_len {A B : List Env} (h : A.map List.length = B.map List.length) : A.flatten.length = B.flatten.length := by
  rw [List.length_flatten, List.length_flatten, h]
theorem cut_app (L M : Env) {n : Nat} (h : n = M.length) : (L ++ M).cut n = M := by
  subst h
  unfold Env.cut
  rw [List.length_append, Nat.add_sub_cancel]
  exact List.drop_left
theorem Fr.dropTwo {M p b : Nat} {ks : List Nat} {sv sv2 : Value} {w w1 w2 : World} (h1 : Below w.heap.size w w1) (h2 : Fr (M :: p :: b :: ks) sv w1 sv2 w2) (hp : w.heap.size ≤ p) (hb : w.heap.size ≤ b) : Fr (M :: ks) sv w sv2 w2 := by
  refine ⟨⟨h2.only.os.trans h1.os, h2.only.tape.trans h1.tape, h2.only.output.trans h1.output, Nat.le_trans h1.size h2.only.size, fun i hi hn => ?_⟩, ?_⟩
  · rw [h2.only.block i (Nat.lt_of_lt_of_le hi h1.size) (fun hm => ?_), h1.block i hi]
    simp only [List.mem_append, List.mem_cons, List.not_mem_nil, or_false] at hn hm
    rcases hm with (h | h | h | h) | h
    · exact hn (.inl (.inl h))
    · omega
    · omega
    · exact hn (.inl (.inr h))
    · exact hn (.inr h)
  · rcases h2.row with h | h
    · exact .inl h
    · exact .inr (fun k e => Nat.le_trans h1.size (h k e))
/-- a statement on its way: its box, the state so far -/
structure Bj (w0 w : World) (M B : Nat) (fv sv v : Value) (segs : List Env) (ks : List Nat) (box : List Value) (a : Nat) (sv1 : Value) (s1 : Cm) (segs1 : List Env) (w1 : World) : Prop where
  bi : Bi w0 w M B fv sv v segs ks a sv1 s1 segs1 w1
  box : Blk w1 w.heap.size box
  nx : sv1.ownBlock ≠ some w.heap.size
  kx : w.heap.size ≠ M ∧ w.heap.size ∉ ks
theorem Bj.start {w0 w : World} {M B : Nat} {fv sv v : Value} {s : Cm} {a : Nat} {segs : List Env} {ks : List Nat} (h : Ist w0 w M B fv sv s a v segs ks) (cs : Array Value) (t : TypeId) : Bj w0 w M B fv sv v segs ks cs.toList a sv s segs (w.alloc (.cells cs t)) :=
  ⟨⟨Fr.below (below1 _ _), h.below (below1 _ _), rfl, rfl⟩, Blk.new _ _ _, fun e => by have := (World.ownsRow.lt h.mn.said _ e).2; omega, by have := h.mn.blk.lt; omega, fun hk => by have := h.ec.lt _ hk; omega⟩
theorem Bj.below {w0 w : World} {M B : Nat} {fv sv v : Value} {segs : List Env} {ks : List Nat} {box : List Value} {a : Nat} {sv1 : Value} {s1 : Cm} {segs1 : List Env} {w1 w2 : World} (h : Bj w0 w M B fv sv v segs ks box a sv1 s1 segs1 w1) (hb : Below w1.heap.size w1 w2) : Bj w0 w M B fv sv v segs ks box a sv1 s1 segs1 w2 :=
  ⟨h.bi.below hb, h.box.below hb, h.nx, h.kx⟩
theorem Bj.step {w0 w : World} {fs : List Fx} {M B : Nat} {fv sv v : Value} {segs : List Env} {ks : List Nat} {box : List Value} {a : Nat} {sv1 sv2 : Value} {s1 s2 : Cm} {segs1 : List Env} {w1 w2 : World} (hI : Ix w0 fs fv M B) (h : Bj w0 w M B fv sv v segs ks box a sv1 s1 segs1 w1) (hF : Fr [M] sv1 w1 sv2 w2) (hm : Mn w2 M B fv sv2 s2) : Bj w0 w M B fv sv v segs ks box a sv2 s2 segs1 w2 :=
  ⟨h.bi.step hI hF hm, hF.blk h.box (fun e => h.kx.1 (List.mem_singleton.1 e)) h.nx, hF.ne h.box.lt h.nx, h.kx⟩
theorem Bj.next {w0 w : World} {fs : List Fx} {M B : Nat} {fv sv v : Value} {segs : List Env} {ks : List Nat} {box : List Value} {a : Nat} {sv1 sv2 : Value} {s1 s2 : Cm} {segs1 segs2 : List Env} {w1 w2 : World} (hI : Ix w0 fs fv M B) (hks : ∀ k ∈ ks, w0.heap.size ≤ k) (h : Bj w0 w M B fv sv v segs ks box a sv1 s1 segs1 w1) (hF : Fr (M :: ks) sv1 w1 sv2 w2) (hm : Mn w2 M B fv sv2 s2) (hap : ∀ q, sv2.ownBlock = some q → q ∉ ks) {a2 : Nat} (hE : EnC w2 a2 v segs2 ks) (ht : segs2.tail.map List.length = segs1.tail.map List.length ∧ segs2.length = segs1.length) : Bj w0 w M B fv sv v segs ks box a2 sv2 s2 segs2 w2 :=
  ⟨h.bi.next hI hks hF hm hap hE ht, hF.blk h.box (fun e => by
    rcases List.mem_cons.1 e with e | e
    · exact h.kx.1 e
    · exact h.kx.2 e) h.nx, hF.ne h.box.lt h.nx, h.kx⟩
theorem Bj.ans {w0 w : World} {M B : Nat} {fv sv v : Value} {segs : List Env} {ks : List Nat} {box : List Value} {a : Nat} {s1 : Cm} {sv1 : Value} {segs1 : List Env} {w1 : World} (h : Bj w0 w M B fv sv v segs ks box a sv1 s1 segs1 w1) (ha : a ≤ 1000 - s1.left) : BQ M B fv sv v segs ks (.go segs1.flatten s1) w (.returned (.pointer none)) w1 :=
  ⟨sv1, h.bi.fr, h.bi.st.mn, rfl, h.bi.st.ap.2, segs1, h.bi.st.ec.mono ha, rfl, h.bi.tl⟩
theorem Bj.stop {w0 w : World} {M B : Nat} {fv sv v : Value} {segs : List Env} {ks : List Nat} {box : List Value} {a : Nat} {s1 : Cm} {sv1 : Value} {segs1 : List Env} {w1 : World} (h : Bj w0 w M B fv sv v segs ks box a sv1 s1 segs1 w1) (en : Nat) : BQ M B fv sv v segs ks (.stop en s1) w (.panicked (endChain en)) w1 :=
  ⟨sv1, h.bi.fr, h.bi.st.mn, rfl⟩
theorem Wr.same {w w' : World} {s : ByteArray} {p : Nat} {v : Value} (h : Wr w s p v) (hh : w'.heap = w.heap) : Wr w' s p v := by
  induction h with
  | last hb hm => exact .last (hb.same (by rw [hh])) (hm.same (by rw [hh]))
  | here hb hm hs => exact .here (hb.same (by rw [hh])) (hm.same (by rw [hh])) hs
  | up hb hm hs hl hu ih => exact .up (hb.same (by rw [hh])) (hm.same (by rw [hh])) hs hl ih
theorem Mn.say {w w9 : World} {M B : Nat} {fv sv : Value} {s : Cm} (h : Mn w M B fv sv s) (hbd : s.said.length + s.left ≤ 399) {u : Nat} (hu : u < 256) {o : Obj} (hg : (w.alloc o).grownBy w9 sv.ownBlock) {g c : Nat} (ha : sv.ownBlock = some g ∨ g = (w.alloc o).heap.size) (ho : w9.ownsRow B 3 1 (.slice (some ⟨g, 0, none⟩) (s.said.length + 1) c) (s.said.length + 1) (nats s.said ++ [.int .i64 (u : Int)])) :
    Mn (w9.setCell ⟨M, 3, none⟩ (.slice (some ⟨g, 0, none⟩) (s.said.length + 1) c)) M B fv (.slice (some ⟨g, 0, none⟩) (s.said.length + 1) c) { s with said := s.said ++ [u] } ∧ Fr [M] sv w (.slice (some ⟨g, 0, none⟩) (s.said.length + 1) c) (w9.setCell ⟨M, 3, none⟩ (.slice (some ⟨g, 0, none⟩) (s.said.length + 1) c)) ∧ w9.frozen? ⟨M, 3, none⟩ = false := by
  have hl := h.blk.lt
  have hgM : g ≠ M := by
    rcases ha with e | e
    · intro e2; subst e2; exact h.ne e
    · simp at e; omega
  have hb9 : Blk w9 M ([fv, .int .i64 400, .int .i64 ((400 - s.left : Nat) : Int), sv] ++ nats s.cells) := (h.blk.alloc o).grown hg h.ne
  have e1 : (s.said ++ [u]).length = s.said.length + 1 := by simp
  have e2 : nats (s.said ++ [u]) = nats s.said ++ [.int .i64 (u : Int)] := by simp [nats]
  refine ⟨⟨hb9.set 3 _, ?_, fun e => ?_, ⟨h.cm.cells, h.cm.cellsS, h.cm.saidS.snoc u hu⟩, ?_⟩, ⟨⟨hg.os, hg.tape, hg.output, Nat.le_trans (Nat.le_trans (show w.heap.size ≤ (w.alloc o).heap.size by simp) hg.size) ((Only.refl [M] w9).setCell (p := ⟨M, 3, none⟩) (by simp) _).size, fun i hi hn => ?_⟩, ?_⟩, hb9.frozen 3⟩
  · show World.ownsRow _ B 3 1 _ (s.said ++ [u]).length (nats (s.said ++ [u]))
    rw [e1, e2]
    exact ownsRow_same ho (fun q hq => ((Only.refl [M] w9).setCell (p := ⟨M, 3, none⟩) (by simp) _).block q (World.ownsRow.lt ho q hq).2 (fun hm => hgM ((Option.some.inj hq).trans (List.mem_singleton.1 hm))))
  · simp [Value.ownBlock] at e; exact hgM e
  · show (s.said ++ [u]).length + s.left ≤ 400
    rw [e1]; omega
  · simp only [List.mem_append, List.mem_cons, List.not_mem_nil, or_false, not_or, Option.mem_toList] at hn
    have h1 := ((Only.refl [M] w9).setCell (p := ⟨M, 3, none⟩) (by simp) (.slice (some ⟨g, 0, none⟩) (s.said.length + 1) c)).block i (Nat.lt_of_lt_of_le (Nat.lt_of_lt_of_le hi (by simp)) hg.size) (by simp; exact hn.1)
    rw [h1, hg.block i (Nat.lt_of_lt_of_le hi (by simp)) (fun e => hn.2 e.symm), Below.heap_alloc _ _ _ hi]
  · rcases ha with e | e
    · exact .inl e.symm
    · exact .inr (fun k hk => by simp [Value.ownBlock] at hk; subst hk; rw [e]; simp)
theorem Bj.inner {w0 w : World} {M B : Nat} {fv sv : Value} {segs : List Env} {ks : List Nat} {box : List Value} {a V : Nat} {sv1 : Value} {s1 : Cm} {segs1 : List Env} {w1 wi : World} (h : Bj w0 w M B fv sv (.pointer (some ⟨V, 0, none⟩)) segs ks box a sv1 s1 segs1 w1) (ha : a ≤ 1000 - s1.left) {p b : Nat} (h1 : w1.heap.size ≤ p) (h2 : w1.heap.size ≤ b) (h3 : p ≠ b) (h4 : Blk wi p [.map (some b), .pointer (some ⟨V, 0, none⟩)]) (h5 : Mp wi b 0 []) (h6 : Below w1.heap.size w1 wi) : Ist w0 wi M B fv sv1 s1 (1000 - s1.left) (.pointer (some ⟨p, 0, none⟩)) ([] :: segs1) (p :: b :: ks) :=
  ⟨h.bi.st.b0.trans (h6.mono h.bi.st.b0.size), h.bi.st.mn.below h6, (h.bi.st.ec.mono ha).inner h1 h2 h3 h4 h5 h6, by
    have := h.bi.st.mn.blk.lt
    have := h.bi.st.ap.1
    simp only [List.mem_cons, not_or]
    exact ⟨by omega, by omega, this⟩, fun q hq => by
    have := (World.ownsRow.lt h.bi.st.mn.said q hq).2
    have := h.bi.st.ap.2 q hq
    simp only [List.mem_cons, not_or]
    exact ⟨by omega, by omega, this⟩⟩
/-- behind an inner block -/
theorem Bj.behind {w0 w : World} {fs : List Fx} {M B : Nat} {fv sv : Value} {segs : List Env} {ks : List Nat} {box : List Value} {a V : Nat} {sv1 : Value} {s1 : Cm} {segs1 : List Env} {w1 wi w3 : World} (hI : Ix w0 fs fv M B) (hks : ∀ k ∈ ks, w0.heap.size ≤ k) (h : Bj w0 w M B fv sv (.pointer (some ⟨V, 0, none⟩)) segs ks box a sv1 s1 segs1 w1) {p b : Nat} (h1 : w1.heap.size ≤ p) (h2 : w1.heap.size ≤ b) (h6 : Below w1.heap.size w1 wi) {e1 : Env} {s2 : Cm} {e : Ending} (hB : BQ M B fv sv1 (.pointer (some ⟨p, 0, none⟩)) ([] :: segs1) (p :: b :: ks) (.go e1 s2) wi e w3) : e = .returned (.pointer none) ∧ ∃ sv3 rest, Bj w0 w M B fv sv (.pointer (some ⟨V, 0, none⟩)) segs ks box (1000 - s2.left) sv3 s2 rest w3 ∧ e1.cut segs1.flatten.length = rest.flatten := by
  obtain ⟨sv3, g1, g2, g3, g4, segs', g5, g6, g7, g8⟩ := hB
  obtain ⟨q, r, hq, hr⟩ := h.bi.st.ec.head
  injection hq with hq; injection hq with hq; injection hq with hq _ _
  subst hq
  obtain ⟨L, rest, rfl, g9⟩ := g5.outer ⟨r, hr⟩
  have hm : rest.map List.length = segs1.map List.length := by simpa using g7
  refine ⟨g3, sv3, rest, h.next hI hks (Fr.dropTwo h6 g1 h1 h2) g2 (fun q hq hk => g4 q hq (List.mem_cons_of_mem _ (List.mem_cons_of_mem _ hk))) g9 ⟨by
    have := congrArg List.tail hm
    rwa [List.map_tail, List.map_tail], by simpa using congrArg List.length hm⟩, ?_⟩
  rw [← g6, List.flatten_cons]
  exact cut_app _ _ (flat_len hm).symm
theorem Bj.out {w0 w : World} {M B : Nat} {fv sv : Value} {segs : List Env} {ks : List Nat} {box : List Value} {a V : Nat} {sv1 : Value} {s1 : Cm} {segs1 : List Env} {w1 wi w3 : World} (h : Bj w0 w M B fv sv (.pointer (some ⟨V, 0, none⟩)) segs ks box a sv1 s1 segs1 w1) {p b : Nat} (h1 : w1.heap.size ≤ p) (h2 : w1.heap.size ≤ b) (h6 : Below w1.heap.size w1 wi) {rb : Rb} (hr : ∀ e1 s2, rb ≠ .go e1 s2) {e : Ending} (hB : BQ M B fv sv1 (.pointer (some ⟨p, 0, none⟩)) ([] :: segs1) (p :: b :: ks) rb wi e w3) : BQ M B fv sv (.pointer (some ⟨V, 0, none⟩)) segs ks rb w e w3 := by
  obtain ⟨sv3, g1, g2, g3⟩ := hB
  refine ⟨sv3, h.bi.fr.trans (Fr.dropTwo h6 g1 h1 h2), g2, ?_⟩
  cases rb with
  | go e1 s2 => exact absurd rfl (hr e1 s2)
  | back u s2 => exact g3
  | stop en s2 => exact g3
end Go.Proofs.YtpnliencahnmoaaGreatDoor
