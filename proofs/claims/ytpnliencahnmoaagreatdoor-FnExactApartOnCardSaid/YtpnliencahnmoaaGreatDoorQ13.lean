/- The program's check of names: CheckProgram, fine. A run of a program of trees that is fine comes to an end. No program in sight. -/
import Derived.Test.YtpnliencahnmoaaGreatDoorQ12
import Derived.Test.YtpnliencahnmoaaGreatDoorQ2
set_option linter.unusedVariables false
set_option linter.unusedSimpArgs false
set_option linter.unusedVariables false
set_option linter.unusedSimpArgs false
set_option maxRecDepth 100000
namespace Go.Proofs.YtpnliencahnmoaaGreatDoor
open Go.RowKit
theorem nodupB_is {l : List ByteArray} : nodupB l = true ↔ l.Nodup := by
  induction l with
  | nil => simp [nodupB]
  | cons x r ih =>
    rw [List.nodup_cons, nodupB, Bool.and_eq_true, ih, Bool.not_eq_true', ← Bool.not_eq_true, memB_iff]
theorem nodupB_rev (l : List ByteArray) : nodupB l.reverse = nodupB l := by
  rw [Bool.eq_iff_iff, nodupB_is, nodupB_is, List.Nodup, List.pairwise_reverse]
  exact ⟨fun h => h.imp (fun h => h.symm), fun h => h.imp (fun h => h.symm)⟩
theorem rev_take {l : List ByteArray} {j : Nat} {x : ByteArray} (h : l[j]? = some x) : (l.take (j + 1)).reverse = x :: (l.take j).reverse := by
  rw [List.take_add_one, h]; simp
theorem fnIx_le {fs : List Fx} {k : Nat} {f : Fx} (h : fs[k]? = some f) : ∃ j, fnIx fs f.name = some j ∧ j ≤ k := by
  have hl := idx_lt h
  cases hj : fnIx fs f.name with
  | none =>
    unfold fnIx at hj
    rw [List.findIdx?_eq_none_iff] at hj
    have := hj f (List.mem_of_getElem? h)
    simp at this
  | some j =>
    refine ⟨j, rfl, ?_⟩
    unfold fnIx at hj
    rw [List.findIdx?_eq_some_iff_getElem] at hj
    obtain ⟨h1, h2, h3⟩ := hj
    rcases Nat.lt_or_ge k j with hlt | hge
    · have := h3 k hlt
      rw [List.getElem?_eq_getElem hl] at h
      injection h with h
      rw [h] at this
      simp at this
    · exact hge
theorem Only.blk1 {C : Nat} {w w' : World} (h : Only [C] w w') {p : Nat} {xs : List Value} (hb : Blk w p xs) (hp : p ≠ C) : Blk w' p xs := h.blk hb (fun h => hp (List.mem_singleton.1 h))
/-- all functions so far are fine -/
def preF (fs : List Fx) (j : Nat) : Prop := ∀ i f, i < j → fs[i]? = some f → chkF fs i f = true
theorem preF_succ {fs : List Fx} {j : Nat} {f : Fx} (h : fs[j]? = some f) : preF fs (j + 1) ↔ preF fs j ∧ chkF fs j f = true := by
  constructor
  · intro H
    exact ⟨fun i g hi hg => H i g (by omega) hg, H j f (by omega) h⟩
  · rintro ⟨H, H2⟩ i g hi hg
    rcases Nat.lt_or_ge i j with e | e
    · exact H i g e hg
    · obtain rfl : i = j := by omega
      rw [h] at hg; injection hg with hg; subst hg; exact H2
/-- what stands while a function is checked -/
structure Cf (w wx : World) (C FB : Nat) (fv : Value) (j : Nat) (c : Int) (fb : List Value) : Prop where
  b : Below w.heap.size w wx
  box : Blk wx w.heap.size [fv]
  ck : Ckr wx C fv j c
  f : Blk wx FB fb
theorem Cf.only {w wx wy : World} {C FB : Nat} {fv : Value} {j : Nat} {c c' : Int} {fb : List Value} (h : Cf w wx C FB fv j c fb) (hO : Only [C] wx wy) (hC : w.heap.size < C) (hF : FB ≠ C) (hk : Ckr wy C fv j c') : Cf w wy C FB fv j c' fb :=
  ⟨Only.below h.b hO h.b.size (by simp; omega), hO.blk1 h.box (by omega), hk, hO.blk1 h.f hF⟩
theorem Cf.below {w wx wy : World} {C FB : Nat} {fv : Value} {j : Nat} {c : Int} {fb : List Value} (h : Cf w wx C FB fv j c fb) (hb : Below wx.heap.size wx wy) : Cf w wy C FB fv j c fb :=
  ⟨h.b.trans (hb.mono h.b.size), h.box.below hb, h.ck.below hb, h.f.below hb⟩
theorem Cf.put {w wx wy : World} {C FB z : Nat} {fv : Value} {j : Nat} {c : Int} {fb : List Value} (h : Cf w wx C FB fv j c fb) (hg : wx.grownBy wy (some z)) (h1 : z ≠ C) (h2 : z ≠ FB) (h3 : w.heap.size < z) : Cf w wy C FB fv j c fb :=
  ⟨Only.below h.b (bs := [z]) ⟨hg.os, hg.tape, hg.output, hg.size, fun i hi hn => hg.block i hi (by simp at hn; simpa using hn)⟩ h.b.size (by simp; omega), h.box.grown hg (fun e => by injection e with e; omega), Blk.grown h.ck hg (fun e => h1 (by injection e)), h.f.grown hg (fun e => h2 (by injection e))⟩
def ChkR (fs : List Fx) (w : World) (e : Ending) (w' : World) : Prop := ∃ n : Int, e = .returned (.int .i64 n) ∧ (n = 0 ↔ prFine isNB fs) ∧ Below w.heap.size w w'
set_option maxHeartbeats 8000000 in
theorem checkProg_any (fs : List Fx) (w : World) (fv : Value) (hK : KS w) (hW : FxsW fs) (h : FxsAt w fv fs) (hcap : CapOk fv) (hle : fxsW fs ≤ 4194304) :
    Calls Tryz.prog 60 #[.agg #[fv]] w (ChkR fs w) := by
  obtain ⟨a, cap, hform, hmb⟩ := h.form
  obtain ⟨m, hm⟩ : ∃ m, m = fs.length := ⟨_, rfl⟩
  rw [← hm] at hform hmb
  obtain ⟨q, hq⟩ : ∃ q, prVal isNB fs = q := ⟨_, rfl⟩
  have hb1 := below1 w (.cells #[fv] 31)
  have HPV := Lib.hid (progValid_any fs _ fv q (hK.below hb1) hW (h.below hb1) hle hq)
  have HQ := Lib.hid hq; have HS := Lib.hid h; have HM := Lib.hid hm; have HB1 := Lib.hid hb1; have HCAP := Lib.hid hcap
  have HLE : Hid (∀ f ∈ fs, stsW f.body ≤ 4194304) := Lib.hid (fun f hf => by
    have h1 := sum_mem_le fxW hf
    have h2 : fxsW fs = fs.length + (fs.map fxW).sum := rfl
    have h3 : fxW f = f.name.size + strsW f.params + stsW f.body := rfl
    omega)
  subst hform
  unfold big at hmb
  have hbx : Blk (w.alloc (.cells #[.slice a m cap] 31)) w.heap.size [.slice a m cap] := Blk.new _ _ _
  have x0 : (w.alloc (.cells #[.slice a m cap] 31)).cell? ⟨w.heap.size, 0, none⟩ = some (.slice a m cap) := by rw [hbx.cell]; rfl
  have HBX := Lib.hid hbx
  clear h hm hb1 hcap hle hq hK hW hbx
  go_enter Tryz.func60, Tryz.ntmps60
  go_wp2_with (fail)
  go_at_call 97
  refine HPV.out.mono ?_
  rintro e w2 ⟨rfl, hb2⟩
  have hbx2 := HBX.out.below hb2
  have HB2 := Lib.hid (HB1.out.trans (hb2.mono HB1.out.size))
  have HLT : Hid (w.heap.size < w2.heap.size) := Lib.hid hbx2.lt
  cases q
  · clear hbx2 hb2
    go_wp2_with (fail)
    go_ret
    exact ⟨1, rfl, ⟨fun h => (by cases h), fun h => by have := h.1; rw [HQ.out] at this; cases this⟩, HB2.out⟩
  have x0 : w2.cell? ⟨w.heap.size, 0, none⟩ = some (.slice a m cap) := by rw [hbx2.cell]; rfl
  have HVAL : Hid (∀ f ∈ fs, f.params.length ≤ 3 ∧ f.body.all (stOk isNB 4) = true) := Lib.hid (fun f hf => by
    have h0 := HQ.out
    unfold prVal at h0
    simp only [Bool.and_eq_true, decide_eq_true_eq] at h0
    have h1 := List.all_eq_true.1 h0.1.2 f hf
    simp only [fxOk, Bool.and_eq_true, decide_eq_true_eq] at h1
    exact ⟨h1.1.1.2, h1.2⟩)
  obtain ⟨C, hC⟩ : ∃ C, C = w2.heap.size := ⟨_, rfl⟩
  obtain ⟨wc, hwc⟩ : ∃ wc, wc = w2.alloc (.cells #[.slice a m cap, .int .i64 0, .int .i64 0] 131) := ⟨_, rfl⟩
  have HWC : Hid (Below w.heap.size w wc ∧ Blk wc w.heap.size [.slice a m cap] ∧ Ckr wc C (.slice a m cap) 0 0) := Lib.hid ⟨by rw [hwc]; exact HB2.out.trans ((below1 _ _).mono HB2.out.size), by rw [hwc]; exact hbx2.alloc _, by rw [hwc, hC]; exact Blk.new _ _ _⟩
  have HCC : Hid (w.heap.size < C ∧ w.heap.size ≤ C) := Lib.hid (by have := HLT.out; omega)
  have x1 : wc.cell? ⟨w.heap.size, 0, none⟩ = some (.slice a m cap) := by rw [HWC.out.2.1.cell]; rfl
  clear hbx2 hb2
  go_upto_region 4 with (fail)
  rw [← hwc, ← hC]
  clear hwc hC x0
  go_wp2_with (fail)
  go_loopw [20] (fun i wr => ∃ (j : Nat), j ≤ m ∧ i = .int .i64 (j : Int) ∧ Hid (∃ (at' cr : Int), Below w.heap.size w wr ∧ Blk wr w.heap.size [.slice a m cap] ∧ Ckr wr C (.slice a m cap) at' cr ∧ (cr = 0 ↔ preF fs j))) (fun i _ => m - (intOf i).toNat)
  case atStart => exact ⟨0, Nat.zero_le _, rfl, Lib.hid ⟨0, 0, HWC.out.1, HWC.out.2.1, HWC.out.2.2, ⟨fun _ i f hi => by omega, fun _ => rfl⟩⟩⟩
  case round =>
    obtain ⟨j, hj, rfl, HR⟩ := hrel
    obtain ⟨at', cr, hR⟩ := HR.out
    have HRR := Lib.hid hR
    clear hR
    by_cases hlt : j < m
    · have hkl : j < fs.length := by rw [← HM.out]; exact hlt
      obtain ⟨x, hx⟩ : ∃ x, x = fs[j] := ⟨_, rfl⟩
      have hxk : fs[j]? = some x := by rw [hx]; exact List.getElem?_eq_getElem hkl
      obtain ⟨hz, b', off, pv, bv, rfl, hbl, e0, e1, e2, hpv, hbv⟩ := HS.out.get hxk
      have hbr := HRR.out.1
      have e0 := cellB hbr e0; have e1 := cellB hbr e1; have e2 := cellB hbr e2
      obtain ⟨pa, pc, hpf, _⟩ := hpv.form
      obtain ⟨ba, bc, hbf⟩ := hbv.form
      have HPVS := Lib.hid hpv; have HBVS := Lib.hid hbv; have HXK := Lib.hid hxk
      have HVX := Lib.hid (HVAL.out x (List.mem_of_getElem? hxk))
      have HLX := Lib.hid (HLE.out x (List.mem_of_getElem? hxk))
      obtain ⟨jx, hjx, hjl⟩ := fnIx_le hxk
      have HPF := Lib.hid (preF_succ hxk)
      obtain ⟨pl, hpl⟩ : ∃ l, l = x.params.length := ⟨_, rfl⟩
      obtain ⟨bl, hbll⟩ : ∃ l, l = x.body.length := ⟨_, rfl⟩
      rw [← hpl] at hpf
      rw [← hbll] at hbf
      subst hpf hbf
      have HPL := Lib.hid hpl
      have hpl3 : pl ≤ 3 := by rw [hpl]; exact HVX.out.1
      have k0 : (0 : Int) ≤ j := by omega
      have k1 : (j : Int) < m := by omega
      obtain ⟨FB, hFB⟩ : ∃ X, X = wr.heap.size := ⟨_, rfl⟩
      have hFC : FB ≠ C := by have := Blk.lt HRR.out.2.2.1; omega
      have HFC : Hid (FB ≠ C ∧ C < FB ∧ w.heap.size < FB) := Lib.hid (by have := Blk.lt HRR.out.2.2.1; have := HRR.out.2.1.lt; omega)
      obtain ⟨wa, hwa⟩ : ∃ wa, wa = wr.alloc (.cells #[.string x.name, .slice pa pl pc, .slice ba bl bc] 64) := ⟨_, rfl⟩
      have hba : Below wr.heap.size wr wa := by rw [hwa]; exact below1 _ _
      have hca : Ckr wa C (.slice (some ⟨b', off, none⟩) m cap) at' cr := HRR.out.2.2.1.below hba
      have hfa : Blk wa FB [.string x.name, .slice pa pl pc, .slice ba bl bc] := by rw [hwa, hFB]; exact Blk.new _ _ _
      have HF1 : Hid (Cf w (wa.setCell ⟨C, 1, none⟩ (.int .i64 (j : Int))) C FB (.slice (some ⟨b', off, none⟩) m cap) j cr [.string x.name, .slice pa pl pc, .slice ba bl bc]) := Lib.hid ⟨(hbr.trans (hba.mono hbr.size)).setCell HCC.out.2 _, (HRR.out.2.1.below hba).other (a := ⟨C, 1, none⟩) (by have := HCC.out.1; show w.heap.size ≠ C; omega) _, Blk.set hca 1 _, hfa.other (a := ⟨C, 1, none⟩) hFC _⟩
      have f1 : wa.frozen? ⟨C, 1, none⟩ = false := Blk.frozen hca 1
      have g1 : wa.cell? ⟨C, 1, none⟩ = some (.int .i64 at') := by rw [Blk.cell hca]; rfl
      clear hkl hx hxk hpv hbv hbr hpl hbll hbl hz hba hfa hFC hca
      go_upto_region 7 with (fail)
      rw [← hwa, ← hFB]
      clear hwa hFB
      go_upto_region 8 with (fail)
      generalize wa.setCell ⟨C, 1, none⟩ (.int .i64 (j : Int)) = wb at HF1 ⊢
      clear f1 g1
      have y0 : wb.cell? ⟨w.heap.size, 0, none⟩ = some (.slice (some ⟨b', off, none⟩) m cap) := by rw [HF1.out.box.cell]; rfl
      obtain ⟨z0, z1, z2⟩ := blkc3 HF1.out.f
      have HFA := Lib.hid (fnAt_any wb fs (.slice (some ⟨b', off, none⟩) m cap) x.name (HS.out.below HF1.out.b))
      rw [hjx] at HFA
      have idj : idxI (some jx) = (jx : Int) := rfl
      rw [idj] at HFA
      have HJX := Lib.hid hjx
      clear idj hjx
      go_wp2_with (fail)
      go_at_call 98
      refine HFA.out.mono ?_
      rintro e w2b ⟨rfl, hb2⟩
      have HF2 := Lib.hid (HF1.out.below hb2)
      clear hb2 z0 z1 z2 y0
      by_cases hjj : jx = j
      · subst hjj
        obtain ⟨w3, rfl⟩ : ∃ w3 : World, w3 = w2b := ⟨_, rfl⟩
        have HF3 := HF2
        obtain ⟨c2, rfl⟩ : ∃ c : Int, c = cr := ⟨_, rfl⟩
        have HC2 : Hid (c2 = 0 ↔ c2 = 0 ∧ fnIx fs x.name = some jx) := Lib.hid ⟨fun h => ⟨h, HJX.out⟩, fun h => h.1⟩
        go_wp2_with (fail)
        go_at_call 100
        refine (open_any _ none).mono ?_
        rintro e w4 ⟨p, b, rfl, hp', hb', hne, hpw, hbk, hmp, hB⟩
        have HF4 := Lib.hid (HF3.out.below hB)
        obtain ⟨lo, hlo⟩ : ∃ lo, lo = w3.heap.size := ⟨_, rfl⟩
        have hcw : C < w3.heap.size := Blk.lt HF3.out.ck
        have hfw : FB < w3.heap.size := HF3.out.f.lt
        have HBF : Hid (b ≠ C ∧ b ≠ FB ∧ w.heap.size < b ∧ w.heap.size ≤ b) := Lib.hid (by have := HFC.out; omega)
        have HT4 : Hid (Top w w4 fs (.slice (some ⟨b', off, none⟩) m cap) jx C (C + 1) lo p b 0 (.pointer none) [] []) := Lib.hid ⟨HF4.out.b, HS.out, HCC.out.2, by omega, by omega, by omega, by omega, hne, Nat.lt_of_lt_of_le hcw hB.size, hbk, ⟨[], hmp, fun _ => rfl⟩, .nil _, by rw [← HM.out]; omega, HCAP.out⟩
        obtain ⟨z0, z1, z2⟩ := blkc3 HF4.out.f
        clear hp' hb' hne hpw hbk hmp hB hlo hcw hfw
        go_wp2_with (fail)
        go_loopw [41] (fun i wi => ∃ (g : Nat), g ≤ pl ∧ i = .int .i64 (g : Int) ∧ Hid (∃ c3, Cf w wi C FB (.slice (some ⟨b', off, none⟩) m cap) jx c3 [.string x.name, .slice pa pl pc, .slice ba bl bc] ∧ Top w wi fs (.slice (some ⟨b', off, none⟩) m cap) jx C (C + 1) lo p b g (.pointer none) ((x.params.take g).reverse) [] ∧ (c3 = 0 ↔ c2 = 0 ∧ nodupB (x.params.take g).reverse = true))) (fun i _ => pl - (intOf i).toNat)
        case atStart => exact ⟨0, Nat.zero_le _, rfl, Lib.hid ⟨c2, HF4.out, HT4.out, ⟨fun h => ⟨h, rfl⟩, fun h => h.1⟩⟩⟩
        case round =>
          obtain ⟨g, hg, rfl, HG⟩ := hrel
          obtain ⟨c3, hG⟩ := HG.out
          have HGG := Lib.hid hG
          clear hG
          obtain ⟨wi, rfl⟩ : ∃ wi : World, wi = wr := ⟨_, rfl⟩
          by_cases hgt : g < pl
          · have hgl : g < x.params.length := by rw [← HPL.out]; exact hgt
            obtain ⟨s, hs⟩ : ∃ s, x.params[g]? = some s := ⟨_, List.getElem?_eq_getElem hgl⟩
            have hsz := HPVS.out.len hs
            have hpw := HPVS.out.below HGG.out.1.b
            obtain ⟨_, b2, off2, rfl, s0⟩ := hpw.get hs
            have HRT := Lib.hid (rev_take hs)
            have hml : s.size ≤ maxLen := by unfold big at hsz; unfold maxLen; omega
            have HML := Lib.hid hml
            obtain ⟨L, hL, hl⟩ := HGG.out.2.1.mp
            obtain ⟨r, hr⟩ : ∃ r, r = memB (x.params.take g).reverse s := ⟨_, rfl⟩
            have hlk : ∀ W : World, W = wi → (Instr.lookup 137 (.map (some b)) (.string s) true).run Tryz.prog W = .ok (.tuple #[.int .i64 (((L.get s).getD 0 : Nat) : Int), .bool r]) W := fun W hW => by rw [hW, hr, ← hl]; exact hL.run_ok hml
            have hlk := hlk wi rfl
            have y1 : wi.cell? ⟨p, 0, none⟩ = some (.map (some b)) := by rw [HGG.out.2.1.blk.cell]; rfl
            have HNX : Hid (∀ (w5 w6 : World) (c4 : Int), Only [C] wi w5 → Ckr w5 C (.slice (some ⟨b', off, none⟩) m cap) jx c4 → (c4 = 0 ↔ c3 = 0 ∧ (!r) = true) → (∀ M : Env, (∀ y, M.get y = if s = y then some 0 else L.get y) → Mp w6 b (g + 1) M) → w5.grownBy w6 (some b) →
              ∃ c3, Cf w w6 C FB (.slice (some ⟨b', off, none⟩) m cap) jx c3 [.string x.name, .slice (some ⟨b2, off2, none⟩) pl pc, .slice ba bl bc] ∧ Top w w6 fs (.slice (some ⟨b', off, none⟩) m cap) jx C (C + 1) lo p b (g + 1) (.pointer none) ((x.params.take (g + 1)).reverse) [] ∧ (c3 = 0 ↔ c2 = 0 ∧ nodupB (x.params.take (g + 1)).reverse = true)) := Lib.hid (fun w5 w6 c4 hO hC4 hc4 hM hgr => by
                refine ⟨c4, (HGG.out.1.only hO HCC.out.1 HFC.out.1 hC4).put hgr HBF.out.1 HBF.out.2.1 HBF.out.2.2.1, ?_, ?_⟩
                · rw [HRT.out]
                  exact (HGG.out.2.1.only hO).put hgr (hM ((s, 0) :: L) (fun y => rfl)) (fun y => by
                    rw [Env.get_cons, memB_cons]
                    by_cases e : s = y
                    · rw [if_pos e, decide_eq_true e]; rfl
                    · rw [if_neg e, decide_eq_false e, Bool.false_or]; exact hl y)
                · rw [hc4, HGG.out.2.2, HRT.out, nodupB, hr]
                  simp only [Bool.and_eq_true, and_assoc]
                  exact and_congr_right fun _ => and_comm)
            have HXF : Hid (∀ w5, Only [C] wi w5 → w5.cell? ⟨p, 0, none⟩ = some (.map (some b)) ∧ Mp w5 b g L) := Lib.hid (fun w5 hO => by
              refine ⟨by rw [(HGG.out.2.1.only hO).blk.cell]; rfl, hL.same (hO.block b hL.lt (fun h => HBF.out.1 (List.mem_singleton.1 h)))⟩)
            have HCK := Lib.hid HGG.out.1.ck
            have k2 : (0 : Int) ≤ g := by omega
            have k3 : (g : Int) < pl := by omega
            have HGM : Hid (g < maxLen) := Lib.hid (by unfold maxLen; omega)
            clear hgl hs hsz hpw hr hL hl hml
            cases r
            · have HN := Lib.hid (fun w6 => HNX.out wi w6 c3 (Only.refl _ _) HCK.out ⟨fun h => ⟨h, rfl⟩, fun h => h.1⟩)
              have HM5 := Lib.hid (HXF.out wi (Only.refl _ _)).2
              go_wp2_with (at_mapUpdate; refine wpList_mp_put _ rfl _ _ _ rfl b g L rfl HM5.out HGM.out s rfl HML.out 0 rfl (by decide) ?_; intro w6 hM6 hg6; have HN6 := Lib.hid (HN.out w6 hM6 hg6); clear hM6 hg6)
              go_roundw
              case rel => exact ⟨g + 1, by omega, by go_num, HN6⟩
              case measure => simp [intOf]; omega
            · go_wp2_with (fail)
              go_at_call 99
              refine (fail_any _ C _ _ c3 2 HCK.out (by decide)).mono ?_
              rintro e w5 ⟨rfl, hO, c4, hC4, hc4⟩
              have HN := Lib.hid (fun w6 => HNX.out w5 w6 c4 hO hC4 hc4)
              obtain ⟨y1, hM5⟩ := HXF.out w5 hO
              have HM5 := Lib.hid hM5
              clear hO hC4 hc4 hM5 hlk
              go_wp2_with (at_mapUpdate; refine wpList_mp_put _ rfl _ _ _ rfl b g L rfl HM5.out HGM.out s rfl HML.out 0 rfl (by decide) ?_; intro w6 hM6 hg6; have HN6 := Lib.hid (HN.out w6 hM6 hg6); clear hM6 hg6)
              go_roundw
              case rel => exact ⟨g + 1, by omega, by go_num, HN6⟩
              case measure => simp [intOf]; omega
          · have hge : g = pl := by omega
            have hG2 := HGG.out
            rw [hge, HPL.out, List.take_length] at hG2
            have HG2 := Lib.hid hG2
            obtain ⟨z0, z1, z2⟩ := blkc3 hG2.1.f
            have HBK := Lib.hid (ckBlock_any w fs (.slice (some ⟨b', off, none⟩) m cap) jx C (C + 1) 4 (Nat.le_refl _) x.body wi (.slice ba bl bc) c3 lo p b x.params.length (.pointer none) x.params.reverse [] HVX.out.2 HBVS.out HLX.out (HVX.out.1) hG2.2.1 hG2.1.ck)
            clear hG2 hge
            go_wp2_with (fail)
            go_at_call 101
            refine HBK.out.mono ?_
            rintro e w6 ⟨rfl, hO, c6, hC6, hc6⟩
            have HR6 : Hid (∃ (at' cr : Int), Below w.heap.size w w6 ∧ Blk w6 w.heap.size [.slice (some ⟨b', off, none⟩) m cap] ∧ Ckr w6 C (.slice (some ⟨b', off, none⟩) m cap) at' cr ∧ (cr = 0 ↔ preF fs (jx + 1))) := Lib.hid ⟨jx, c6, Only.below HG2.out.1.b hO HG2.out.1.b.size (by simp; exact ⟨HCC.out.2, HBF.out.2.2.2⟩), hO.blk HG2.out.1.box (by have := HCC.out.1; have := HBF.out.2.2.1; simp; omega), hC6, by
              rw [hc6, HG2.out.2.2, HC2.out, HPF.out, HRR.out.2.2.2, nodupB_rev]
              unfold chkF
              simp only [Bool.and_eq_true, decide_eq_true_eq, and_assoc]⟩
            clear hO hC6 hc6
            go_wp2_with (fail)
            go_roundw
            case rel => exact ⟨jx + 1, by omega, by go_num, HR6⟩
            case measure => simp [intOf]; omega
      · have hjx2 : (jx : Int) < j := by omega
        go_wp2_with (fail)
        go_at_call 99
        refine (fail_any _ C _ _ cr 2 HF2.out.ck (by decide)).mono ?_
        rintro e w3 ⟨rfl, hO, c2, hC2, hc2⟩
        have HF3 := Lib.hid (HF2.out.only hO HCC.out.1 HFC.out.1 hC2)
        have HC2 : Hid (c2 = 0 ↔ cr = 0 ∧ fnIx fs x.name = some j) := Lib.hid ⟨(fun h => by have := (hc2.1 h).2; cases this), (fun h => by have := HJX.out; rw [h.2] at this; injection this with this; exact absurd this.symm hjj)⟩
        clear hO hC2 hc2
        go_wp2_with (fail)
        go_at_call 100
        refine (open_any _ none).mono ?_
        rintro e w4 ⟨p, b, rfl, hp', hb', hne, hpw, hbk, hmp, hB⟩
        have HF4 := Lib.hid (HF3.out.below hB)
        obtain ⟨lo, hlo⟩ : ∃ lo, lo = w3.heap.size := ⟨_, rfl⟩
        have hcw : C < w3.heap.size := Blk.lt HF3.out.ck
        have hfw : FB < w3.heap.size := HF3.out.f.lt
        have HBF : Hid (b ≠ C ∧ b ≠ FB ∧ w.heap.size < b ∧ w.heap.size ≤ b) := Lib.hid (by have := HFC.out; omega)
        have HT4 : Hid (Top w w4 fs (.slice (some ⟨b', off, none⟩) m cap) j C (C + 1) lo p b 0 (.pointer none) [] []) := Lib.hid ⟨HF4.out.b, HS.out, HCC.out.2, by omega, by omega, by omega, by omega, hne, Nat.lt_of_lt_of_le hcw hB.size, hbk, ⟨[], hmp, fun _ => rfl⟩, .nil _, by rw [← HM.out]; omega, HCAP.out⟩
        obtain ⟨z0, z1, z2⟩ := blkc3 HF4.out.f
        clear hp' hb' hne hpw hbk hmp hB hlo hcw hfw
        go_wp2_with (fail)
        go_loopw [41] (fun i wi => ∃ (g : Nat), g ≤ pl ∧ i = .int .i64 (g : Int) ∧ Hid (∃ c3, Cf w wi C FB (.slice (some ⟨b', off, none⟩) m cap) j c3 [.string x.name, .slice pa pl pc, .slice ba bl bc] ∧ Top w wi fs (.slice (some ⟨b', off, none⟩) m cap) j C (C + 1) lo p b g (.pointer none) ((x.params.take g).reverse) [] ∧ (c3 = 0 ↔ c2 = 0 ∧ nodupB (x.params.take g).reverse = true))) (fun i _ => pl - (intOf i).toNat)
        case atStart => exact ⟨0, Nat.zero_le _, rfl, Lib.hid ⟨c2, HF4.out, HT4.out, ⟨fun h => ⟨h, rfl⟩, fun h => h.1⟩⟩⟩
        case round =>
          obtain ⟨g, hg, rfl, HG⟩ := hrel
          obtain ⟨c3, hG⟩ := HG.out
          have HGG := Lib.hid hG
          clear hG
          obtain ⟨wi, rfl⟩ : ∃ wi : World, wi = wr := ⟨_, rfl⟩
          by_cases hgt : g < pl
          · have hgl : g < x.params.length := by rw [← HPL.out]; exact hgt
            obtain ⟨s, hs⟩ : ∃ s, x.params[g]? = some s := ⟨_, List.getElem?_eq_getElem hgl⟩
            have hsz := HPVS.out.len hs
            have hpw := HPVS.out.below HGG.out.1.b
            obtain ⟨_, b2, off2, rfl, s0⟩ := hpw.get hs
            have HRT := Lib.hid (rev_take hs)
            have hml : s.size ≤ maxLen := by unfold big at hsz; unfold maxLen; omega
            have HML := Lib.hid hml
            obtain ⟨L, hL, hl⟩ := HGG.out.2.1.mp
            obtain ⟨r, hr⟩ : ∃ r, r = memB (x.params.take g).reverse s := ⟨_, rfl⟩
            have hlk : ∀ W : World, W = wi → (Instr.lookup 137 (.map (some b)) (.string s) true).run Tryz.prog W = .ok (.tuple #[.int .i64 (((L.get s).getD 0 : Nat) : Int), .bool r]) W := fun W hW => by rw [hW, hr, ← hl]; exact hL.run_ok hml
            have hlk := hlk wi rfl
            have y1 : wi.cell? ⟨p, 0, none⟩ = some (.map (some b)) := by rw [HGG.out.2.1.blk.cell]; rfl
            have HNX : Hid (∀ (w5 w6 : World) (c4 : Int), Only [C] wi w5 → Ckr w5 C (.slice (some ⟨b', off, none⟩) m cap) j c4 → (c4 = 0 ↔ c3 = 0 ∧ (!r) = true) → (∀ M : Env, (∀ y, M.get y = if s = y then some 0 else L.get y) → Mp w6 b (g + 1) M) → w5.grownBy w6 (some b) →
              ∃ c3, Cf w w6 C FB (.slice (some ⟨b', off, none⟩) m cap) j c3 [.string x.name, .slice (some ⟨b2, off2, none⟩) pl pc, .slice ba bl bc] ∧ Top w w6 fs (.slice (some ⟨b', off, none⟩) m cap) j C (C + 1) lo p b (g + 1) (.pointer none) ((x.params.take (g + 1)).reverse) [] ∧ (c3 = 0 ↔ c2 = 0 ∧ nodupB (x.params.take (g + 1)).reverse = true)) := Lib.hid (fun w5 w6 c4 hO hC4 hc4 hM hgr => by
                refine ⟨c4, (HGG.out.1.only hO HCC.out.1 HFC.out.1 hC4).put hgr HBF.out.1 HBF.out.2.1 HBF.out.2.2.1, ?_, ?_⟩
                · rw [HRT.out]
                  exact (HGG.out.2.1.only hO).put hgr (hM ((s, 0) :: L) (fun y => rfl)) (fun y => by
                    rw [Env.get_cons, memB_cons]
                    by_cases e : s = y
                    · rw [if_pos e, decide_eq_true e]; rfl
                    · rw [if_neg e, decide_eq_false e, Bool.false_or]; exact hl y)
                · rw [hc4, HGG.out.2.2, HRT.out, nodupB, hr]
                  simp only [Bool.and_eq_true, and_assoc]
                  exact and_congr_right fun _ => and_comm)
            have HXF : Hid (∀ w5, Only [C] wi w5 → w5.cell? ⟨p, 0, none⟩ = some (.map (some b)) ∧ Mp w5 b g L) := Lib.hid (fun w5 hO => by
              refine ⟨by rw [(HGG.out.2.1.only hO).blk.cell]; rfl, hL.same (hO.block b hL.lt (fun h => HBF.out.1 (List.mem_singleton.1 h)))⟩)
            have HCK := Lib.hid HGG.out.1.ck
            have k2 : (0 : Int) ≤ g := by omega
            have k3 : (g : Int) < pl := by omega
            have HGM : Hid (g < maxLen) := Lib.hid (by unfold maxLen; omega)
            clear hgl hs hsz hpw hr hL hl hml
            cases r
            · have HN := Lib.hid (fun w6 => HNX.out wi w6 c3 (Only.refl _ _) HCK.out ⟨fun h => ⟨h, rfl⟩, fun h => h.1⟩)
              have HM5 := Lib.hid (HXF.out wi (Only.refl _ _)).2
              go_wp2_with (at_mapUpdate; refine wpList_mp_put _ rfl _ _ _ rfl b g L rfl HM5.out HGM.out s rfl HML.out 0 rfl (by decide) ?_; intro w6 hM6 hg6; have HN6 := Lib.hid (HN.out w6 hM6 hg6); clear hM6 hg6)
              go_roundw
              case rel => exact ⟨g + 1, by omega, by go_num, HN6⟩
              case measure => simp [intOf]; omega
            · go_wp2_with (fail)
              go_at_call 99
              refine (fail_any _ C _ _ c3 2 HCK.out (by decide)).mono ?_
              rintro e w5 ⟨rfl, hO, c4, hC4, hc4⟩
              have HN := Lib.hid (fun w6 => HNX.out w5 w6 c4 hO hC4 hc4)
              obtain ⟨y1, hM5⟩ := HXF.out w5 hO
              have HM5 := Lib.hid hM5
              clear hO hC4 hc4 hM5 hlk
              go_wp2_with (at_mapUpdate; refine wpList_mp_put _ rfl _ _ _ rfl b g L rfl HM5.out HGM.out s rfl HML.out 0 rfl (by decide) ?_; intro w6 hM6 hg6; have HN6 := Lib.hid (HN.out w6 hM6 hg6); clear hM6 hg6)
              go_roundw
              case rel => exact ⟨g + 1, by omega, by go_num, HN6⟩
              case measure => simp [intOf]; omega
          · have hge : g = pl := by omega
            have hG2 := HGG.out
            rw [hge, HPL.out, List.take_length] at hG2
            have HG2 := Lib.hid hG2
            obtain ⟨z0, z1, z2⟩ := blkc3 hG2.1.f
            have HBK := Lib.hid (ckBlock_any w fs (.slice (some ⟨b', off, none⟩) m cap) j C (C + 1) 4 (Nat.le_refl _) x.body wi (.slice ba bl bc) c3 lo p b x.params.length (.pointer none) x.params.reverse [] HVX.out.2 HBVS.out HLX.out (HVX.out.1) hG2.2.1 hG2.1.ck)
            clear hG2 hge
            go_wp2_with (fail)
            go_at_call 101
            refine HBK.out.mono ?_
            rintro e w6 ⟨rfl, hO, c6, hC6, hc6⟩
            have HR6 : Hid (∃ (at' cr : Int), Below w.heap.size w w6 ∧ Blk w6 w.heap.size [.slice (some ⟨b', off, none⟩) m cap] ∧ Ckr w6 C (.slice (some ⟨b', off, none⟩) m cap) at' cr ∧ (cr = 0 ↔ preF fs (j + 1))) := Lib.hid ⟨j, c6, Only.below HG2.out.1.b hO HG2.out.1.b.size (by simp; exact ⟨HCC.out.2, HBF.out.2.2.2⟩), hO.blk HG2.out.1.box (by have := HCC.out.1; have := HBF.out.2.2.1; simp; omega), hC6, by
              rw [hc6, HG2.out.2.2, HC2.out, HPF.out, HRR.out.2.2.2, nodupB_rev]
              unfold chkF
              simp only [Bool.and_eq_true, decide_eq_true_eq, and_assoc]⟩
            clear hO hC6 hc6
            go_wp2_with (fail)
            go_roundw
            case rel => exact ⟨j + 1, by omega, by go_num, HR6⟩
            case measure => simp [intOf]; omega
    · have hje : j = m := by omega
      have HE : Hid (cr = 0 ↔ prFine isNB fs) := Lib.hid (by
        rw [HRR.out.2.2.2, hje, HM.out]
        exact ⟨fun h => ⟨HQ.out, fun i f hf => h i f (idx_lt hf) hf⟩, fun h i f _ hf => h.2 i f hf⟩)
      obtain ⟨y0, y1, y2⟩ := blkc3 HRR.out.2.2.1
      clear hje
      go_wp2_with (fail)
      go_ret
      exact ⟨cr, rfl, HE.out, HRR.out.1⟩
set_option maxHeartbeats 1000000 in
theorem implFine_any (fs : List Fx) (w : World) (fv : Value) (q : Bool) (hK : KS w) (hW : FxsW fs) (h : FxsAt w fv fs) (hcap : CapOk fv) (hle : fxsW fs ≤ 4194304) (hq : q = true ↔ prFine isNB fs) :
    Calls Tryz.prog 33 #[.agg #[fv]] w (BoolP q w) := by
  have hb1 := below1 w (.cells #[fv] 31)
  have HC := Lib.hid (checkProg_any fs _ fv (hK.below hb1) hW (h.below hb1) hcap hle)
  have HB1 := Lib.hid hb1
  have HQ := Lib.hid hq
  obtain ⟨a, cap, hform, _⟩ := h.form
  generalize fs.length = m at hform
  subst hform
  clear hK hW h hcap hle hq hb1
  go_enter Tryz.func33, Tryz.ntmps33
  go_wp2_with (fail)
  go_at_call 60
  refine HC.out.mono ?_
  rintro e w2 ⟨n, rfl, hn, hb⟩
  have HB2 := Lib.hid (HB1.out.trans (hb.mono HB1.out.size))
  have hqn : q = (n == 0) := by
    rw [Bool.eq_iff_iff, HQ.out, ← hn, beq_iff_eq]
  have HQN := Lib.hid hqn
  clear hb hn hqn
  by_cases e : n = 0
  · subst e
    have : q = true := by rw [HQN.out]; rfl
    subst this
    go_wp2_with (fail)
    go_ret
    exact ⟨rfl, HB2.out⟩
  · have : q = false := by rw [HQN.out]; exact neI e
    subst this
    have e := neI e
    go_wp2_with (fail)
    go_ret
    exact ⟨by simp [e], HB2.out⟩
end Go.Proofs.YtpnliencahnmoaaGreatDoor

set_option linter.unusedVariables false
set_option linter.unusedSimpArgs false
set_option maxRecDepth 100000
namespace Go.Proofs.YtpnliencahnmoaaGreatDoor
open Go.RowKit
/-- behind a statement: it may have said one more -/
structure Cv1 (s s1 : Cm) : Prop where
  ok : CmOk s1
  left : s1.left ≤ s.left
  said : s1.said.length + s1.left ≤ s.said.length + s.left + 1
  trace : s1.trace = s.trace
theorem Cv.one {a b : Cm} (h : Cv a b) : Cv1 a b := ⟨h.ok, h.left, by have := h.said; omega, h.trace⟩
theorem Cv1.tick {a c : Cm} (h0 : a.left ≠ 0) (k : Cv1 a.tick c) : Cv a c := ⟨k.ok, by have h1 := k.left; have h2 : a.tick.left = a.left - 1 := rfl; omega, by
  have h1 := k.said
  have h2 : a.tick.left = a.left - 1 := rfl
  have h3 : a.tick.said = a.said := rfl
  rw [h2, h3] at h1; omega, k.trace⟩
theorem CmOk.tick {s : Cm} (h : CmOk s) : CmOk s.tick := ⟨h.cells, h.cellsS, h.saidS⟩
def GoodS (env : Env) (x : St) (s : Cm) : Rb → Prop
  | .go e1 s1 => e1.map Prod.fst = innOf (env.map Prod.fst) x ∧ EnvOk e1 ∧ Cv1 s s1
  | .back v s1 => v < 256 ∧ Cv1 s s1
  | .stop e s1 => (1 ≤ e ∧ e ≤ 3) ∧ Cv1 s s1
def GoodB (env : Env) (s : Cm) : Rb → Prop
  | .go e1 s1 => (∃ pre, e1.map Prod.fst = pre ++ env.map Prod.fst) ∧ EnvOk e1 ∧ Cv s s1
  | .back v s1 => v < 256 ∧ Cv s s1
  | .stop e s1 => (1 ≤ e ∧ e ≤ 3) ∧ Cv s s1
theorem Env.set_names (e : Env) (x : ByteArray) (v : Nat) : (e.set x v).map Prod.fst = e.map Prod.fst := by
  induction e with
  | nil => rfl
  | cons p r ih =>
    obtain ⟨y, u⟩ := p
    unfold Env.set
    split
    · rfl
    · simp [ih]
theorem EnvOk.set {e : Env} (h : EnvOk e) (x : ByteArray) {v : Nat} (hv : v < 256) : EnvOk (e.set x v) := by
  induction e with
  | nil => exact h
  | cons p r ih =>
    obtain ⟨y, u⟩ := p
    unfold Env.set
    have hr : EnvOk r := fun q hq => h q (List.mem_cons_of_mem _ hq)
    split
    · intro q hq
      rcases List.mem_cons.1 hq with rfl | hq
      · exact hv
      · exact hr q hq
    · intro q hq
      rcases List.mem_cons.1 hq with rfl | hq
      · exact h _ List.mem_cons_self
      · exact ih hr q hq
theorem cut_names {e1 env : Env} {pre : List ByteArray} (h : e1.map Prod.fst = pre ++ env.map Prod.fst) : (e1.cut env.length).map Prod.fst = env.map Prod.fst := by
  have hl := congrArg List.length h
  simp only [List.length_map, List.length_append] at hl
  unfold Env.cut
  rw [List.map_drop, h, show e1.length - env.length = pre.length by omega]
  simp
theorem EnvOk.cut {e : Env} (h : EnvOk e) (n : Nat) : EnvOk (e.cut n) := fun p hp => h p (List.mem_of_mem_drop hp)
theorem innOf_sub {inn : List ByteArray} {x : St} {y : ByteArray} (h : y ∈ inn) : y ∈ innOf inn x := by
  unfold innOf; split
  · exact List.mem_cons_of_mem _ h
  · exact h
variable {isN : ByteArray → Bool}
/-- what is asked of statements: each comes to an end -/
def EndS (fs : List Fx) (f : List ByteArray → St → Bool) (ok : St → Bool) (out : List ByteArray) : Prop :=
  ∀ inn x env s, ok x = true → f inn x = true → (∀ y ∈ inn ++ out, y ∈ env.map Prod.fst) → EnvOk env → CmOk s → ∃ g r, evS fs g x env s = some r ∧ GoodS env x s r
theorem ends_b {fs : List Fx} {f : List ByteArray → St → Bool} {ok : St → Bool} {out : List ByteArray} (hS : EndS fs f ok out) :
    ∀ (l : List St) (inn : List ByteArray) (env : Env) (s : Cm), (∀ x ∈ l, ok x = true) → chkL f inn l = true → (∀ y ∈ inn ++ out, y ∈ env.map Prod.fst) → EnvOk env → CmOk s → ∃ g r, evB fs g l env s = some r ∧ GoodB env s r := by
  intro l
  induction l with
  | nil => intro inn env s _ _ _ hE hs; exact ⟨1, .go env s, by simp [evB], ⟨[], rfl⟩, hE, Cv.refl hs⟩
  | cons x l ih =>
    intro inn env s hok hf hN hE hs
    unfold chkL at hf
    simp only [Bool.and_eq_true] at hf
    by_cases h0 : s.left = 0
    · exact ⟨1, .stop 3 s, by simp [evB, h0], ⟨by omega, by omega⟩, Cv.refl hs⟩
    obtain ⟨g1, r1, e1, q1⟩ := hS inn x env s.tick (hok x List.mem_cons_self) hf.1 hN hE hs.tick
    cases r1 with
    | back v s1 => exact ⟨g1 + 1, .back v s1, by simp [evB, h0, e1], q1.1, q1.2.tick h0⟩
    | stop e s1 => exact ⟨g1 + 1, .stop e s1, by simp [evB, h0, e1], q1.1, q1.2.tick h0⟩
    | go env1 s1 =>
      obtain ⟨p1, p2, p3⟩ := q1
      have hc := p3.tick h0
      have hN2 : ∀ y ∈ innOf inn x ++ out, y ∈ env1.map Prod.fst := fun y hy => by
        rw [p1]
        rcases List.mem_append.1 hy with hy | hy
        · unfold innOf at hy ⊢
          split
          · rename_i h1; rw [if_pos h1] at hy
            rcases List.mem_cons.1 hy with rfl | hy
            · exact List.mem_cons_self
            · exact List.mem_cons_of_mem _ (hN y (List.mem_append_left _ hy))
          · rename_i h1; rw [if_neg h1] at hy
            exact hN y (List.mem_append_left _ hy)
        · exact innOf_sub (hN y (List.mem_append_right _ hy))
      obtain ⟨g2, r2, e2, q2⟩ := ih (innOf inn x) env1 s1 (fun y hy => hok y (List.mem_cons_of_mem _ hy)) hf.2 hN2 p2 hc.ok
      have a1 := evS_le (Nat.le_max_left g1 g2) e1
      have a2 := evB_le (Nat.le_max_right g1 g2) e2
      have hpre : ∃ pre, env1.map Prod.fst = pre ++ env.map Prod.fst := by
        rw [p1]; unfold innOf; split
        · exact ⟨[x.name], rfl⟩
        · exact ⟨[], rfl⟩
      refine ⟨max g1 g2 + 1, r2, by simp [evB, h0, a1, a2], ?_⟩
      cases r2 with
      | go env2 s2 =>
        obtain ⟨⟨pre2, w1⟩, w2, w3⟩ := q2
        obtain ⟨pre, hp⟩ := hpre
        exact ⟨⟨pre2 ++ pre, by rw [w1, hp, List.append_assoc]⟩, w2, hc.trans w3⟩
      | back v s2 => exact ⟨q2.1, hc.trans q2.2⟩
      | stop e s2 => exact ⟨q2.1, hc.trans q2.2⟩
/-- a loop comes to an end, if its body does -/
theorem ends_w {fs : List Fx} {c : Ex} {body : List St} {ns : List ByteArray} (hc : ∀ env s, env.map Prod.fst = ns → EnvOk env → CmOk s → ∃ g r, evE fs g c env s = some r ∧ GoodE s r)
    (hb : ∀ env s, env.map Prod.fst = ns → EnvOk env → CmOk s → ∃ g r, evB fs g body env s = some r ∧ GoodB env s r) :
    ∀ (n : Nat) (env : Env) (s : Cm), s.left ≤ n → env.map Prod.fst = ns → EnvOk env → CmOk s → ∃ g r, evW fs g c body env s = some r ∧ (match r with | .go e1 s1 => e1.map Prod.fst = ns ∧ EnvOk e1 ∧ Cv s s1 | .back v s1 => v < 256 ∧ Cv s s1 | .stop e s1 => (1 ≤ e ∧ e ≤ 3) ∧ Cv s s1) := by
  intro n
  induction n with
  | zero =>
    intro env s hn hN hE hs
    obtain ⟨g1, r1, e1, q1⟩ := hc env s hN hE hs
    cases r1 with
    | stop e s1 => exact ⟨g1 + 1, .stop e s1, by simp [evW, e1], q1⟩
    | ret v s1 =>
      by_cases hv : v = 0
      · exact ⟨g1 + 1, .go env s1, by simp [evW, e1, hv], hN, hE, q1.2⟩
      obtain ⟨g2, r2, e2, q2⟩ := hb env s1 hN hE q1.2.ok
      have a1 := evE_le (Nat.le_max_left g1 g2) e1
      have a2 := evB_le (Nat.le_max_right g1 g2) e2
      cases r2 with
      | back v s2 => exact ⟨max g1 g2 + 1, .back v s2, by simp [evW, a1, a2, hv], q2.1, q1.2.trans q2.2⟩
      | stop e s2 => exact ⟨max g1 g2 + 1, .stop e s2, by simp [evW, a1, a2, hv], q2.1, q1.2.trans q2.2⟩
      | go env2 s2 =>
        have h0 : s2.left = 0 := by have h1 := q1.2.left; have h2 := q2.2.2.left; omega
        exact ⟨max g1 g2 + 1, .stop 3 s2, by simp [evW, a1, a2, hv, h0], ⟨by omega, by omega⟩, q1.2.trans q2.2.2⟩
  | succ n ih =>
    intro env s hn hN hE hs
    obtain ⟨g1, r1, e1, q1⟩ := hc env s hN hE hs
    cases r1 with
    | stop e s1 => exact ⟨g1 + 1, .stop e s1, by simp [evW, e1], q1⟩
    | ret v s1 =>
      by_cases hv : v = 0
      · exact ⟨g1 + 1, .go env s1, by simp [evW, e1, hv], hN, hE, q1.2⟩
      obtain ⟨g2, r2, e2, q2⟩ := hb env s1 hN hE q1.2.ok
      have a1 := evE_le (Nat.le_max_left g1 g2) e1
      have a2 := evB_le (Nat.le_max_right g1 g2) e2
      cases r2 with
      | back v s2 => exact ⟨max g1 g2 + 1, .back v s2, by simp [evW, a1, a2, hv], q2.1, q1.2.trans q2.2⟩
      | stop e s2 => exact ⟨max g1 g2 + 1, .stop e s2, by simp [evW, a1, a2, hv], q2.1, q1.2.trans q2.2⟩
      | go env2 s2 =>
        obtain ⟨⟨pre, w1⟩, w2, w3⟩ := q2
        have hcv := q1.2.trans w3
        by_cases h0 : s2.left = 0
        · exact ⟨max g1 g2 + 1, .stop 3 s2, by simp [evW, a1, a2, hv, h0], ⟨by omega, by omega⟩, hcv⟩
        have hcut := cut_names w1
        have htl : s2.tick.left = s2.left - 1 := rfl
        have hts : s2.tick.said = s2.said := rfl
        obtain ⟨g3, r3, e3, q3⟩ := ih (env2.cut env.length) s2.tick (by have := hcv.left; omega) (by rw [hcut]; exact hN) (w2.cut _) w3.ok.tick
        have b1 := evE_le (Nat.le_max_left g1 (max g2 g3)) e1
        have b2 := evB_le (Nat.le_trans (Nat.le_max_left g2 g3) (Nat.le_max_right g1 (max g2 g3))) e2
        have b3 := evW_le (Nat.le_trans (Nat.le_max_right g2 g3) (Nat.le_max_right g1 (max g2 g3))) e3
        have hct : Cv s s2.tick := ⟨w3.ok.tick, by have := hcv.left; omega, by have := hcv.said; rw [htl, hts]; omega, hcv.trace⟩
        refine ⟨max g1 (max g2 g3) + 1, r3, by simp [evW, b1, b2, hv, h0, b3], ?_⟩
        cases r3 with
        | go env3 s3 => exact ⟨q3.1, q3.2.1, hct.trans q3.2.2⟩
        | back v s3 => exact ⟨q3.1, hct.trans q3.2⟩
        | stop e s3 => exact ⟨q3.1, hct.trans q3.2⟩
theorem ends_s {fs : List Fx} {k : Nat} (hC : CallsEnd fs k) : ∀ d out, EndS fs (chkS fs k d · out ·) (stOk isN d) out := by
  intro d
  induction d with
  | zero => intro out inn x env s h; simp [stOk] at h
  | succ d ih =>
    intro out inn x env s h hf hN hE hs
    obtain ⟨op, name, args, body, els⟩ := x
    unfold stOk at h
    unfold chkS at hf
    simp only [Bool.and_eq_true, decide_eq_true_eq, List.all_eq_true] at h hf
    obtain ⟨⟨⟨⟨⟨⟨⟨⟨hop, hal⟩, hnm⟩, hav⟩, h8⟩, hel⟩, hbl⟩, hbo⟩, heo⟩ := h
    obtain ⟨⟨⟨⟨hca, hlet⟩, hset⟩, hcb⟩, hce⟩ := hf
    simp only [St.args, St.op, St.name, St.body, St.els] at hca hlet hset hcb hce
    have hX : ∀ e ∈ args, ∀ env s, (∀ y ∈ inn ++ out, y ∈ env.map Prod.fst) → EnvOk env → CmOk s → ∃ g r, evE fs g e env s = some r ∧ GoodE s r := fun e he env s hN hE hs => by
      have := hav e he
      unfold exVal at this
      simp only [Bool.and_eq_true] at this
      exact ends_e hC hN hE 6 e s this.1 (hca e he) hs
    have hinn : op ≠ 1 → innOf inn (.mk op name args body els) = inn := fun h => if_neg h
    have hBl : op ≠ 1 → ∀ l, (∀ x ∈ l, stOk isN d x = true) → chkL (fun i y => chkS fs k d i (innOf inn (.mk op name args body els) ++ out) y) [] l = true → ∀ env s, (∀ y ∈ inn ++ out, y ∈ env.map Prod.fst) → EnvOk env → CmOk s → ∃ g r, evB fs g l env s = some r ∧ GoodB env s r := fun h1 l hl hc env s hN hE hs => by
      rw [hinn h1] at hc
      exact ends_b (ih (inn ++ out)) l [] env s hl hc (by simpa using hN) hE hs
    by_cases o6 : op = 6
    · subst o6
      rw [if_neg (by decide)] at hal
      match args, hal, hX with
      | [c], _, hX =>
        have hsub : ∀ (e : Env), e.map Prod.fst = env.map Prod.fst → ∀ y ∈ inn ++ out, y ∈ e.map Prod.fst := fun e he y hy => by rw [he]; exact hN y hy
        obtain ⟨g1, r1, e1, q1⟩ := ends_w (ns := env.map Prod.fst) (fun e s he hE hs => hX c (by simp) e s (hsub e he) hE hs) (fun e s he hE hs => hBl (by decide) body hbo hcb e s (hsub e he) hE hs) s.left env s (Nat.le_refl _) rfl hE hs
        refine ⟨g1 + 1, r1, by simp [evS, e1], ?_⟩
        cases r1 with
        | go e1 s1 => exact ⟨q1.1, q1.2.1, q1.2.2.one⟩
        | back v s1 => exact ⟨q1.1, q1.2.one⟩
        | stop e s1 => exact ⟨q1.1, q1.2.one⟩
      | [], h, _ => simp at h
      | _ :: _ :: _, h, _ => simp at h
    match args, hal, hX with
    | [], h, _ => split at h <;> simp at h
    | a :: rest, hal, hX =>
      obtain ⟨g1, r1, e1, q1⟩ := hX a (by simp) env s hN hE hs
      cases r1 with
      | stop e s1 => exact ⟨g1 + 1, .stop e s1, by simp [evS, e1, o6], q1.1, q1.2.one⟩
      | ret v s1 =>
        obtain ⟨hv, hc1⟩ := q1
        by_cases o1 : op = 1
        · subst o1
          refine ⟨g1 + 1, .go ((name, v) :: env) s1, by simp [evS, e1], by simp [innOf, St.op, St.name], fun p hp => ?_, hc1.one⟩
          rcases List.mem_cons.1 hp with rfl | hp
          · exact hv
          · exact hE p hp
        by_cases o2 : op = 2
        · subst o2
          simp only [if_true] at hset
          obtain ⟨u, g2, _⟩ := Env.get_some (hN name (memB_iff.1 hset))
          exact ⟨g1 + 1, .go (env.set name v) s1, by simp [evS, e1, g2], by simp [innOf, St.op, Env.set_names], hE.set _ hv, hc1.one⟩
        by_cases o3 : op = 3
        · subst o3
          refine ⟨g1 + 1, .go env { s1 with said := s1.said ++ [v] }, by simp [evS, e1], by simp [innOf, St.op], hE, ⟨hc1.ok.cells, hc1.ok.cellsS, hc1.ok.saidS.snoc _ hv⟩, hc1.left, ?_, hc1.trace⟩
          have := hc1.said
          simp only [List.length_append, List.length_cons, List.length_nil]
          omega
        by_cases o4 : op = 4
        · subst o4
          simp only [if_true] at hal
          match rest, hal, hX with
          | [b], _, hX =>
            obtain ⟨g2, r2, e2, q2⟩ := hX b (by simp) env s1 hN hE hc1.ok
            have a1 := evE_le (Nat.le_max_left g1 g2) e1
            have a2 := evE_le (Nat.le_max_right g1 g2) e2
            cases r2 with
            | stop e s2 => exact ⟨max g1 g2 + 1, .stop e s2, by simp [evS, a1, a2], q2.1, (hc1.trans q2.2).one⟩
            | ret u s2 =>
              by_cases c : 16 ≤ v
              · exact ⟨max g1 g2 + 1, .stop 2 s2, by simp [evS, a1, a2, c], ⟨by omega, by omega⟩, (hc1.trans q2.2).one⟩
              · have hcc := hc1.trans q2.2
                exact ⟨max g1 g2 + 1, .go env { s2 with cells := s2.cells.set v u }, by simp [evS, a1, a2, c], by simp [innOf, St.op], hE, ⟨⟨by simp [hcc.ok.cells], hcc.ok.cellsS.set _ _ q2.1, hcc.ok.saidS⟩, hcc.left, by have := hcc.said; simp only []; omega, hcc.trace⟩⟩
          | [], h, _ => simp at h
          | _ :: _ :: _, h, _ => simp at h
        by_cases o5 : op = 5
        · subst o5
          have hq : ∃ g r, evB fs g (if v = 0 then els else body) env s1 = some r ∧ GoodB env s1 r := by
            by_cases c : v = 0
            · rw [if_pos c]; exact hBl (by decide) els heo hce env s1 hN hE hc1.ok
            · rw [if_neg c]; exact hBl (by decide) body hbo hcb env s1 hN hE hc1.ok
          obtain ⟨g2, r2, e2, q2⟩ := hq
          have a1 := evE_le (Nat.le_max_left g1 g2) e1
          have a2 := evB_le (Nat.le_max_right g1 g2) e2
          cases r2 with
          | go env2 s2 =>
            obtain ⟨⟨pre, w1⟩, w2, w3⟩ := q2
            exact ⟨max g1 g2 + 1, .go (env2.cut env.length) s2, by simp [evS, a1, a2], by simp [innOf, St.op, cut_names w1], w2.cut _, (hc1.trans w3).one⟩
          | back u s2 => exact ⟨max g1 g2 + 1, .back u s2, by simp [evS, a1, a2], q2.1, (hc1.trans q2.2).one⟩
          | stop e s2 => exact ⟨max g1 g2 + 1, .stop e s2, by simp [evS, a1, a2], q2.1, (hc1.trans q2.2).one⟩
        by_cases o7 : op = 7
        · subst o7
          exact ⟨g1 + 1, .back v s1, by simp [evS, e1], hv, hc1.one⟩
        obtain rfl : op = 8 := by omega
        exact ⟨g1 + 1, .go env s1, by simp [evS, e1], by simp [innOf, St.op], hE, hc1.one⟩
/-- every call of a fine program comes to an end -/
theorem ends_c {fs : List Fx} (hF : prFine isN fs) : ∀ k, CallsEnd fs k := by
  intro k
  induction k with
  | zero => intro j hj; omega
  | succ k ih =>
    intro j hj f hfj vs s hl hv hs
    rcases Nat.lt_or_ge j k with h | h
    · exact ih j h f hfj vs s hl hv hs
    obtain rfl : j = k := by omega
    have hc := hF.2 j f hfj
    have hv1 := hF.1
    unfold prVal at hv1
    unfold chkF at hc
    simp only [Bool.and_eq_true, decide_eq_true_eq, List.all_eq_true] at hv1 hc
    have hfo := hv1.1.2 f (List.mem_of_getElem? hfj)
    unfold fxOk at hfo
    simp only [Bool.and_eq_true, decide_eq_true_eq, List.all_eq_true] at hfo
    have hn : (f.params.zip vs).reverse.map Prod.fst = f.params.reverse := by
      rw [List.map_reverse, List.map_fst_zip (by omega)]
    obtain ⟨g1, r1, e1, q1⟩ := ends_b (ends_s (isN := isN) ih 4 []) f.body f.params.reverse (f.params.zip vs).reverse s hfo.2 hc.2 (fun y hy => by rw [hn]; simpa using hy) (fun p hp => by
      have hp2 := List.mem_reverse.1 hp
      exact hv p.2 (List.of_mem_zip hp2).2) hs
    cases r1 with
    | go env1 s1 => exact ⟨g1 + 1, .ret 0 s1, by simp [evC, hfj, hl, e1], by omega, q1.2.2⟩
    | back v s1 => exact ⟨g1 + 1, .ret v s1, by simp [evC, hfj, hl, e1], q1⟩
    | stop e s1 => exact ⟨g1 + 1, .stop e s1, by simp [evC, hfj, hl, e1], q1⟩
end Go.Proofs.YtpnliencahnmoaaGreatDoor
