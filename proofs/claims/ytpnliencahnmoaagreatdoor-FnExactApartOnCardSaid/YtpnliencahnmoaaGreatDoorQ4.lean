/- The program's expressions: impl.levelOf, exprSize, ExprValid. -/
import Derived.Test.YtpnliencahnmoaaGreatDoorQ2
import Derived.Test.YtpnliencahnmoaaGreatDoorQ3
import Derived.Maps.OwnOps
set_option linter.unusedVariables false
set_option linter.unusedSimpArgs false
set_option linter.unusedVariables false
set_option linter.unusedSimpArgs false
set_option maxRecDepth 100000
namespace Go.Proofs.YtpnliencahnmoaaGreatDoor
open Go.RowKit
/-- a number that a word holds -/
def I64 (z : Int) : Prop := -9223372036854775808 ≤ z ∧ z ≤ 9223372036854775807
/-- the levels of the ops between two -/
def levN (op : Int) : Int := if op = 3 ∨ op = 4 then 3 else if op = 5 ∨ op = 6 ∨ op = 7 then 4 else if op = 8 ∨ op = 9 then 2 else if op = 10 then 1 else 0
def levI (op : Int) : Int := if 0 < levN op then levN op else if op = 11 ∨ op = 12 then 5 else 6
theorem levN_pos {op : Int} : 0 < levN op ↔ 3 ≤ op ∧ op ≤ 10 := by
  unfold levN
  repeat' split
  all_goals omega
theorem levN_0 {op : Int} (h : ¬ (3 ≤ op ∧ op ≤ 10)) : levN op = 0 := by
  unfold levN
  repeat' split
  all_goals omega
theorem levN_le (op : Int) : levN op ≤ 4 := by
  unfold levN
  repeat' split
  all_goals omega
/-- the table of ops lies in the variable -/
def OpsM (bm : Nat) (w : World) : Prop := bm < w.heap.size ∧ ∀ w' : World, w'.heap[bm]? = w.heap[bm]? → ∀ op : Int, I64 op → ∃ sg : ByteArray, (Instr.lookup 238 (.map (some bm)) (.int .i64 op) false).run Tryz.prog w' = .ok (.agg #[.string sg, .int .i64 (levN op)]) w'
def OpsAt (w : World) : Prop := ∃ bm, w.cell? ⟨2, 0, none⟩ = some (.map (some bm)) ∧ OpsM bm w
theorem OpsM.below {bm : Nat} {w w' : World} (h : OpsM bm w) (hb : Below w.heap.size w w') : OpsM bm w' :=
  ⟨Nat.lt_of_lt_of_le h.1 hb.size, fun w2 h2 => h.2 w2 (h2.trans (hb.block bm h.1))⟩
theorem OpsAt.below {w w' : World} (h : OpsAt w) (hb : Below w.heap.size w w') : OpsAt w' := by
  obtain ⟨bm, c, h⟩ := h
  exact ⟨bm, cellB hb c, h.below hb⟩
/-- the variables that are read -/
def KS (w : World) : Prop := KeysAt w ∧ OpsAt w
theorem KS.below {w w' : World} (h : KS w) (hb : Below w.heap.size w w') : KS w' := ⟨h.1.below hb, h.2.below hb⟩
theorem wpList_ops (w : World) {ops : Array Oper} {rest : List Oper} {o : Oper} {a : Act} {Q : Exit → Act → World → Prop} (hg : o.guard = none) (m x : Operand) (hop : o.op = Op.lookup 238 m x false) (bm : Nat) (h : OpsM bm w) (hm : a.eval m = .map (some bm)) (op : Int) (hx : a.eval x = .int .i64 op) (hw : I64 op)
    (hK : ∀ sg, wpList Tryz.prog ops Q rest (a.put o.dst (.agg #[.string sg, .int .i64 (levN op)])) w) : wpList Tryz.prog ops Q (o :: rest) a w := by
  refine wpList_plain hg fun K' hK' => ?_
  obtain ⟨sg, hrun⟩ := h.2 w rfl op hw
  unfold Oper.wp
  simp [execOp, hop, hm, hx, hrun, Result.andThen]
  exact hK' _ _ (hK sg)
theorem fld_lev (a : ByteArray) (b : Int) (w : World) : (Instr.field 237 (.agg #[.string a, .int .i64 b]) 1).run Tryz.prog w = .ok (.int .i64 b) w := by kernel_rfl
set_option maxHeartbeats 1000000 in
theorem levelOf_any (w : World) (op : Int) (hK : OpsAt w) (hw : I64 op) : Calls Tryz.prog 215 #[.int .i64 op] w fun e w' => e = .returned (.int .i64 (levI op)) ∧ w = w' := by
  have hfl := fld_lev
  obtain ⟨bm, x0, hM⟩ := hK
  have HM := Lib.hid hM
  have HW := Lib.hid hw
  clear hM hw
  by_cases h : 3 ≤ op ∧ op ≤ 10
  · have h0 := levN_pos.2 h
    have e : levI op = levN op := if_pos h0
    rw [e]
    obtain ⟨l, hl⟩ : ∃ l, l = levN op := ⟨_, rfl⟩
    rw [← hl] at h0 ⊢
    have HL := Lib.hid hl
    clear h hl e
    go_enter Tryz.func215, Tryz.ntmps215
    go_wp2_with (at_lookup; refine wpList_ops _ rfl _ _ rfl bm HM.out rfl op rfl HW.out ?_; intro sg; rw [← HL.out])
    go_ret
    exact ⟨rfl, rfl⟩
  · have h0 := levN_0 h
    obtain ⟨l, hl⟩ : ∃ l, l = levI op := ⟨_, rfl⟩
    rw [← hl]
    have HL := Lib.hid h0
    by_cases h11 : op = 11
    · subst h11
      have : l = 5 := by rw [hl]; rfl
      subst this
      clear h hl h0
      go_enter Tryz.func215, Tryz.ntmps215
      go_wp2_with (at_lookup; refine wpList_ops _ rfl _ _ rfl bm HM.out rfl 11 rfl HW.out ?_; intro sg; rw [HL.out])
      go_ret
      exact ⟨rfl, rfl⟩
    · by_cases h12 : op = 12
      · subst h12
        have : l = 5 := by rw [hl]; rfl
        subst this
        clear h hl h0 h11
        go_enter Tryz.func215, Tryz.ntmps215
        go_wp2_with (at_lookup; refine wpList_ops _ rfl _ _ rfl bm HM.out rfl 12 rfl HW.out ?_; intro sg; rw [HL.out])
        go_ret
        exact ⟨rfl, rfl⟩
      · have : l = 6 := by rw [hl]; unfold levI; rw [h0]; simp [h11, h12]
        subst this
        have h11 := neI h11
        have h12 := neI h12
        clear h hl h0
        go_enter Tryz.func215, Tryz.ntmps215
        go_wp2_with (at_lookup; refine wpList_ops _ rfl _ _ rfl bm HM.out rfl op rfl HW.out ?_; intro sg; rw [HL.out])
        go_ret
        exact ⟨rfl, rfl⟩
set_option maxHeartbeats 1000000 in
theorem isByte_any (w : World) (z : Int) (q : Bool) (hq : inR 0 255 z = q) : Calls Tryz.prog 115 #[.int .i64 z] w (EqW q w) := by
  have HW := Lib.hid (within_named z 0 255 q hq)
  clear hq
  go_enter Tryz.func115, Tryz.ntmps115
  go_wp2_with (fail)
  go_at_call 39
  refine (HW.out _).mono ?_
  rintro e _ ⟨rfl, rfl⟩
  go_wp2_with (fail)
  go_ret
  exact ⟨rfl, rfl⟩
/-- all ops are numbers that a word holds -/
inductive ExW : Ex → Prop where
  | mk {op n : Int} {name : ByteArray} {kids : List Ex} (h : I64 op) (hk : ∀ k ∈ kids, ExW k) : ExW (.mk op n name kids)
theorem ExW.kids {e : Ex} (h : ExW e) : ∀ k ∈ e.kids, ExW k := by cases h; assumption
theorem ExW.op {e : Ex} (h : ExW e) : I64 e.op := by cases h; assumption
theorem exOk_m (isN : ByteArray → Bool) (m : Nat) (op n : Int) (name : ByteArray) (kids : List Ex) :
    exOk isN m (.mk op n name kids) = (decide (0 < m) && (inR 1 13 op && inR (kidsN op).1 (kidsN op).2 kids.length && (if decide (op = 2 ∨ op = 13) = true then isN name else decide (name = ByteArray.empty)) && inR 0 255 n && ((op == 1) || (n == 0)) && kids.all (exOk isN (m - 1)))) := by
  cases m with
  | zero => simp [exOk]
  | succ m => rw [exOk_eq, Nat.add_sub_cancel]; simp
def sumP (m : Nat) (l : List Ex) : Nat := (l.map (exParts m)).sum
theorem exParts_m {m : Nat} (h : 0 < m) (op n : Int) (name : ByteArray) (kids : List Ex) : exParts m (.mk op n name kids) = 1 + sumP (m - 1) kids := by
  cases m with
  | zero => omega
  | succ m => rw [Nat.add_sub_cancel]; rfl
theorem sumP_take {m : Nat} {l : List Ex} {k : Nat} {x : Ex} (h : l[k]? = some x) : sumP m (l.take (k + 1)) = sumP m (l.take k) + exParts m x := by
  unfold sumP
  rw [List.take_add_one, h]; simp
theorem sumP_ge {m : Nat} {l : List Ex} {x : Ex} (h : x ∈ l) : exParts m x ≤ sumP m l := by
  unfold sumP
  induction l with
  | nil => cases h
  | cons y r ih =>
    rw [List.map_cons, List.sum_cons]
    rcases List.mem_cons.1 h with rfl | h
    · omega
    · have := ih h; omega
/-- how exprSize answers -/
def SizP (m : Nat) (e : Ex) (w : World) (en : Ending) (w' : World) : Prop :=
  ∃ (a b : Int) (q : Bool), en = .returned (.tuple #[.int .i64 a, .int .i64 b, .bool q]) ∧ q = (exOk isNB m e && decide (exParts m e ≤ 30)) ∧ (q = true → a = exParts m e ∧ 0 ≤ b ∧ b ≤ m) ∧ Below w.heap.size w w'
theorem SizP.no {m : Nat} {e : Ex} {w w' : World} (h : exOk isNB m e = false) (hb : Below w.heap.size w w') : SizP m e w (.returned (.tuple #[.int .i64 0, .int .i64 0, .bool false])) w' :=
  ⟨0, 0, false, rfl, by rw [h]; rfl, (fun h => by cases h), hb⟩
theorem levI_lt {op : Int} (h : 3 ≤ op ∧ op ≤ 12) : levI op < 6 := by
  unfold levI
  have h1 := levN_le op
  by_cases h2 : op ≤ 10
  · rw [if_pos (levN_pos.2 ⟨h.1, h2⟩)]; omega
  · rw [levN_0 (by omega), if_neg (by omega), if_pos (by omega)]; omega
theorem nonE0 {l : List UInt8} (h : ¬ l = []) : l.isEmpty = false := by cases l <;> simp_all
set_option maxHeartbeats 8000000 in
theorem exprSize_any : ∀ (m : Nat) (e : Ex) (w : World) (kv : Value), m ≤ 6 → KS w → ExW e → e.name.size ≤ big → ExsAt w kv e.kids →
    Calls Tryz.prog 209 #[.agg #[.int .i64 e.op, .int .i64 e.n, .string e.name, kv], .int .i64 (m : Int)] w (SizP m e w) := by
  intro m
  induction m using Nat.strongRecOn with
  | ind m ih =>
  intro e w kv hm hK hWk hz hkv
  obtain ⟨op, n, name, kids⟩ := e
  have HW := Lib.hid hWk.op
  simp only [Ex.op, Ex.n, Ex.name, Ex.kids] at HW hz hkv ⊢
  obtain ⟨a, cap, hform⟩ := hkv.form
  obtain ⟨kn, hlen⟩ : ∃ l, l = kids.length := ⟨_, rfl⟩
  have hknb : kn ≤ big := by rw [hlen]; exact hkv.lens.1
  rw [← hlen] at hform
  subst hform
  have HIH := Lib.hid ih; have HKS := Lib.hid hK; have HWK := Lib.hid hWk; have HZ := Lib.hid hz; have HKV := Lib.hid hkv; have HLEN := Lib.hid hlen
  have hb0 := below1 w (.cells #[.int .i64 op, .int .i64 n, .string name, .slice a kn cap] 67)
  have HB0 := Lib.hid hb0
  have HK0 := Lib.hid (hK.below hb0)
  have hfl := fld_lev
  unfold big at hknb
  clear ih hK hWk hz hkv hlen hb0
  by_cases o1 : op = 1
  · subst o1
    have HKN : Hid (kidsN 1 = (0, 0)) := Lib.hid rfl
    obtain ⟨q1, hq1⟩ : ∃ q, inR 0 255 n = q := ⟨_, rfl⟩
    have HQ1 := Lib.hid hq1
    clear hq1
    go_enter Tryz.func209, Tryz.ntmps209
    go_wp2_with (fail)
    go_at_call 115
    refine (isByte_any _ _ q1 HQ1.out).mono ?_
    rintro e _ ⟨rfl, rfl⟩
    have HBZ := HB0
    have HKZ := HK0
    cases q1
    · go_wp2_with (fail)
      refine bodyPost_ret (v := .tuple #[.int .i64 0, .int .i64 0, .bool false]) (by simp [results, Tryz.results209, go_sem]) rfl ?_
      exact SizP.no (by rw [exOk_m]; rw [show inR 0 255 n = false from HQ1.out]; simp) HBZ.out
    · have HNR : Hid (inR 0 255 n = true) := HQ1
      by_cases hne : name.toList = []
      · have HNE : Hid (decide (name = ByteArray.empty) = true) := Lib.hid ((empty_iff rfl).1 hne)
        go_wp2_with (fail)
        go_at_call 215
        refine (levelOf_any _ _ HKZ.out.2 HW.out).mono ?_
        rintro e _ ⟨rfl, rfl⟩
        obtain ⟨q2, h2⟩ : ∃ q, inR 0 0 (kn : Int) = q := ⟨_, rfl⟩
        have HQ2 := Lib.hid h2
        clear h2
        go_wp2_with (fail)
        go_at_call 39
        refine (within_named _ _ _ q2 HQ2.out _).mono ?_
        rintro e _ ⟨rfl, rfl⟩
        cases q2
        · go_wp2_with (fail)
          refine bodyPost_ret (v := .tuple #[.int .i64 0, .int .i64 0, .bool false]) (by simp [results, Tryz.results209, go_sem]) rfl ?_
          exact SizP.no (by rw [exOk_m]; rw [HKN.out, ← HLEN.out]; dsimp only; rw [show inR ((0 : Nat) : Int) ((0 : Nat) : Int) (kn : Int) = false from HQ2.out]; simp) HBZ.out
        · by_cases hm0 : m = 0
          · subst hm0
            go_wp2_with (fail)
            refine bodyPost_ret (v := .tuple #[.int .i64 0, .int .i64 0, .bool false]) (by simp [results, Tryz.results209, go_sem]) rfl ?_
            exact SizP.no (by rw [exOk_m]; rfl) HBZ.out
          · have hm1 : ¬ (m : Int) < 1 := by omega
            have HOK : Hid (exOk isNB m (.mk 1 n name kids) = kids.all (exOk isNB (m - 1))) := Lib.hid (by rw [exOk_m, HKN.out, ← HLEN.out, decide_eq_true (show 0 < m by omega)]; simp only []; rw [show inR ((0 : Nat) : Int) ((0 : Nat) : Int) (kn : Int) = true from HQ2.out]; rw [show decide ((1 : Int) = 2 ∨ (1 : Int) = 13) = false from rfl, show inR 1 13 (1 : Int) = true from rfl, HNE.out, HNR.out]; simp)
            have hkn : kn ≤ 3 := by have := inR_iff.1 HQ2.out; omega
            have HM0 : Hid (0 < m) := Lib.hid (by omega)
            clear hm0
            go_wp2_with (fail)
            go_loopw [9, 10, 101] (fun pv dv i wr => ∃ (k pt : Nat) (dp : Int), k ≤ kn ∧ i = .int .i64 (k : Int) ∧ pv = .int .i64 (pt : Int) ∧ dv = .int .i64 dp ∧ 1 ≤ dp ∧ dp ≤ m ∧ pt ≤ 1 + 30 * k ∧ Hid ((kids.take k).all (exOk isNB (m - 1)) = true ∧ pt = 1 + sumP (m - 1) (kids.take k)) ∧ Hid (Below w.heap.size w wr)) (fun _ _ i _ => kn - (intOf i).toNat)
            case atStart => exact ⟨0, 1, 1, Nat.zero_le _, rfl, rfl, rfl, by omega, by have := HM0.out; omega, by omega, Lib.hid ⟨by simp, by simp [sumP]⟩, HBZ⟩
            case round =>
              obtain ⟨k, pt, dp, hk, rfl, rfl, rfl, hd1, hd2, hp1, hA, HBR⟩ := hrel
              by_cases hlt : k < kn
              · have hkl : k < kids.length := by rw [← HLEN.out]; exact hlt
                obtain ⟨x, hx⟩ : ∃ x, x = kids[k] := ⟨_, rfl⟩
                have hxk : kids[k]? = some x := by rw [hx]; exact List.getElem?_eq_getElem hkl
                obtain ⟨b, off, kv, rfl, hbl, e0, e1, e2, e3, hkx⟩ := HKV.out.get hxk
                have e0 := cellB HBR.out e0; have e1 := cellB HBR.out e1; have e2 := cellB HBR.out e2; have e3 := cellB HBR.out e3
                obtain ⟨ka, kc, hkf⟩ := hkx.form
                obtain ⟨kl, hkl2⟩ : ∃ l, l = x.kids.length := ⟨_, rfl⟩
                rw [← hkl2] at hkf
                subst hkf
                have HC : Hid (∀ w', Below w.heap.size w w' → Calls Tryz.prog 209 #[.agg #[.int .i64 x.op, .int .i64 x.n, .string x.name, .slice ka kl kc], .int .i64 ((m : Int) - 1)] w' (SizP (m - 1) x w')) := Lib.hid (fun w' hb => by
                  have := HIH.out (m - 1) (by have := HM0.out; omega) x w' _ (by omega) (HKS.out.below hb) (HWK.out.kids x (List.mem_of_getElem? hxk)) (HKV.out.lens.2 k x hxk) (hkx.dn hb)
                  rwa [show ((m - 1 : Nat) : Int) = (m : Int) - 1 by have := HM0.out; omega] at this)
                have HT := Lib.hid (all_take (exOk isNB (m - 1)) kids k x hxk)
                have HST := Lib.hid (sumP_take (m := m - 1) hxk)
                have HF := Lib.hid (fun h => all_false (exOk isNB (m - 1)) (List.mem_of_getElem? hxk) h)
                have HGE := Lib.hid (sumP_ge (m := m - 1) (List.mem_of_getElem? hxk))
                have k0 : (0 : Int) ≤ k := by omega
                have k1 : (k : Int) < kn := by omega
                clear hkl hx hxk hkx hkl2
                go_wp2_with (fail)
                go_at_call 209
                refine (HC.out _ (HBR.out.trans ((below1 _ _).mono HBR.out.size))).mono ?_
                rintro e w2 ⟨a2, b2, q, rfl, hq, hq2, hb⟩
                have HB2 : Hid (Below w.heap.size w w2) := Lib.hid ((HBR.out.trans ((below1 _ _).mono HBR.out.size)).trans (hb.mono (HBR.out.trans ((below1 _ _).mono HBR.out.size)).size))
                have HQ := Lib.hid hq
                cases q
                · clear hb hq hq2
                  go_wp2_with (fail)
                  refine bodyPost_ret (v := .tuple #[.int .i64 0, .int .i64 0, .bool false]) (by simp [results, Tryz.results209, go_sem]) rfl ?_
                  refine ⟨0, 0, false, rfl, ?_, (fun h => by cases h), HB2.out⟩
                  rw [HOK.out, exParts_m HM0.out]
                  cases hx : exOk isNB (m - 1) x
                  · rw [HF.out hx]; rfl
                  · have h30 := HQ.out
                    rw [hx, Bool.true_and] at h30
                    have h31 := of_decide_eq_false h30.symm
                    rw [decide_eq_false (by have := HGE.out; omega), Bool.and_false]
                · obtain ⟨rfl, hb0, hb1⟩ := hq2 rfl
                  obtain ⟨xp, hxp⟩ : ∃ p, p = exParts (m - 1) x := ⟨_, rfl⟩
                  have hq0 := hq
                  rw [← hxp] at hq0 ⊢
                  have HXP := Lib.hid hxp
                  have h30 : xp ≤ 30 := by
                    have := (Bool.and_eq_true _ _).mp hq0.symm
                    exact of_decide_eq_true this.2
                  have HXO : Hid (exOk isNB (m - 1) x = true) := Lib.hid ((Bool.and_eq_true _ _).mp hq0.symm).1
                  have hb3 : b2 ≤ (m : Int) - 1 := by have := HM0.out; omega
                  clear hb hq hq2 hq0 hxp hb1
                  have hmx : max dp (b2 + 1) ≤ m ∧ 1 ≤ max dp (b2 + 1) := by omega
                  go_wp2_with (fail)
                  go_roundw
                  case rel => exact ⟨k + 1, pt + xp, max dp (b2 + 1), by omega, by go_num, by go_num, by go_num, hmx.2, hmx.1, by omega, Lib.hid ⟨by rw [HT.out, hA.out.1, HXO.out]; rfl, by rw [HST.out, hA.out.2, HXP.out]; omega⟩, HB2⟩
                  case measure => simp [intOf]; omega
              · obtain rfl : k = kn := by omega
                have HAL : Hid (exOk isNB m (.mk 1 n name kids) = true) := Lib.hid (by have := hA.out.1; rw [HLEN.out, List.take_length] at this; rw [HOK.out]; exact this)
                have HPT : Hid (exParts m (.mk 1 n name kids) = pt) := Lib.hid (by rw [exParts_m HM0.out, hA.out.2, HLEN.out, List.take_length])
                have HDP := Lib.hid (And.intro hd1 hd2)
                clear hd1 hd2
                go_wp2_with (fail)
                refine bodyPost_ret (v := .tuple #[.int .i64 (pt : Int), .int .i64 dp, .bool (decide ((pt : Int) ≤ 30))]) (by simp [results, Tryz.results209, go_sem]) rfl ?_
                refine ⟨_, _, _, rfl, ?_, fun _ => ⟨by rw [HPT.out], by have := HDP.out; omega, by have := HDP.out; omega⟩, HBR.out⟩
                rw [HAL.out, HPT.out, Bool.true_and]
                exact decide_eq_decide.mpr (by omega)
      · have HNE : Hid (decide (name = ByteArray.empty) = false) := Lib.hid (by rw [← Bool.not_eq_true]; exact fun h => hne ((empty_iff rfl).2 h))
        have hne2 : name.toList.isEmpty = false := nonE0 hne
        go_wp2_with (fail)
        refine bodyPost_ret (v := .tuple #[.int .i64 0, .int .i64 0, .bool false]) (by simp [results, Tryz.results209, go_sem]) rfl ?_
        exact SizP.no (by rw [exOk_m]; rw [show decide ((1 : Int) = 2 ∨ (1 : Int) = 13) = false from rfl, HNE.out]; simp) HBZ.out
  by_cases o2 : op = 2
  · subst o2
    have HKN : Hid (kidsN 2 = (0, 0)) := Lib.hid rfl
    obtain ⟨q3, hq3⟩ : ∃ q, q = isNB name := ⟨_, rfl⟩
    have HQ3 := Lib.hid hq3
    clear hq3
    clear o1
    go_enter Tryz.func209, Tryz.ntmps209
    go_wp2_with (fail)
    go_at_call 133
    refine (isName_any _ name q3 HK0.out.1 HZ.out HQ3.out).mono ?_
    rintro e wn ⟨rfl, hbn⟩
    obtain ⟨c0, c1, c2, c3, hln, hbw⟩ := box4 hbn
    have HBZ := Lib.hid hbw
    have HKZ := Lib.hid (HKS.out.below hbw)
    clear hbn hbw
    cases q3
    · go_wp2_with (fail)
      refine bodyPost_ret (v := .tuple #[.int .i64 0, .int .i64 0, .bool false]) (by simp [results, Tryz.results209, go_sem]) rfl ?_
      exact SizP.no (by rw [exOk_m]; rw [show decide ((2 : Int) = 2 ∨ (2 : Int) = 13) = true from rfl, if_pos rfl, ← HQ3.out]; simp) HBZ.out
    · have HNB : Hid (isNB name = true) := Lib.hid HQ3.out.symm
      by_cases hn0 : n = 0
      · subst hn0
        go_wp2_with (fail)
        go_at_call 215
        refine (levelOf_any _ _ HKZ.out.2 HW.out).mono ?_
        rintro e _ ⟨rfl, rfl⟩
        obtain ⟨q2, h2⟩ : ∃ q, inR 0 0 (kn : Int) = q := ⟨_, rfl⟩
        have HQ2 := Lib.hid h2
        clear h2
        go_wp2_with (fail)
        go_at_call 39
        refine (within_named _ _ _ q2 HQ2.out _).mono ?_
        rintro e _ ⟨rfl, rfl⟩
        cases q2
        · go_wp2_with (fail)
          refine bodyPost_ret (v := .tuple #[.int .i64 0, .int .i64 0, .bool false]) (by simp [results, Tryz.results209, go_sem]) rfl ?_
          exact SizP.no (by rw [exOk_m]; rw [HKN.out, ← HLEN.out]; dsimp only; rw [show inR ((0 : Nat) : Int) ((0 : Nat) : Int) (kn : Int) = false from HQ2.out]; simp) HBZ.out
        · by_cases hm0 : m = 0
          · subst hm0
            go_wp2_with (fail)
            refine bodyPost_ret (v := .tuple #[.int .i64 0, .int .i64 0, .bool false]) (by simp [results, Tryz.results209, go_sem]) rfl ?_
            exact SizP.no (by rw [exOk_m]; rfl) HBZ.out
          · have hm1 : ¬ (m : Int) < 1 := by omega
            have HOK : Hid (exOk isNB m (.mk 2 0 name kids) = kids.all (exOk isNB (m - 1))) := Lib.hid (by rw [exOk_m, HKN.out, ← HLEN.out, decide_eq_true (show 0 < m by omega)]; simp only []; rw [show inR ((0 : Nat) : Int) ((0 : Nat) : Int) (kn : Int) = true from HQ2.out]; simp [inR, HNB.out])
            have hkn : kn ≤ 3 := by have := inR_iff.1 HQ2.out; omega
            have HM0 : Hid (0 < m) := Lib.hid (by omega)
            clear hm0
            go_wp2_with (fail)
            go_loopw [9, 10, 101] (fun pv dv i wr => ∃ (k pt : Nat) (dp : Int), k ≤ kn ∧ i = .int .i64 (k : Int) ∧ pv = .int .i64 (pt : Int) ∧ dv = .int .i64 dp ∧ 1 ≤ dp ∧ dp ≤ m ∧ pt ≤ 1 + 30 * k ∧ Hid ((kids.take k).all (exOk isNB (m - 1)) = true ∧ pt = 1 + sumP (m - 1) (kids.take k)) ∧ Hid (Below w.heap.size w wr)) (fun _ _ i _ => kn - (intOf i).toNat)
            case atStart => exact ⟨0, 1, 1, Nat.zero_le _, rfl, rfl, rfl, by omega, by have := HM0.out; omega, by omega, Lib.hid ⟨by simp, by simp [sumP]⟩, HBZ⟩
            case round =>
              obtain ⟨k, pt, dp, hk, rfl, rfl, rfl, hd1, hd2, hp1, hA, HBR⟩ := hrel
              by_cases hlt : k < kn
              · have hkl : k < kids.length := by rw [← HLEN.out]; exact hlt
                obtain ⟨x, hx⟩ : ∃ x, x = kids[k] := ⟨_, rfl⟩
                have hxk : kids[k]? = some x := by rw [hx]; exact List.getElem?_eq_getElem hkl
                obtain ⟨b, off, kv, rfl, hbl, e0, e1, e2, e3, hkx⟩ := HKV.out.get hxk
                have e0 := cellB HBR.out e0; have e1 := cellB HBR.out e1; have e2 := cellB HBR.out e2; have e3 := cellB HBR.out e3
                obtain ⟨ka, kc, hkf⟩ := hkx.form
                obtain ⟨kl, hkl2⟩ : ∃ l, l = x.kids.length := ⟨_, rfl⟩
                rw [← hkl2] at hkf
                subst hkf
                have HC : Hid (∀ w', Below w.heap.size w w' → Calls Tryz.prog 209 #[.agg #[.int .i64 x.op, .int .i64 x.n, .string x.name, .slice ka kl kc], .int .i64 ((m : Int) - 1)] w' (SizP (m - 1) x w')) := Lib.hid (fun w' hb => by
                  have := HIH.out (m - 1) (by have := HM0.out; omega) x w' _ (by omega) (HKS.out.below hb) (HWK.out.kids x (List.mem_of_getElem? hxk)) (HKV.out.lens.2 k x hxk) (hkx.dn hb)
                  rwa [show ((m - 1 : Nat) : Int) = (m : Int) - 1 by have := HM0.out; omega] at this)
                have HT := Lib.hid (all_take (exOk isNB (m - 1)) kids k x hxk)
                have HST := Lib.hid (sumP_take (m := m - 1) hxk)
                have HF := Lib.hid (fun h => all_false (exOk isNB (m - 1)) (List.mem_of_getElem? hxk) h)
                have HGE := Lib.hid (sumP_ge (m := m - 1) (List.mem_of_getElem? hxk))
                have k0 : (0 : Int) ≤ k := by omega
                have k1 : (k : Int) < kn := by omega
                clear hkl hx hxk hkx hkl2
                go_wp2_with (fail)
                go_at_call 209
                refine (HC.out _ (HBR.out.trans ((below1 _ _).mono HBR.out.size))).mono ?_
                rintro e w2 ⟨a2, b2, q, rfl, hq, hq2, hb⟩
                have HB2 : Hid (Below w.heap.size w w2) := Lib.hid ((HBR.out.trans ((below1 _ _).mono HBR.out.size)).trans (hb.mono (HBR.out.trans ((below1 _ _).mono HBR.out.size)).size))
                have HQ := Lib.hid hq
                cases q
                · clear hb hq hq2
                  go_wp2_with (fail)
                  refine bodyPost_ret (v := .tuple #[.int .i64 0, .int .i64 0, .bool false]) (by simp [results, Tryz.results209, go_sem]) rfl ?_
                  refine ⟨0, 0, false, rfl, ?_, (fun h => by cases h), HB2.out⟩
                  rw [HOK.out, exParts_m HM0.out]
                  cases hx : exOk isNB (m - 1) x
                  · rw [HF.out hx]; rfl
                  · have h30 := HQ.out
                    rw [hx, Bool.true_and] at h30
                    have h31 := of_decide_eq_false h30.symm
                    rw [decide_eq_false (by have := HGE.out; omega), Bool.and_false]
                · obtain ⟨rfl, hb0, hb1⟩ := hq2 rfl
                  obtain ⟨xp, hxp⟩ : ∃ p, p = exParts (m - 1) x := ⟨_, rfl⟩
                  have hq0 := hq
                  rw [← hxp] at hq0 ⊢
                  have HXP := Lib.hid hxp
                  have h30 : xp ≤ 30 := by
                    have := (Bool.and_eq_true _ _).mp hq0.symm
                    exact of_decide_eq_true this.2
                  have HXO : Hid (exOk isNB (m - 1) x = true) := Lib.hid ((Bool.and_eq_true _ _).mp hq0.symm).1
                  have hb3 : b2 ≤ (m : Int) - 1 := by have := HM0.out; omega
                  clear hb hq hq2 hq0 hxp hb1
                  have hmx : max dp (b2 + 1) ≤ m ∧ 1 ≤ max dp (b2 + 1) := by omega
                  go_wp2_with (fail)
                  go_roundw
                  case rel => exact ⟨k + 1, pt + xp, max dp (b2 + 1), by omega, by go_num, by go_num, by go_num, hmx.2, hmx.1, by omega, Lib.hid ⟨by rw [HT.out, hA.out.1, HXO.out]; rfl, by rw [HST.out, hA.out.2, HXP.out]; omega⟩, HB2⟩
                  case measure => simp [intOf]; omega
              · obtain rfl : k = kn := by omega
                have HAL : Hid (exOk isNB m (.mk 2 0 name kids) = true) := Lib.hid (by have := hA.out.1; rw [HLEN.out, List.take_length] at this; rw [HOK.out]; exact this)
                have HPT : Hid (exParts m (.mk 2 0 name kids) = pt) := Lib.hid (by rw [exParts_m HM0.out, hA.out.2, HLEN.out, List.take_length])
                have HDP := Lib.hid (And.intro hd1 hd2)
                clear hd1 hd2
                go_wp2_with (fail)
                refine bodyPost_ret (v := .tuple #[.int .i64 (pt : Int), .int .i64 dp, .bool (decide ((pt : Int) ≤ 30))]) (by simp [results, Tryz.results209, go_sem]) rfl ?_
                refine ⟨_, _, _, rfl, ?_, fun _ => ⟨by rw [HPT.out], by have := HDP.out; omega, by have := HDP.out; omega⟩, HBR.out⟩
                rw [HAL.out, HPT.out, Bool.true_and]
                exact decide_eq_decide.mpr (by omega)
      · have hn1 : (n != 0) = true := by simpa using hn0
        go_wp2_with (fail)
        refine bodyPost_ret (v := .tuple #[.int .i64 0, .int .i64 0, .bool false]) (by simp [results, Tryz.results209, go_sem]) rfl ?_
        exact SizP.no (by rw [exOk_m]; rw [neI hn0, show ((2 : Int) == 1) = false from rfl]; simp) HBZ.out
  by_cases o13 : op = 13
  · subst o13
    have HKN : Hid (kidsN 13 = (0, 3)) := Lib.hid rfl
    obtain ⟨q3, hq3⟩ : ∃ q, q = isNB name := ⟨_, rfl⟩
    have HQ3 := Lib.hid hq3
    clear hq3
    clear o1 o2
    go_enter Tryz.func209, Tryz.ntmps209
    go_wp2_with (fail)
    go_at_call 133
    refine (isName_any _ name q3 HK0.out.1 HZ.out HQ3.out).mono ?_
    rintro e wn ⟨rfl, hbn⟩
    obtain ⟨c0, c1, c2, c3, hln, hbw⟩ := box4 hbn
    have HBZ := Lib.hid hbw
    have HKZ := Lib.hid (HKS.out.below hbw)
    clear hbn hbw
    cases q3
    · go_wp2_with (fail)
      refine bodyPost_ret (v := .tuple #[.int .i64 0, .int .i64 0, .bool false]) (by simp [results, Tryz.results209, go_sem]) rfl ?_
      exact SizP.no (by rw [exOk_m]; rw [show decide ((13 : Int) = 2 ∨ (13 : Int) = 13) = true from rfl, if_pos rfl, ← HQ3.out]; simp) HBZ.out
    · have HNB : Hid (isNB name = true) := Lib.hid HQ3.out.symm
      by_cases hn0 : n = 0
      · subst hn0
        go_wp2_with (fail)
        go_at_call 215
        refine (levelOf_any _ _ HKZ.out.2 HW.out).mono ?_
        rintro e _ ⟨rfl, rfl⟩
        obtain ⟨q2, h2⟩ : ∃ q, inR 0 3 (kn : Int) = q := ⟨_, rfl⟩
        have HQ2 := Lib.hid h2
        clear h2
        go_wp2_with (fail)
        go_at_call 39
        refine (within_named _ _ _ q2 HQ2.out _).mono ?_
        rintro e _ ⟨rfl, rfl⟩
        cases q2
        · go_wp2_with (fail)
          refine bodyPost_ret (v := .tuple #[.int .i64 0, .int .i64 0, .bool false]) (by simp [results, Tryz.results209, go_sem]) rfl ?_
          exact SizP.no (by rw [exOk_m]; rw [HKN.out, ← HLEN.out]; dsimp only; rw [show inR ((0 : Nat) : Int) ((3 : Nat) : Int) (kn : Int) = false from HQ2.out]; simp) HBZ.out
        · by_cases hm0 : m = 0
          · subst hm0
            go_wp2_with (fail)
            refine bodyPost_ret (v := .tuple #[.int .i64 0, .int .i64 0, .bool false]) (by simp [results, Tryz.results209, go_sem]) rfl ?_
            exact SizP.no (by rw [exOk_m]; rfl) HBZ.out
          · have hm1 : ¬ (m : Int) < 1 := by omega
            have HOK : Hid (exOk isNB m (.mk 13 0 name kids) = kids.all (exOk isNB (m - 1))) := Lib.hid (by rw [exOk_m, HKN.out, ← HLEN.out, decide_eq_true (show 0 < m by omega)]; simp only []; rw [show inR ((0 : Nat) : Int) ((3 : Nat) : Int) (kn : Int) = true from HQ2.out]; simp [inR, HNB.out])
            have hkn : kn ≤ 3 := by have := inR_iff.1 HQ2.out; omega
            have HM0 : Hid (0 < m) := Lib.hid (by omega)
            clear hm0
            go_wp2_with (fail)
            go_loopw [9, 10, 101] (fun pv dv i wr => ∃ (k pt : Nat) (dp : Int), k ≤ kn ∧ i = .int .i64 (k : Int) ∧ pv = .int .i64 (pt : Int) ∧ dv = .int .i64 dp ∧ 1 ≤ dp ∧ dp ≤ m ∧ pt ≤ 1 + 30 * k ∧ Hid ((kids.take k).all (exOk isNB (m - 1)) = true ∧ pt = 1 + sumP (m - 1) (kids.take k)) ∧ Hid (Below w.heap.size w wr)) (fun _ _ i _ => kn - (intOf i).toNat)
            case atStart => exact ⟨0, 1, 1, Nat.zero_le _, rfl, rfl, rfl, by omega, by have := HM0.out; omega, by omega, Lib.hid ⟨by simp, by simp [sumP]⟩, HBZ⟩
            case round =>
              obtain ⟨k, pt, dp, hk, rfl, rfl, rfl, hd1, hd2, hp1, hA, HBR⟩ := hrel
              by_cases hlt : k < kn
              · have hkl : k < kids.length := by rw [← HLEN.out]; exact hlt
                obtain ⟨x, hx⟩ : ∃ x, x = kids[k] := ⟨_, rfl⟩
                have hxk : kids[k]? = some x := by rw [hx]; exact List.getElem?_eq_getElem hkl
                obtain ⟨b, off, kv, rfl, hbl, e0, e1, e2, e3, hkx⟩ := HKV.out.get hxk
                have e0 := cellB HBR.out e0; have e1 := cellB HBR.out e1; have e2 := cellB HBR.out e2; have e3 := cellB HBR.out e3
                obtain ⟨ka, kc, hkf⟩ := hkx.form
                obtain ⟨kl, hkl2⟩ : ∃ l, l = x.kids.length := ⟨_, rfl⟩
                rw [← hkl2] at hkf
                subst hkf
                have HC : Hid (∀ w', Below w.heap.size w w' → Calls Tryz.prog 209 #[.agg #[.int .i64 x.op, .int .i64 x.n, .string x.name, .slice ka kl kc], .int .i64 ((m : Int) - 1)] w' (SizP (m - 1) x w')) := Lib.hid (fun w' hb => by
                  have := HIH.out (m - 1) (by have := HM0.out; omega) x w' _ (by omega) (HKS.out.below hb) (HWK.out.kids x (List.mem_of_getElem? hxk)) (HKV.out.lens.2 k x hxk) (hkx.dn hb)
                  rwa [show ((m - 1 : Nat) : Int) = (m : Int) - 1 by have := HM0.out; omega] at this)
                have HT := Lib.hid (all_take (exOk isNB (m - 1)) kids k x hxk)
                have HST := Lib.hid (sumP_take (m := m - 1) hxk)
                have HF := Lib.hid (fun h => all_false (exOk isNB (m - 1)) (List.mem_of_getElem? hxk) h)
                have HGE := Lib.hid (sumP_ge (m := m - 1) (List.mem_of_getElem? hxk))
                have k0 : (0 : Int) ≤ k := by omega
                have k1 : (k : Int) < kn := by omega
                clear hkl hx hxk hkx hkl2
                go_wp2_with (fail)
                go_at_call 209
                refine (HC.out _ (HBR.out.trans ((below1 _ _).mono HBR.out.size))).mono ?_
                rintro e w2 ⟨a2, b2, q, rfl, hq, hq2, hb⟩
                have HB2 : Hid (Below w.heap.size w w2) := Lib.hid ((HBR.out.trans ((below1 _ _).mono HBR.out.size)).trans (hb.mono (HBR.out.trans ((below1 _ _).mono HBR.out.size)).size))
                have HQ := Lib.hid hq
                cases q
                · clear hb hq hq2
                  go_wp2_with (fail)
                  refine bodyPost_ret (v := .tuple #[.int .i64 0, .int .i64 0, .bool false]) (by simp [results, Tryz.results209, go_sem]) rfl ?_
                  refine ⟨0, 0, false, rfl, ?_, (fun h => by cases h), HB2.out⟩
                  rw [HOK.out, exParts_m HM0.out]
                  cases hx : exOk isNB (m - 1) x
                  · rw [HF.out hx]; rfl
                  · have h30 := HQ.out
                    rw [hx, Bool.true_and] at h30
                    have h31 := of_decide_eq_false h30.symm
                    rw [decide_eq_false (by have := HGE.out; omega), Bool.and_false]
                · obtain ⟨rfl, hb0, hb1⟩ := hq2 rfl
                  obtain ⟨xp, hxp⟩ : ∃ p, p = exParts (m - 1) x := ⟨_, rfl⟩
                  have hq0 := hq
                  rw [← hxp] at hq0 ⊢
                  have HXP := Lib.hid hxp
                  have h30 : xp ≤ 30 := by
                    have := (Bool.and_eq_true _ _).mp hq0.symm
                    exact of_decide_eq_true this.2
                  have HXO : Hid (exOk isNB (m - 1) x = true) := Lib.hid ((Bool.and_eq_true _ _).mp hq0.symm).1
                  have hb3 : b2 ≤ (m : Int) - 1 := by have := HM0.out; omega
                  clear hb hq hq2 hq0 hxp hb1
                  have hmx : max dp (b2 + 1) ≤ m ∧ 1 ≤ max dp (b2 + 1) := by omega
                  go_wp2_with (fail)
                  go_roundw
                  case rel => exact ⟨k + 1, pt + xp, max dp (b2 + 1), by omega, by go_num, by go_num, by go_num, hmx.2, hmx.1, by omega, Lib.hid ⟨by rw [HT.out, hA.out.1, HXO.out]; rfl, by rw [HST.out, hA.out.2, HXP.out]; omega⟩, HB2⟩
                  case measure => simp [intOf]; omega
              · obtain rfl : k = kn := by omega
                have HAL : Hid (exOk isNB m (.mk 13 0 name kids) = true) := Lib.hid (by have := hA.out.1; rw [HLEN.out, List.take_length] at this; rw [HOK.out]; exact this)
                have HPT : Hid (exParts m (.mk 13 0 name kids) = pt) := Lib.hid (by rw [exParts_m HM0.out, hA.out.2, HLEN.out, List.take_length])
                have HDP := Lib.hid (And.intro hd1 hd2)
                clear hd1 hd2
                go_wp2_with (fail)
                refine bodyPost_ret (v := .tuple #[.int .i64 (pt : Int), .int .i64 dp, .bool (decide ((pt : Int) ≤ 30))]) (by simp [results, Tryz.results209, go_sem]) rfl ?_
                refine ⟨_, _, _, rfl, ?_, fun _ => ⟨by rw [HPT.out], by have := HDP.out; omega, by have := HDP.out; omega⟩, HBR.out⟩
                rw [HAL.out, HPT.out, Bool.true_and]
                exact decide_eq_decide.mpr (by omega)
      · have hn1 : (n != 0) = true := by simpa using hn0
        go_wp2_with (fail)
        refine bodyPost_ret (v := .tuple #[.int .i64 0, .int .i64 0, .bool false]) (by simp [results, Tryz.results209, go_sem]) rfl ?_
        exact SizP.no (by rw [exOk_m]; rw [neI hn0, show ((13 : Int) == 1) = false from rfl]; simp) HBZ.out
  by_cases ob : 3 ≤ op ∧ op ≤ 10
  · have HKN : Hid (kidsN op = (2, 2)) := Lib.hid (by rcases kidsN_cases op with ⟨o, _⟩ | ⟨o, _⟩ | ⟨o, _⟩ | ⟨o, _⟩ | ⟨o, _⟩ | ⟨_, _, _, _, _, h⟩ <;> first | omega | exact h)
    have HNM : Hid (decide (op = 2 ∨ op = 13) = false) := Lib.hid (decide_eq_false (by omega))
    have HO1 : Hid ((op == 1) = false) := Lib.hid (neI o1)
    have HOP : Hid (inR 1 13 op = true) := Lib.hid (inR_iff.2 (by omega))
    have hlp := levN_pos.2 ob
    have hl6 : levI op < 6 := levI_lt (by omega)
    have o1 := neI o1; have o2 := neI o2; have o13 := neI o13
    obtain ⟨bm, x0, hM⟩ := HK0.out.2
    have HM := Lib.hid hM
    clear hM
    go_enter Tryz.func209, Tryz.ntmps209
    go_wp2_with (at_lookup; refine wpList_ops _ rfl _ _ rfl bm HM.out rfl op rfl HW.out ?_; intro sg)
    have HBZ := HB0
    have HKZ := HK0
    go_at_call 215
    refine (levelOf_any _ _ HKZ.out.2 HW.out).mono ?_
    rintro e _ ⟨rfl, rfl⟩
    by_cases hn0 : n = 0
    · subst hn0
      by_cases hne : name.toList = []
      · have HNE : Hid (decide (name = ByteArray.empty) = true) := Lib.hid ((empty_iff rfl).1 hne)
        obtain ⟨q2, h2⟩ : ∃ q, inR 2 2 (kn : Int) = q := ⟨_, rfl⟩
        have HQ2 := Lib.hid h2
        clear h2
        go_wp2_with (fail)
        go_at_call 39
        refine (within_named _ _ _ q2 HQ2.out _).mono ?_
        rintro e _ ⟨rfl, rfl⟩
        cases q2
        · go_wp2_with (fail)
          refine bodyPost_ret (v := .tuple #[.int .i64 0, .int .i64 0, .bool false]) (by simp [results, Tryz.results209, go_sem]) rfl ?_
          exact SizP.no (by rw [exOk_m]; rw [HKN.out, ← HLEN.out]; dsimp only; rw [show inR ((2 : Nat) : Int) ((2 : Nat) : Int) (kn : Int) = false from HQ2.out]; simp) HBZ.out
        · by_cases hm0 : m = 0
          · subst hm0
            go_wp2_with (fail)
            refine bodyPost_ret (v := .tuple #[.int .i64 0, .int .i64 0, .bool false]) (by simp [results, Tryz.results209, go_sem]) rfl ?_
            exact SizP.no (by rw [exOk_m]; rfl) HBZ.out
          · have hm1 : ¬ (m : Int) < 1 := by omega
            have HOK : Hid (exOk isNB m (.mk op 0 name kids) = kids.all (exOk isNB (m - 1))) := Lib.hid (by rw [exOk_m, HKN.out, ← HLEN.out, decide_eq_true (show 0 < m by omega)]; simp only []; rw [show inR ((2 : Nat) : Int) ((2 : Nat) : Int) (kn : Int) = true from HQ2.out]; rw [HNM.out, HOP.out, HNE.out]; simp [inR])
            have hkn : kn ≤ 3 := by have := inR_iff.1 HQ2.out; omega
            have HM0 : Hid (0 < m) := Lib.hid (by omega)
            clear hm0
            go_wp2_with (fail)
            go_loopw [9, 10, 101] (fun pv dv i wr => ∃ (k pt : Nat) (dp : Int), k ≤ kn ∧ i = .int .i64 (k : Int) ∧ pv = .int .i64 (pt : Int) ∧ dv = .int .i64 dp ∧ 1 ≤ dp ∧ dp ≤ m ∧ pt ≤ 1 + 30 * k ∧ Hid ((kids.take k).all (exOk isNB (m - 1)) = true ∧ pt = 1 + sumP (m - 1) (kids.take k)) ∧ Hid (Below w.heap.size w wr)) (fun _ _ i _ => kn - (intOf i).toNat)
            case atStart => exact ⟨0, 1, 1, Nat.zero_le _, rfl, rfl, rfl, by omega, by have := HM0.out; omega, by omega, Lib.hid ⟨by simp, by simp [sumP]⟩, HBZ⟩
            case round =>
              obtain ⟨k, pt, dp, hk, rfl, rfl, rfl, hd1, hd2, hp1, hA, HBR⟩ := hrel
              by_cases hlt : k < kn
              · have hkl : k < kids.length := by rw [← HLEN.out]; exact hlt
                obtain ⟨x, hx⟩ : ∃ x, x = kids[k] := ⟨_, rfl⟩
                have hxk : kids[k]? = some x := by rw [hx]; exact List.getElem?_eq_getElem hkl
                obtain ⟨b, off, kv, rfl, hbl, e0, e1, e2, e3, hkx⟩ := HKV.out.get hxk
                have e0 := cellB HBR.out e0; have e1 := cellB HBR.out e1; have e2 := cellB HBR.out e2; have e3 := cellB HBR.out e3
                obtain ⟨ka, kc, hkf⟩ := hkx.form
                obtain ⟨kl, hkl2⟩ : ∃ l, l = x.kids.length := ⟨_, rfl⟩
                rw [← hkl2] at hkf
                subst hkf
                have HC : Hid (∀ w', Below w.heap.size w w' → Calls Tryz.prog 209 #[.agg #[.int .i64 x.op, .int .i64 x.n, .string x.name, .slice ka kl kc], .int .i64 ((m : Int) - 1)] w' (SizP (m - 1) x w')) := Lib.hid (fun w' hb => by
                  have := HIH.out (m - 1) (by have := HM0.out; omega) x w' _ (by omega) (HKS.out.below hb) (HWK.out.kids x (List.mem_of_getElem? hxk)) (HKV.out.lens.2 k x hxk) (hkx.dn hb)
                  rwa [show ((m - 1 : Nat) : Int) = (m : Int) - 1 by have := HM0.out; omega] at this)
                have HT := Lib.hid (all_take (exOk isNB (m - 1)) kids k x hxk)
                have HST := Lib.hid (sumP_take (m := m - 1) hxk)
                have HF := Lib.hid (fun h => all_false (exOk isNB (m - 1)) (List.mem_of_getElem? hxk) h)
                have HGE := Lib.hid (sumP_ge (m := m - 1) (List.mem_of_getElem? hxk))
                have k0 : (0 : Int) ≤ k := by omega
                have k1 : (k : Int) < kn := by omega
                clear hkl hx hxk hkx hkl2
                go_wp2_with (fail)
                go_at_call 209
                refine (HC.out _ (HBR.out.trans ((below1 _ _).mono HBR.out.size))).mono ?_
                rintro e w2 ⟨a2, b2, q, rfl, hq, hq2, hb⟩
                have HB2 : Hid (Below w.heap.size w w2) := Lib.hid ((HBR.out.trans ((below1 _ _).mono HBR.out.size)).trans (hb.mono (HBR.out.trans ((below1 _ _).mono HBR.out.size)).size))
                have HQ := Lib.hid hq
                cases q
                · clear hb hq hq2
                  go_wp2_with (fail)
                  refine bodyPost_ret (v := .tuple #[.int .i64 0, .int .i64 0, .bool false]) (by simp [results, Tryz.results209, go_sem]) rfl ?_
                  refine ⟨0, 0, false, rfl, ?_, (fun h => by cases h), HB2.out⟩
                  rw [HOK.out, exParts_m HM0.out]
                  cases hx : exOk isNB (m - 1) x
                  · rw [HF.out hx]; rfl
                  · have h30 := HQ.out
                    rw [hx, Bool.true_and] at h30
                    have h31 := of_decide_eq_false h30.symm
                    rw [decide_eq_false (by have := HGE.out; omega), Bool.and_false]
                · obtain ⟨rfl, hb0, hb1⟩ := hq2 rfl
                  obtain ⟨xp, hxp⟩ : ∃ p, p = exParts (m - 1) x := ⟨_, rfl⟩
                  have hq0 := hq
                  rw [← hxp] at hq0 ⊢
                  have HXP := Lib.hid hxp
                  have h30 : xp ≤ 30 := by
                    have := (Bool.and_eq_true _ _).mp hq0.symm
                    exact of_decide_eq_true this.2
                  have HXO : Hid (exOk isNB (m - 1) x = true) := Lib.hid ((Bool.and_eq_true _ _).mp hq0.symm).1
                  have hb3 : b2 ≤ (m : Int) - 1 := by have := HM0.out; omega
                  clear hb hq hq2 hq0 hxp hb1
                  have hmx : max dp (b2 + 1) ≤ m ∧ 1 ≤ max dp (b2 + 1) := by omega
                  go_wp2_with (fail)
                  go_roundw
                  case rel => exact ⟨k + 1, pt + xp, max dp (b2 + 1), by omega, by go_num, by go_num, by go_num, hmx.2, hmx.1, by omega, Lib.hid ⟨by rw [HT.out, hA.out.1, HXO.out]; rfl, by rw [HST.out, hA.out.2, HXP.out]; omega⟩, HB2⟩
                  case measure => simp [intOf]; omega
              · obtain rfl : k = kn := by omega
                have HAL : Hid (exOk isNB m (.mk op 0 name kids) = true) := Lib.hid (by have := hA.out.1; rw [HLEN.out, List.take_length] at this; rw [HOK.out]; exact this)
                have HPT : Hid (exParts m (.mk op 0 name kids) = pt) := Lib.hid (by rw [exParts_m HM0.out, hA.out.2, HLEN.out, List.take_length])
                have HDP := Lib.hid (And.intro hd1 hd2)
                clear hd1 hd2
                go_wp2_with (fail)
                refine bodyPost_ret (v := .tuple #[.int .i64 (pt : Int), .int .i64 dp, .bool (decide ((pt : Int) ≤ 30))]) (by simp [results, Tryz.results209, go_sem]) rfl ?_
                refine ⟨_, _, _, rfl, ?_, fun _ => ⟨by rw [HPT.out], by have := HDP.out; omega, by have := HDP.out; omega⟩, HBR.out⟩
                rw [HAL.out, HPT.out, Bool.true_and]
                exact decide_eq_decide.mpr (by omega)
      · have HNE : Hid (decide (name = ByteArray.empty) = false) := Lib.hid (by rw [← Bool.not_eq_true]; exact fun h => hne ((empty_iff rfl).2 h))
        have hne2 : name.toList.isEmpty = false := nonE0 hne
        go_wp2_with (fail)
        refine bodyPost_ret (v := .tuple #[.int .i64 0, .int .i64 0, .bool false]) (by simp [results, Tryz.results209, go_sem]) rfl ?_
        exact SizP.no (by rw [exOk_m]; simp only [HNM.out]; rw [HNE.out]; simp) HBZ.out
    · have hn1 : (n != 0) = true := by simpa using hn0
      go_wp2_with (fail)
      refine bodyPost_ret (v := .tuple #[.int .i64 0, .int .i64 0, .bool false]) (by simp [results, Tryz.results209, go_sem]) rfl ?_
      exact SizP.no (by rw [exOk_m]; rw [neI hn0, HO1.out]; simp) HBZ.out
  have ob0 : levN op = 0 := levN_0 ob
  have HOB := Lib.hid ob0
  obtain ⟨bm, x0, hM⟩ := HK0.out.2
  have HM := Lib.hid hM
  clear hM
  by_cases o11 : op = 11
  · subst o11
    have HKN : Hid (kidsN 11 = (1, 1)) := Lib.hid rfl
    have HNM : Hid (decide ((11 : Int) = 2 ∨ (11 : Int) = 13) = false) := Lib.hid rfl
    have HO1 : Hid (((11 : Int) == 1) = false) := Lib.hid rfl
    have hl6 : levI 11 < 6 := by decide
    clear ob ob0 o1 o2 o13
    go_enter Tryz.func209, Tryz.ntmps209
    go_wp2_with (at_lookup; refine wpList_ops _ rfl _ _ rfl bm HM.out rfl 11 rfl HW.out ?_; intro sg; rw [HOB.out])
    have HBZ := HB0
    have HKZ := HK0
    go_at_call 215
    refine (levelOf_any _ _ HKZ.out.2 HW.out).mono ?_
    rintro e _ ⟨rfl, rfl⟩
    by_cases hn0 : n = 0
    · subst hn0
      by_cases hne : name.toList = []
      · have HNE : Hid (decide (name = ByteArray.empty) = true) := Lib.hid ((empty_iff rfl).1 hne)
        obtain ⟨q2, h2⟩ : ∃ q, inR 1 1 (kn : Int) = q := ⟨_, rfl⟩
        have HQ2 := Lib.hid h2
        clear h2
        go_wp2_with (fail)
        go_at_call 39
        refine (within_named _ _ _ q2 HQ2.out _).mono ?_
        rintro e _ ⟨rfl, rfl⟩
        cases q2
        · go_wp2_with (fail)
          refine bodyPost_ret (v := .tuple #[.int .i64 0, .int .i64 0, .bool false]) (by simp [results, Tryz.results209, go_sem]) rfl ?_
          exact SizP.no (by rw [exOk_m]; rw [HKN.out, ← HLEN.out]; dsimp only; rw [show inR ((1 : Nat) : Int) ((1 : Nat) : Int) (kn : Int) = false from HQ2.out]; simp) HBZ.out
        · by_cases hm0 : m = 0
          · subst hm0
            go_wp2_with (fail)
            refine bodyPost_ret (v := .tuple #[.int .i64 0, .int .i64 0, .bool false]) (by simp [results, Tryz.results209, go_sem]) rfl ?_
            exact SizP.no (by rw [exOk_m]; rfl) HBZ.out
          · have hm1 : ¬ (m : Int) < 1 := by omega
            have HOK : Hid (exOk isNB m (.mk 11 0 name kids) = kids.all (exOk isNB (m - 1))) := Lib.hid (by rw [exOk_m, HKN.out, ← HLEN.out, decide_eq_true (show 0 < m by omega)]; simp only []; rw [show inR ((1 : Nat) : Int) ((1 : Nat) : Int) (kn : Int) = true from HQ2.out]; rw [HNM.out, show inR 1 13 (11 : Int) = true from rfl, HNE.out]; simp [inR])
            have hkn : kn ≤ 3 := by have := inR_iff.1 HQ2.out; omega
            have HM0 : Hid (0 < m) := Lib.hid (by omega)
            clear hm0
            go_wp2_with (fail)
            go_loopw [9, 10, 101] (fun pv dv i wr => ∃ (k pt : Nat) (dp : Int), k ≤ kn ∧ i = .int .i64 (k : Int) ∧ pv = .int .i64 (pt : Int) ∧ dv = .int .i64 dp ∧ 1 ≤ dp ∧ dp ≤ m ∧ pt ≤ 1 + 30 * k ∧ Hid ((kids.take k).all (exOk isNB (m - 1)) = true ∧ pt = 1 + sumP (m - 1) (kids.take k)) ∧ Hid (Below w.heap.size w wr)) (fun _ _ i _ => kn - (intOf i).toNat)
            case atStart => exact ⟨0, 1, 1, Nat.zero_le _, rfl, rfl, rfl, by omega, by have := HM0.out; omega, by omega, Lib.hid ⟨by simp, by simp [sumP]⟩, HBZ⟩
            case round =>
              obtain ⟨k, pt, dp, hk, rfl, rfl, rfl, hd1, hd2, hp1, hA, HBR⟩ := hrel
              by_cases hlt : k < kn
              · have hkl : k < kids.length := by rw [← HLEN.out]; exact hlt
                obtain ⟨x, hx⟩ : ∃ x, x = kids[k] := ⟨_, rfl⟩
                have hxk : kids[k]? = some x := by rw [hx]; exact List.getElem?_eq_getElem hkl
                obtain ⟨b, off, kv, rfl, hbl, e0, e1, e2, e3, hkx⟩ := HKV.out.get hxk
                have e0 := cellB HBR.out e0; have e1 := cellB HBR.out e1; have e2 := cellB HBR.out e2; have e3 := cellB HBR.out e3
                obtain ⟨ka, kc, hkf⟩ := hkx.form
                obtain ⟨kl, hkl2⟩ : ∃ l, l = x.kids.length := ⟨_, rfl⟩
                rw [← hkl2] at hkf
                subst hkf
                have HC : Hid (∀ w', Below w.heap.size w w' → Calls Tryz.prog 209 #[.agg #[.int .i64 x.op, .int .i64 x.n, .string x.name, .slice ka kl kc], .int .i64 ((m : Int) - 1)] w' (SizP (m - 1) x w')) := Lib.hid (fun w' hb => by
                  have := HIH.out (m - 1) (by have := HM0.out; omega) x w' _ (by omega) (HKS.out.below hb) (HWK.out.kids x (List.mem_of_getElem? hxk)) (HKV.out.lens.2 k x hxk) (hkx.dn hb)
                  rwa [show ((m - 1 : Nat) : Int) = (m : Int) - 1 by have := HM0.out; omega] at this)
                have HT := Lib.hid (all_take (exOk isNB (m - 1)) kids k x hxk)
                have HST := Lib.hid (sumP_take (m := m - 1) hxk)
                have HF := Lib.hid (fun h => all_false (exOk isNB (m - 1)) (List.mem_of_getElem? hxk) h)
                have HGE := Lib.hid (sumP_ge (m := m - 1) (List.mem_of_getElem? hxk))
                have k0 : (0 : Int) ≤ k := by omega
                have k1 : (k : Int) < kn := by omega
                clear hkl hx hxk hkx hkl2
                go_wp2_with (fail)
                go_at_call 209
                refine (HC.out _ (HBR.out.trans ((below1 _ _).mono HBR.out.size))).mono ?_
                rintro e w2 ⟨a2, b2, q, rfl, hq, hq2, hb⟩
                have HB2 : Hid (Below w.heap.size w w2) := Lib.hid ((HBR.out.trans ((below1 _ _).mono HBR.out.size)).trans (hb.mono (HBR.out.trans ((below1 _ _).mono HBR.out.size)).size))
                have HQ := Lib.hid hq
                cases q
                · clear hb hq hq2
                  go_wp2_with (fail)
                  refine bodyPost_ret (v := .tuple #[.int .i64 0, .int .i64 0, .bool false]) (by simp [results, Tryz.results209, go_sem]) rfl ?_
                  refine ⟨0, 0, false, rfl, ?_, (fun h => by cases h), HB2.out⟩
                  rw [HOK.out, exParts_m HM0.out]
                  cases hx : exOk isNB (m - 1) x
                  · rw [HF.out hx]; rfl
                  · have h30 := HQ.out
                    rw [hx, Bool.true_and] at h30
                    have h31 := of_decide_eq_false h30.symm
                    rw [decide_eq_false (by have := HGE.out; omega), Bool.and_false]
                · obtain ⟨rfl, hb0, hb1⟩ := hq2 rfl
                  obtain ⟨xp, hxp⟩ : ∃ p, p = exParts (m - 1) x := ⟨_, rfl⟩
                  have hq0 := hq
                  rw [← hxp] at hq0 ⊢
                  have HXP := Lib.hid hxp
                  have h30 : xp ≤ 30 := by
                    have := (Bool.and_eq_true _ _).mp hq0.symm
                    exact of_decide_eq_true this.2
                  have HXO : Hid (exOk isNB (m - 1) x = true) := Lib.hid ((Bool.and_eq_true _ _).mp hq0.symm).1
                  have hb3 : b2 ≤ (m : Int) - 1 := by have := HM0.out; omega
                  clear hb hq hq2 hq0 hxp hb1
                  have hmx : max dp (b2 + 1) ≤ m ∧ 1 ≤ max dp (b2 + 1) := by omega
                  go_wp2_with (fail)
                  go_roundw
                  case rel => exact ⟨k + 1, pt + xp, max dp (b2 + 1), by omega, by go_num, by go_num, by go_num, hmx.2, hmx.1, by omega, Lib.hid ⟨by rw [HT.out, hA.out.1, HXO.out]; rfl, by rw [HST.out, hA.out.2, HXP.out]; omega⟩, HB2⟩
                  case measure => simp [intOf]; omega
              · obtain rfl : k = kn := by omega
                have HAL : Hid (exOk isNB m (.mk 11 0 name kids) = true) := Lib.hid (by have := hA.out.1; rw [HLEN.out, List.take_length] at this; rw [HOK.out]; exact this)
                have HPT : Hid (exParts m (.mk 11 0 name kids) = pt) := Lib.hid (by rw [exParts_m HM0.out, hA.out.2, HLEN.out, List.take_length])
                have HDP := Lib.hid (And.intro hd1 hd2)
                clear hd1 hd2
                go_wp2_with (fail)
                refine bodyPost_ret (v := .tuple #[.int .i64 (pt : Int), .int .i64 dp, .bool (decide ((pt : Int) ≤ 30))]) (by simp [results, Tryz.results209, go_sem]) rfl ?_
                refine ⟨_, _, _, rfl, ?_, fun _ => ⟨by rw [HPT.out], by have := HDP.out; omega, by have := HDP.out; omega⟩, HBR.out⟩
                rw [HAL.out, HPT.out, Bool.true_and]
                exact decide_eq_decide.mpr (by omega)
      · have HNE : Hid (decide (name = ByteArray.empty) = false) := Lib.hid (by rw [← Bool.not_eq_true]; exact fun h => hne ((empty_iff rfl).2 h))
        have hne2 : name.toList.isEmpty = false := nonE0 hne
        go_wp2_with (fail)
        refine bodyPost_ret (v := .tuple #[.int .i64 0, .int .i64 0, .bool false]) (by simp [results, Tryz.results209, go_sem]) rfl ?_
        exact SizP.no (by rw [exOk_m]; simp only [HNM.out]; rw [HNE.out]; simp) HBZ.out
    · have hn1 : (n != 0) = true := by simpa using hn0
      go_wp2_with (fail)
      refine bodyPost_ret (v := .tuple #[.int .i64 0, .int .i64 0, .bool false]) (by simp [results, Tryz.results209, go_sem]) rfl ?_
      exact SizP.no (by rw [exOk_m]; rw [neI hn0, HO1.out]; simp) HBZ.out
  by_cases o12 : op = 12
  · subst o12
    have HKN : Hid (kidsN 12 = (1, 1)) := Lib.hid rfl
    have HNM : Hid (decide ((12 : Int) = 2 ∨ (12 : Int) = 13) = false) := Lib.hid rfl
    have HO1 : Hid (((12 : Int) == 1) = false) := Lib.hid rfl
    have hl6 : levI 12 < 6 := by decide
    clear ob ob0 o1 o2 o13 o11
    go_enter Tryz.func209, Tryz.ntmps209
    go_wp2_with (at_lookup; refine wpList_ops _ rfl _ _ rfl bm HM.out rfl 12 rfl HW.out ?_; intro sg; rw [HOB.out])
    have HBZ := HB0
    have HKZ := HK0
    go_at_call 215
    refine (levelOf_any _ _ HKZ.out.2 HW.out).mono ?_
    rintro e _ ⟨rfl, rfl⟩
    by_cases hn0 : n = 0
    · subst hn0
      by_cases hne : name.toList = []
      · have HNE : Hid (decide (name = ByteArray.empty) = true) := Lib.hid ((empty_iff rfl).1 hne)
        obtain ⟨q2, h2⟩ : ∃ q, inR 1 1 (kn : Int) = q := ⟨_, rfl⟩
        have HQ2 := Lib.hid h2
        clear h2
        go_wp2_with (fail)
        go_at_call 39
        refine (within_named _ _ _ q2 HQ2.out _).mono ?_
        rintro e _ ⟨rfl, rfl⟩
        cases q2
        · go_wp2_with (fail)
          refine bodyPost_ret (v := .tuple #[.int .i64 0, .int .i64 0, .bool false]) (by simp [results, Tryz.results209, go_sem]) rfl ?_
          exact SizP.no (by rw [exOk_m]; rw [HKN.out, ← HLEN.out]; dsimp only; rw [show inR ((1 : Nat) : Int) ((1 : Nat) : Int) (kn : Int) = false from HQ2.out]; simp) HBZ.out
        · by_cases hm0 : m = 0
          · subst hm0
            go_wp2_with (fail)
            refine bodyPost_ret (v := .tuple #[.int .i64 0, .int .i64 0, .bool false]) (by simp [results, Tryz.results209, go_sem]) rfl ?_
            exact SizP.no (by rw [exOk_m]; rfl) HBZ.out
          · have hm1 : ¬ (m : Int) < 1 := by omega
            have HOK : Hid (exOk isNB m (.mk 12 0 name kids) = kids.all (exOk isNB (m - 1))) := Lib.hid (by rw [exOk_m, HKN.out, ← HLEN.out, decide_eq_true (show 0 < m by omega)]; simp only []; rw [show inR ((1 : Nat) : Int) ((1 : Nat) : Int) (kn : Int) = true from HQ2.out]; rw [HNM.out, show inR 1 13 (12 : Int) = true from rfl, HNE.out]; simp [inR])
            have hkn : kn ≤ 3 := by have := inR_iff.1 HQ2.out; omega
            have HM0 : Hid (0 < m) := Lib.hid (by omega)
            clear hm0
            go_wp2_with (fail)
            go_loopw [9, 10, 101] (fun pv dv i wr => ∃ (k pt : Nat) (dp : Int), k ≤ kn ∧ i = .int .i64 (k : Int) ∧ pv = .int .i64 (pt : Int) ∧ dv = .int .i64 dp ∧ 1 ≤ dp ∧ dp ≤ m ∧ pt ≤ 1 + 30 * k ∧ Hid ((kids.take k).all (exOk isNB (m - 1)) = true ∧ pt = 1 + sumP (m - 1) (kids.take k)) ∧ Hid (Below w.heap.size w wr)) (fun _ _ i _ => kn - (intOf i).toNat)
            case atStart => exact ⟨0, 1, 1, Nat.zero_le _, rfl, rfl, rfl, by omega, by have := HM0.out; omega, by omega, Lib.hid ⟨by simp, by simp [sumP]⟩, HBZ⟩
            case round =>
              obtain ⟨k, pt, dp, hk, rfl, rfl, rfl, hd1, hd2, hp1, hA, HBR⟩ := hrel
              by_cases hlt : k < kn
              · have hkl : k < kids.length := by rw [← HLEN.out]; exact hlt
                obtain ⟨x, hx⟩ : ∃ x, x = kids[k] := ⟨_, rfl⟩
                have hxk : kids[k]? = some x := by rw [hx]; exact List.getElem?_eq_getElem hkl
                obtain ⟨b, off, kv, rfl, hbl, e0, e1, e2, e3, hkx⟩ := HKV.out.get hxk
                have e0 := cellB HBR.out e0; have e1 := cellB HBR.out e1; have e2 := cellB HBR.out e2; have e3 := cellB HBR.out e3
                obtain ⟨ka, kc, hkf⟩ := hkx.form
                obtain ⟨kl, hkl2⟩ : ∃ l, l = x.kids.length := ⟨_, rfl⟩
                rw [← hkl2] at hkf
                subst hkf
                have HC : Hid (∀ w', Below w.heap.size w w' → Calls Tryz.prog 209 #[.agg #[.int .i64 x.op, .int .i64 x.n, .string x.name, .slice ka kl kc], .int .i64 ((m : Int) - 1)] w' (SizP (m - 1) x w')) := Lib.hid (fun w' hb => by
                  have := HIH.out (m - 1) (by have := HM0.out; omega) x w' _ (by omega) (HKS.out.below hb) (HWK.out.kids x (List.mem_of_getElem? hxk)) (HKV.out.lens.2 k x hxk) (hkx.dn hb)
                  rwa [show ((m - 1 : Nat) : Int) = (m : Int) - 1 by have := HM0.out; omega] at this)
                have HT := Lib.hid (all_take (exOk isNB (m - 1)) kids k x hxk)
                have HST := Lib.hid (sumP_take (m := m - 1) hxk)
                have HF := Lib.hid (fun h => all_false (exOk isNB (m - 1)) (List.mem_of_getElem? hxk) h)
                have HGE := Lib.hid (sumP_ge (m := m - 1) (List.mem_of_getElem? hxk))
                have k0 : (0 : Int) ≤ k := by omega
                have k1 : (k : Int) < kn := by omega
                clear hkl hx hxk hkx hkl2
                go_wp2_with (fail)
                go_at_call 209
                refine (HC.out _ (HBR.out.trans ((below1 _ _).mono HBR.out.size))).mono ?_
                rintro e w2 ⟨a2, b2, q, rfl, hq, hq2, hb⟩
                have HB2 : Hid (Below w.heap.size w w2) := Lib.hid ((HBR.out.trans ((below1 _ _).mono HBR.out.size)).trans (hb.mono (HBR.out.trans ((below1 _ _).mono HBR.out.size)).size))
                have HQ := Lib.hid hq
                cases q
                · clear hb hq hq2
                  go_wp2_with (fail)
                  refine bodyPost_ret (v := .tuple #[.int .i64 0, .int .i64 0, .bool false]) (by simp [results, Tryz.results209, go_sem]) rfl ?_
                  refine ⟨0, 0, false, rfl, ?_, (fun h => by cases h), HB2.out⟩
                  rw [HOK.out, exParts_m HM0.out]
                  cases hx : exOk isNB (m - 1) x
                  · rw [HF.out hx]; rfl
                  · have h30 := HQ.out
                    rw [hx, Bool.true_and] at h30
                    have h31 := of_decide_eq_false h30.symm
                    rw [decide_eq_false (by have := HGE.out; omega), Bool.and_false]
                · obtain ⟨rfl, hb0, hb1⟩ := hq2 rfl
                  obtain ⟨xp, hxp⟩ : ∃ p, p = exParts (m - 1) x := ⟨_, rfl⟩
                  have hq0 := hq
                  rw [← hxp] at hq0 ⊢
                  have HXP := Lib.hid hxp
                  have h30 : xp ≤ 30 := by
                    have := (Bool.and_eq_true _ _).mp hq0.symm
                    exact of_decide_eq_true this.2
                  have HXO : Hid (exOk isNB (m - 1) x = true) := Lib.hid ((Bool.and_eq_true _ _).mp hq0.symm).1
                  have hb3 : b2 ≤ (m : Int) - 1 := by have := HM0.out; omega
                  clear hb hq hq2 hq0 hxp hb1
                  have hmx : max dp (b2 + 1) ≤ m ∧ 1 ≤ max dp (b2 + 1) := by omega
                  go_wp2_with (fail)
                  go_roundw
                  case rel => exact ⟨k + 1, pt + xp, max dp (b2 + 1), by omega, by go_num, by go_num, by go_num, hmx.2, hmx.1, by omega, Lib.hid ⟨by rw [HT.out, hA.out.1, HXO.out]; rfl, by rw [HST.out, hA.out.2, HXP.out]; omega⟩, HB2⟩
                  case measure => simp [intOf]; omega
              · obtain rfl : k = kn := by omega
                have HAL : Hid (exOk isNB m (.mk 12 0 name kids) = true) := Lib.hid (by have := hA.out.1; rw [HLEN.out, List.take_length] at this; rw [HOK.out]; exact this)
                have HPT : Hid (exParts m (.mk 12 0 name kids) = pt) := Lib.hid (by rw [exParts_m HM0.out, hA.out.2, HLEN.out, List.take_length])
                have HDP := Lib.hid (And.intro hd1 hd2)
                clear hd1 hd2
                go_wp2_with (fail)
                refine bodyPost_ret (v := .tuple #[.int .i64 (pt : Int), .int .i64 dp, .bool (decide ((pt : Int) ≤ 30))]) (by simp [results, Tryz.results209, go_sem]) rfl ?_
                refine ⟨_, _, _, rfl, ?_, fun _ => ⟨by rw [HPT.out], by have := HDP.out; omega, by have := HDP.out; omega⟩, HBR.out⟩
                rw [HAL.out, HPT.out, Bool.true_and]
                exact decide_eq_decide.mpr (by omega)
      · have HNE : Hid (decide (name = ByteArray.empty) = false) := Lib.hid (by rw [← Bool.not_eq_true]; exact fun h => hne ((empty_iff rfl).2 h))
        have hne2 : name.toList.isEmpty = false := nonE0 hne
        go_wp2_with (fail)
        refine bodyPost_ret (v := .tuple #[.int .i64 0, .int .i64 0, .bool false]) (by simp [results, Tryz.results209, go_sem]) rfl ?_
        exact SizP.no (by rw [exOk_m]; simp only [HNM.out]; rw [HNE.out]; simp) HBZ.out
    · have hn1 : (n != 0) = true := by simpa using hn0
      go_wp2_with (fail)
      refine bodyPost_ret (v := .tuple #[.int .i64 0, .int .i64 0, .bool false]) (by simp [results, Tryz.results209, go_sem]) rfl ?_
      exact SizP.no (by rw [exOk_m]; rw [neI hn0, HO1.out]; simp) HBZ.out
  have HOP : Hid (inR 1 13 op = false) := Lib.hid (by rw [← Bool.not_eq_true, inR_iff]; omega)
  have o1 := neI o1; have o2 := neI o2; have o13 := neI o13; have o11 := neI o11; have o12 := neI o12
  clear ob ob0
  go_enter Tryz.func209, Tryz.ntmps209
  go_wp2_with (at_lookup; refine wpList_ops _ rfl _ _ rfl bm HM.out rfl op rfl HW.out ?_; intro sg; rw [HOB.out])
  refine bodyPost_ret (v := .tuple #[.int .i64 0, .int .i64 0, .bool false]) (by simp [results, Tryz.results209, go_sem]) rfl ?_
  exact SizP.no (by rw [exOk_m]; rw [HOP.out]; simp) HB0.out
set_option maxHeartbeats 1000000 in
theorem exprValid_any (w : World) (e : Ex) (kv : Value) (q : Bool) (hK : KS w) (hW : ExW e) (hz : e.name.size ≤ big) (hkv : ExsAt w kv e.kids) (hq : q = exVal isNB e) :
    Calls Tryz.prog 179 #[.agg #[.int .i64 e.op, .int .i64 e.n, .string e.name, kv]] w (BoolP q w) := by
  have hb0 := below1 w (.cells #[.int .i64 e.op, .int .i64 e.n, .string e.name, kv] 67)
  have HC := Lib.hid (exprSize_any 6 e _ kv (Nat.le_refl _) (hK.below hb0) hW hz (hkv.dn hb0))
  have HQ := Lib.hid hq
  have HB := Lib.hid hb0
  obtain ⟨a, c, hf⟩ := hkv.form
  obtain ⟨l, hl⟩ : ∃ l, l = e.kids.length := ⟨_, rfl⟩
  rw [← hl] at hf
  subst hf
  clear hb0 hz hkv hq hl
  go_enter Tryz.func179, Tryz.ntmps179
  go_wp2_with (fail)
  go_at_call 209
  refine HC.out.mono ?_
  rintro _ w2 ⟨a2, b2, q2, rfl, hq2, _, hb⟩
  have HB2 := Lib.hid (HB.out.trans (hb.mono HB.out.size))
  have hqq : q2 = q := by rw [hq2, HQ.out]; rfl
  subst hqq
  clear hb hq2
  go_wp2_with (fail)
  go_ret
  exact ⟨rfl, HB2.out⟩
end Go.Proofs.YtpnliencahnmoaaGreatDoor
