/- The reference's programs: ProgramValid. The reference's programs: ProgramValid, the rest. -/
import Derived.Test.YtpnliencahnmoaaGreatDoorQ3
import Derived.Deep.QuietTactic
import Derived.BigQuiet
import Derived.IntWalk
set_option linter.unusedVariables false
set_option linter.unusedSimpArgs false
set_option linter.unusedVariables false
set_option linter.unusedSimpArgs false
set_option maxRecDepth 100000
namespace Go.Proofs.YtpnliencahnmoaaGreatDoor
open Go.RowKit
theorem Bx.drewN {w a : World} {cs : Array Value} {t : TypeId} (h : Bx w cs t a) (n : Nat) : Bx w cs t (a.drewN n) := belowDrewN h n
theorem in_q (w : World) (n lo hi : Int) (p : Bool) (h : inR lo hi n = p) : Calls Tryz.prog 46 #[.int .i64 n, .int .i64 lo, .int .i64 hi] w fun e w' => e = .returned (.bool p) ∧ w' = w := by
  rw [← h]
  exact (l1In_any w n lo hi).mono fun _ _ ⟨a, b⟩ => ⟨a, b.symm⟩
set_option maxHeartbeats 400000 in
theorem l3Args_any (w : World) (op : Int) (n : Int) (h : (if op = 4 then (2 : Int) else 1) = n) : Calls Tryz.prog 213 #[.int .i64 op] w fun e w' => e = .returned (.int .i64 n) ∧ w' = w := by
  by_cases o : op = 4
  · rw [if_pos o] at h
    subst o h
    go_enter Tryz.func213, Tryz.ntmps213
    go_wp2
    go_ret
    exact ⟨rfl, rfl⟩
  · rw [if_neg o] at h
    subst h
    have o := neI o
    go_enter Tryz.func213, Tryz.ntmps213
    go_wp2
    go_ret
    exact ⟨rfl, rfl⟩
theorem nonE {α : Type} {l : List α} (h : ¬ l = []) : l.isEmpty = false := by cases l <;> simp_all
def argOp (args : List Ex) : Int := (args.getD 0 (.mk 0 0 ByteArray.empty [])).op
theorem stOk_eq (isN : ByteArray → Bool) (d : Nat) (op : Int) (name : ByteArray) (args : List Ex) (body els : List St) :
    stOk isN (d + 1) (.mk op name args body els) = (inR 1 8 op && decide ((args.length : Int) = if op = 4 then 2 else 1) && (if decide (op = 1 ∨ op = 2) = true then isN name else decide (name = ByteArray.empty)) && args.all (exVal isN) && (!(op == 8) || argOp args == 13) &&
      ((decide (els.length = 0) || op == 5) && (decide (body.length = 0) || op == 5 || op == 6)) && body.all (stOk isN d) && els.all (stOk isN d)) := by
  have e2 : decide (1 ≤ op ∧ op ≤ 8) = inR 1 8 op := by rw [Bool.eq_iff_iff, decide_eq_true_eq, inR_iff]
  have e3 : decide (args.length = if op = 4 then 2 else 1) = decide ((args.length : Int) = if op = 4 then 2 else 1) := by
    apply decide_eq_decide.mpr
    by_cases h : op = 4 <;> simp [h] <;> omega
  have e4 : decide (op ≠ 8) = !(op == 8) := by by_cases h : op = 8 <;> simp [h]
  have e5 : ∀ l : List St, l.isEmpty = decide (l.length = 0) := fun l => by cases l <;> simp
  have e6 : ∀ k : Int, decide (op = k) = (op == k) := fun k => by by_cases h : op = k <;> simp [h]
  have e7 : ∀ n m : Int, decide (n = m) = (n == m) := fun n m => by by_cases h : n = m <;> simp [h]
  unfold stOk argOp
  simp only [e2, e3, e4, e5, e6, decide_eq_true_eq, Bool.and_assoc]
theorem StsAt.bd {w : World} {a : Option Addr} {n cap : Nat} {ss : List St} (h : StsAt w (.slice a n cap) ss) : n = ss.length := by
  obtain ⟨a', c', hf⟩ := h.form
  injection hf
/-- l3Stmts, its statements being judged -/
theorem l3Stmts_of (d : Nat) (H : ∀ (s : St) (w : World) (av bv ev : Value) (p : Bool), s.name.size ≤ big → ExsAt w av s.args → StsAt w bv s.body → StsAt w ev s.els → stOk isNB d s = p →
      Calls Tryz.prog 202 #[.agg #[.int .i64 s.op, .string s.name, av, bv, ev], .int .i64 d] w (BoolP p w))
    (ss : List St) (w : World) (v : Value) (p : Bool) (h : StsAt w v ss) (hp : ss.all (stOk isNB d) = p) :
    Calls Tryz.prog 162 #[v, .int .i64 d] w (BoolP p w) := by
  obtain ⟨a, cap, hform⟩ := h.form
  subst hform
  obtain ⟨m, hm⟩ : ∃ m, m = ss.length := ⟨_, rfl⟩
  rw [← hm] at h ⊢
  have hmb : m ≤ big := by rw [hm]; exact h.lens.1
  unfold big at hmb
  have HM := Lib.hid hm; have HS := Lib.hid h; have HH := Lib.hid H; have HP := Lib.hid hp
  clear hm h H hp
  go_enter Tryz.func162, Tryz.ntmps162
  go_wp2_with (fail)
  go_loopw [5] (fun i wr => ∃ k : Nat, k ≤ m ∧ i = .int .i64 k ∧ Hid ((ss.take k).all (stOk isNB d) = true) ∧ Below w.heap.size w wr) (fun i _ => m - (intOf i).toNat)
  case atStart => exact ⟨0, Nat.zero_le _, rfl, Lib.hid (by simp), Below.refl _ _⟩
  case round =>
    obtain ⟨k, hk, rfl, hA, hB⟩ := hrel
    obtain ⟨wo, rfl⟩ : ∃ wo : World, wo = wr := ⟨_, rfl⟩
    have HB := Lib.hid hB
    by_cases hlt : k < m
    · have hkl : k < ss.length := by rw [← HM.out]; exact hlt
      obtain ⟨x, hx⟩ : ∃ x, x = ss[k] := ⟨_, rfl⟩
      have hxk : ss[k]? = some x := by rw [hx]; exact List.getElem?_eq_getElem hkl
      obtain ⟨b, off, av, bv, ev, rfl, hbl, e0, e1, e2, e3, e4, ka, kb, ke⟩ := HS.out.get hxk
      have e0 := cellB hB e0; have e1 := cellB hB e1; have e2 := cellB hB e2; have e3 := cellB hB e3; have e4 := cellB hB e4
      obtain ⟨q, hq⟩ : ∃ q, stOk isNB d x = q := ⟨_, rfl⟩
      have HC := Lib.hid (HH.out x wo av bv ev q (HS.out.lens.2 k x hxk) (ka.dn hB) (kb.dn hB) (ke.dn hB) hq)
      have HT := Lib.hid (all_take (stOk isNB d) ss k x hxk)
      have HF := Lib.hid (fun h => all_false (stOk isNB d) (List.mem_of_getElem? hxk) h)
      rw [hq] at HT HF
      have k0 : (0 : Int) ≤ k := by omega
      have k1 : (k : Int) < m := by omega
      clear hB hx hxk hq ka kb ke
      go_wp2_with (fail)
      go_at_call 202
      refine HC.out.mono ?_
      rintro e w2 ⟨rfl, hb⟩
      have HB2 := Lib.hid (HB.out.trans (hb.mono HB.out.size))
      clear hb HC
      cases q
      · go_wp2_with (fail)
        go_ret
        exact ⟨by rw [← HP.out, HF.out (by first | rfl | trivial)]; rfl, HB2.out⟩
      · go_wp2_with (fail)
        go_roundw
        case rel => exact ⟨k + 1, by omega, by go_num, Lib.hid (by rw [HT.out, hA.out]; rfl), HB2.out⟩
        case measure => simp [intOf]; omega
    · obtain rfl : k = m := by omega
      have hall : p = true := by
        have := hA.out
        rw [HM.out, List.take_length] at this
        rw [← HP.out]; exact this
      subst hall
      clear hB hA HP
      go_wp2_with (fail)
      go_ret
      exact ⟨rfl, HB.out⟩
set_option maxHeartbeats 4000000 in
theorem l3Stmt_any : ∀ (d : Nat) (s : St) (w : World) (av bv ev : Value) (p : Bool), d ≤ 4 → s.name.size ≤ big → ExsAt w av s.args → StsAt w bv s.body → StsAt w ev s.els → stOk isNB d s = p →
      Calls Tryz.prog 202 #[.agg #[.int .i64 s.op, .string s.name, av, bv, ev], .int .i64 d] w (BoolP p w) := by
  intro d
  induction d with
  | zero =>
    intro s w av bv ev p _ _ _ _ _ hp
    have : p = false := by rw [← hp]; cases s; rfl
    subst this
    generalize s.op = op at *
    clear hp
    go_enter Tryz.func202, Tryz.ntmps202
    go_wp2_with (fail)
    go_quiet (fail)
    go_wp2_with (fail)
    go_ret
    exact ⟨rfl, belowDr (below1 _ _) _⟩
  | succ d ih =>
    intro s w av bv ev p hd hz hav hbv hev hp
    obtain ⟨op, name, args, body, els⟩ := s
    rw [stOk_eq] at hp
    simp only [St.op, St.name, St.args, St.body, St.els] at hz hav hbv hev ⊢
    have HSS := Lib.hid (fun ss w v p h hp => l3Stmts_of d (fun s w av bv ev p a b c e f => ih s w av bv ev p (by omega) a b c e f) ss w v p h hp)
    obtain ⟨aa, ac, hform⟩ := hav.form
    subst hform
    obtain ⟨ba, bc, hform⟩ := hbv.form
    subst hform
    obtain ⟨ea, ec, hform⟩ := hev.form
    subst hform
    obtain ⟨m, hm⟩ : ∃ m, m = args.length := ⟨_, rfl⟩
    obtain ⟨bl, hbl⟩ : ∃ m, m = body.length := ⟨_, rfl⟩
    obtain ⟨el, hel⟩ : ∃ m, m = els.length := ⟨_, rfl⟩
    rw [← hm] at hav hp ⊢
    rw [← hbl] at hbv hp ⊢
    rw [← hel] at hev hp ⊢
    have hmb : m ≤ big := by rw [hm]; exact hav.lens.1
    have hbb : bl ≤ big := by rw [hbl]; exact hbv.lens.1
    have heb : el ≤ big := by rw [hel]; exact hev.lens.1
    obtain ⟨p1, h1⟩ : ∃ q, inR 1 8 op = q := ⟨_, rfl⟩
    obtain ⟨na, hna⟩ : ∃ q : Int, (if op = 4 then (2 : Int) else 1) = q := ⟨_, rfl⟩
    obtain ⟨p2, h2⟩ : ∃ q, ((m : Int) == na) = q := ⟨_, rfl⟩
    have h2' : ((m : Int) != na) = !p2 := by rw [← h2]; rfl
    obtain ⟨p3, h3⟩ : ∃ q, isNB name = q := ⟨_, rfl⟩
    obtain ⟨p4, h4⟩ : ∃ q, decide (name = ByteArray.empty) = q := ⟨_, rfl⟩
    obtain ⟨nm, hnm⟩ : ∃ q, decide (op = 1 ∨ op = 2) = q := ⟨_, rfl⟩
    obtain ⟨pa, hpa⟩ : ∃ q, args.all (exVal isNB) = q := ⟨_, rfl⟩
    obtain ⟨o8, h8⟩ : ∃ q, (op == 8) = q := ⟨_, rfl⟩
    obtain ⟨o5, h5⟩ : ∃ q, (op == 5) = q := ⟨_, rfl⟩
    obtain ⟨o6, h6⟩ : ∃ q, (op == 6) = q := ⟨_, rfl⟩
    have h5' : (op != 5) = !o5 := by rw [← h5]; rfl
    have h6' : (op != 6) = !o6 := by rw [← h6]; rfl
    obtain ⟨ao, hao⟩ : ∃ q, argOp args = q := ⟨_, rfl⟩
    obtain ⟨a13, h13⟩ : ∃ q, (ao == 13) = q := ⟨_, rfl⟩
    have h13' : (ao != 13) = !a13 := by rw [← h13]; rfl
    obtain ⟨pb, hpb⟩ : ∃ q, body.all (stOk isNB d) = q := ⟨_, rfl⟩
    obtain ⟨pe, hpe⟩ : ∃ q, els.all (stOk isNB d) = q := ⟨_, rfl⟩
    obtain ⟨q3, hq3⟩ : ∃ q, (if nm = true then p3 else p4) = q := ⟨_, rfl⟩
    obtain ⟨q4, hq4⟩ : ∃ q, (!o8 || a13) = q := ⟨_, rfl⟩
    obtain ⟨q5, hq5⟩ : ∃ q, ((decide (el = 0) || o5) && (decide (bl = 0) || o5 || o6)) = q := ⟨_, rfl⟩
    have HP : Hid ((p1 && p2 && q3 && pa && q4 && q5 && pb && pe) = p) := Lib.hid (by
      rw [← hp, h1, hna, hpa, h8, h5, h6, hao, h13, hpb, hpe, hnm, h3, h4, ← hq3, ← hq4, ← hq5]
      have : decide ((m : Int) = na) = p2 := by rw [← h2]; by_cases e : (m : Int) = na <;> simp [e]
      rw [this])
    have hsplit : ((op == 1) = true ∧ nm = true) ∨ ((op == 1) = false ∧ (op == 2) = true ∧ nm = true) ∨ ((op == 1) = false ∧ (op == 2) = false ∧ nm = false) := by
      by_cases a2 : op = 1
      · exact .inl ⟨eqI a2, by rw [← hnm]; simp [a2]⟩
      by_cases a13 : op = 2
      · exact .inr (.inl ⟨neI a2, eqI a13, by rw [← hnm]; simp [a13]⟩)
      · exact .inr (.inr ⟨neI a2, neI a13, by rw [← hnm]; simp [a2, a13]⟩)
    have H4 : Hid (name.toList = [] ↔ p4 = true) := Lib.hid (empty_iff h4)
    have H34 : Hid (p3 = true → p4 = false) := Lib.hid (empty_no h3 h4)
    have HN := Lib.hid (fun w' => specName_any w' name p3 hz h3)
    have HI := Lib.hid (fun w => in_q w op 1 8 p1 h1)
    have HA := Lib.hid (fun w => l3Args_any w op na hna)
    have HPB := Lib.hid (fun w' (hb : Below w.heap.size w w') => HSS.out body w' _ pb (hbv.dn hb) hpb)
    have HPE := Lib.hid (fun w' (hb : Below w.heap.size w w') => HSS.out els w' _ pe (hev.dn hb) hpe)
    have HPA := Lib.hid hpa; have HM := Lib.hid hm; have HAV := Lib.hid hav; have HAO := Lib.hid hao; have HNA := Lib.hid hna
    have HP2 := Lib.hid h2; have H8 := Lib.hid h8; have H13 := Lib.hid h13'; have H5 := Lib.hid h5'; have H6 := Lib.hid h6'; have HQ3 := Lib.hid hq3; have HQ4 := Lib.hid hq4; have HQ5 := Lib.hid hq5
    unfold big at hmb hbb heb hz
    clear hp h1 hna h2 h3 h4 hnm hpa h8 h5 h6 h5' h6' h13' hao h13 hpb hpe hq3 hq4 hq5 hm hbl hel hav hbv hev HSS ih
    have hdd : decide ((d : Int) + 1 < 1) = false := decide_eq_false (by omega)
    rw [show ((d + 1 : Nat) : Int) = (d : Int) + 1 by omega]
    go_enter Tryz.func202, Tryz.ntmps202
    go_wp2_with (fail)
    cases p1
    · go_quiet ((go_at_call 46; exact Calls.quiet_of_same (HI.out _)))
      go_wp2_with (fail)
      go_ret
      exact ⟨by rw [← HP.out]; rfl, belowDr (below1 _ _) _⟩
    cases p2
    · have h2'' : ((m : Int) != na) = true := h2'
      clear h2'
      go_quiet (first | (go_at_call 46; exact Calls.quiet_of_same (HI.out _)) | (go_at_call 213; exact Calls.quiet_of_same (HA.out _)))
      go_wp2_with (fail)
      go_ret
      exact ⟨by rw [← HP.out]; rfl, belowDr (below1 _ _) _⟩
    have h2'' : ((m : Int) != na) = false := h2'
    clear h2'
    go_quiet (first | (go_at_call 46; exact Calls.quiet_of_same (HI.out _)) | (go_at_call 213; exact Calls.quiet_of_same (HA.out _)))
    clear h2''
    generalize hW : World.drewN _ _ = W
    have HX : Hid (Bx w #[.int .i64 op, .string name, .slice aa m ac, .slice ba bl bc, .slice ea el ec] 70 W) := by rw [← hW]; exact Lib.hid ((Bx.refl _ _ _).drewN _)
    clear hW
    have c0 := HX.out.at 0 rfl
    have c1 := HX.out.at 1 rfl
    go_upto_region 3 with (fail)
    go_cut [5] from 24 to 31 (fun c wx => c = .bool nm ∧ wx = W)
    case first =>
      rcases hsplit with ⟨o2, rfl⟩ | ⟨o2, o13, rfl⟩ | ⟨o2, o13, rfl⟩
      all_goals
        go_wp2_with (fail)
        go_meet
        case rel => exact ⟨rfl, rfl⟩
    case rest =>
    obtain ⟨rfl, rfl⟩ := hcut
    clear hsplit
    go_upto_region 4 with (fail)
    go_cut [45] from 32 to 45 (fun c wx => ∃ c' : Bool, c = .bool c' ∧ Hid (c' = !q3) ∧ Hid (Bx w #[.int .i64 op, .string name, .slice aa m ac, .slice ba bl bc, .slice ea el ec] 70 wx))
    case first =>
      go_wp2_with (fail)
      go_at_call 161
      refine (HN.out _).mono ?_
      rintro e w2 ⟨rfl, hb⟩
      have HB2 := Lib.hid (HX.out.to hb)
      have c1 := HB2.out.at 1 rfl
      clear hb
      cases nm <;> cases p3
      · cases p4
        · have hn : name.toList.isEmpty = false := nonE (fun h => by have := H4.out.1 h; cases this)
          go_wp2_with (fail)
          go_meet
          case rel => exact ⟨_, rfl, Lib.hid (by rw [← HQ3.out]; rfl), HB2⟩
        · have hn : name.toList = [] := H4.out.2 rfl
          go_wp2_with (fail)
          go_meet
          case rel => exact ⟨_, rfl, Lib.hid (by rw [← HQ3.out]; rfl), HB2⟩
      · have h4 := H34.out rfl
        subst h4
        go_wp2_with (fail)
        go_meet
        case rel => exact ⟨_, rfl, Lib.hid (by rw [← HQ3.out]; rfl), HB2⟩
      · go_wp2_with (fail)
        go_meet
        case rel => exact ⟨_, rfl, Lib.hid (by rw [← HQ3.out]; rfl), HB2⟩
      · go_wp2_with (fail)
        go_meet
        case rel => exact ⟨_, rfl, Lib.hid (by rw [← HQ3.out]; rfl), HB2⟩
    case rest =>
    obtain ⟨c', rfl, hcq, HXc⟩ := hcut
    clear c0 c1 HX HN H4 H34 HQ3
    cases q3
    · obtain rfl : c' = true := hcq.out
      go_wp2_with (fail)
      go_ret
      exact ⟨by rw [← HP.out]; rfl, HXc.out.bel⟩
    obtain rfl : c' = false := hcq.out
    clear hcq
    go_wp2_with (fail)
    go_loopw [6] (fun i wr => ∃ k : Nat, k ≤ m ∧ i = .int .i64 k ∧ Hid ((args.take k).all (exVal isNB) = true) ∧ Hid (Bx w #[.int .i64 op, .string name, .slice aa m ac, .slice ba bl bc, .slice ea el ec] 70 wr)) (fun i _ => m - (intOf i).toNat)
    case atStart => exact ⟨0, Nat.zero_le _, rfl, Lib.hid (by simp), HXc⟩
    case round =>
    obtain ⟨k, hk, rfl, hA, HX⟩ := hrel
    obtain ⟨wo, rfl⟩ : ∃ wo : World, wo = wr := ⟨_, rfl⟩
    have g2 := HX.out.at 2 rfl
    by_cases hlt : k < m
    · have hkl : k < args.length := by rw [← HM.out]; exact hlt
      obtain ⟨x, hx⟩ : ∃ x, x = args[k] := ⟨_, rfl⟩
      have hxk : args[k]? = some x := by rw [hx]; exact List.getElem?_eq_getElem hkl
      obtain ⟨b, off, kv, rfl, hbl, e0, e1, e2, e3, hkx⟩ := HAV.out.get hxk
      have hb1 := HX.out.bel
      have e0 := cellB hb1 e0; have e1 := cellB hb1 e1; have e2 := cellB hb1 e2; have e3 := cellB hb1 e3
      obtain ⟨q, hq⟩ : ∃ q, exVal isNB x = q := ⟨_, rfl⟩
      have HC := Lib.hid (exVal_any x wo kv q (HAV.out.lens.2 k x hxk) (hkx.dn hb1) hq)
      have HT := Lib.hid (all_take (exVal isNB) args k x hxk)
      have HF := Lib.hid (fun h => all_false (exVal isNB) (List.mem_of_getElem? hxk) h)
      rw [hq] at HT HF
      have k0 : (0 : Int) ≤ k := by omega
      have k1 : (k : Int) < m := by omega
      clear hx hxk hq hb1 hkx
      go_wp2_with (fail)
      go_at_call 214
      refine HC.out.mono ?_
      rintro e w2 ⟨rfl, hb⟩
      have HB2 := Lib.hid (HX.out.to hb)
      clear hb HC
      cases q
      · go_wp2_with (fail)
        go_ret
        exact ⟨by rw [← HP.out, ← HPA.out, HF.out (by first | rfl | trivial)]; rfl, HB2.out.bel⟩
      · go_wp2_with (fail)
        go_roundw
        case rel => exact ⟨k + 1, by omega, by go_num, Lib.hid (by rw [HT.out, hA.out]; rfl), HB2⟩
        case measure => simp [intOf]; omega
    obtain rfl : m = k := by omega
    have hall : pa = true := by
      have := hA.out
      rw [HM.out, List.take_length] at this
      rw [← HPA.out]; exact this
    subst hall
    clear hA HPA
    have g0 := HX.out.at 0 rfl
    go_upto_region 11 with (fail)
    go_cut [70] from 60 to 70 (fun c wx => ∃ c' : Bool, c = .bool c' ∧ Hid (c' = !q4) ∧ wx = wo)
    case first =>
      cases o8
      · have h8 := H8.out
        go_wp2_with (fail)
        go_meet
        case rel => exact ⟨_, rfl, Lib.hid (by rw [← HQ4.out]; rfl), rfl⟩
      · have h1 : m = 1 := by
          have h2 := HP2.out
          rw [beq_iff_eq] at h2
          have h3 := HNA.out
          rw [if_neg (by have := H8.out; rw [beq_iff_eq] at this; omega)] at h3
          omega
        obtain ⟨x, hx⟩ : ∃ x, args[0]? = some x := ⟨_, List.getElem?_eq_getElem (by rw [← HM.out, h1]; decide)⟩
        have hxo : x.op = ao := by rw [← HAO.out]; unfold argOp; rw [List.getD_eq_getElem?_getD, hx]; rfl
        obtain ⟨b, off, kv, rfl, hbl, e0, _⟩ := HAV.out.get hx
        have e0 := cellB HX.out.bel e0
        rw [hxo] at e0
        simp only [Nat.zero_mul, Nat.add_zero] at e0
        have g2 := HX.out.at 2 rfl
        have m1 : (1 : Int) ≤ m := by omega
        have m0 : (0 : Int) < m := by omega
        have m2 : 0 < m := by omega
        have h8 := H8.out
        have h13' : (ao != 13) = !a13 := H13.out
        clear hx hxo h1
        cases a13
        all_goals
        go_wp2_with (fail)
        go_meet
        case rel => exact ⟨_, rfl, Lib.hid (by rw [← HQ4.out]; rfl), rfl⟩
    case rest =>
    obtain ⟨c', rfl, hcq, rfl⟩ := hcut
    cases q4
    · obtain rfl : c' = true := hcq.out
      go_wp2_with (fail)
      go_ret
      exact ⟨by rw [← HP.out]; rfl, HX.out.bel⟩
    obtain rfl : c' = false := hcq.out
    clear hcq HQ4
    have g3 := HX.out.at 3 rfl
    have g4 := HX.out.at 4 rfl
    go_upto_region 13 with (fail)
    go_cut [95] from 71 to 95 (fun c wx => ∃ c' : Bool, c = .bool c' ∧ Hid (c' = !q5) ∧ wx = wc)
    case first =>
      have i5 : (op != 5) = !o5 := H5.out
      have i6 : (op != 6) = !o6 := H6.out
      rcases (show (el = 0 ∧ decide (el = 0) = true) ∨ (0 < el ∧ decide (el = 0) = false) by by_cases h : el = 0 <;> simp [h] <;> omega) with ⟨rfl, hE⟩ | ⟨hE0, hE⟩
      all_goals rcases (show (bl = 0 ∧ decide (bl = 0) = true) ∨ (0 < bl ∧ decide (bl = 0) = false) by by_cases h : bl = 0 <;> simp [h] <;> omega) with ⟨rfl, hF⟩ | ⟨hF0, hF⟩
      all_goals cases o5 <;> cases o6
      all_goals
        have HE := Lib.hid hE
        have HF := Lib.hid hF
        simp only [Bool.not_true, Bool.not_false] at i5 i6
        clear hE hF
        go_wp2_with (fail)
        go_meet
        case rel => exact ⟨_, rfl, Lib.hid (by rw [← HQ5.out]; first | rfl | (rw [HE.out]; rfl) | (rw [HF.out]; rfl) | (rw [HE.out, HF.out]; rfl)), rfl⟩
    case rest =>
    obtain ⟨c', rfl, hcq, rfl⟩ := hcut
    cases q5
    · obtain rfl : c' = true := hcq.out
      go_wp2_with (fail)
      go_ret
      exact ⟨by rw [← HP.out, Bool.and_false]; rfl, HX.out.bel⟩
    obtain rfl : c' = false := hcq.out
    clear hcq HQ5
    go_wp2_with (fail)
    go_at_call 162
    refine (HPB.out _ HX.out.bel).mono ?_
    rintro e w2 ⟨rfl, hb⟩
    have HX2 := Lib.hid (HX.out.to hb)
    have g4 := HX2.out.at 4 rfl
    clear hb
    cases pb
    · go_wp2_with (fail)
      go_ret
      exact ⟨by rw [← HP.out]; simp, HX2.out.bel⟩
    go_wp2_with (fail)
    go_at_call 162
    refine (HPE.out _ HX2.out.bel).mono ?_
    rintro e w3 ⟨rfl, hb⟩
    have HX3 := Lib.hid (HX2.out.to hb)
    clear hb
    go_wp2_with (fail)
    go_ret
    exact ⟨by rw [← HP.out]; simp, HX3.out.bel⟩
theorem l3Stmts_any (d : Nat) (hd : d ≤ 4) (ss : List St) (w : World) (v : Value) (p : Bool) (h : StsAt w v ss) (hp : ss.all (stOk isNB d) = p) :
    Calls Tryz.prog 162 #[v, .int .i64 d] w (BoolP p w) :=
  l3Stmts_of d (fun s w av bv ev p a b c e f => l3Stmt_any d s w av bv ev p hd a b c e f) ss w v p h hp
end Go.Proofs.YtpnliencahnmoaaGreatDoor

set_option linter.unusedVariables false
set_option linter.unusedSimpArgs false
set_option maxRecDepth 100000
namespace Go.Proofs.YtpnliencahnmoaaGreatDoor
open Go.RowKit
theorem stCount_le : ∀ (d : Nat) (s : St), stCount d s ≤ 1 + stW s := by
  intro d
  induction d with
  | zero => intro s; simp [stCount]
  | succ d ih =>
    intro s
    obtain ⟨op, name, args, body, els⟩ := s
    have hs : ∀ l : List St, (l.map (stCount d)).sum ≤ stsW l := by
      intro l
      induction l with
      | nil => simp
      | cons x l ihl =>
        have := ih x
        rw [stsW]
        simp only [List.map_cons, List.sum_cons]
        omega
    have a := hs body
    have b := hs els
    rw [stW]
    simp only [stCount]
    omega
theorem stCounts_le (d : Nat) (l : List St) : (l.map (stCount d)).sum ≤ stsW l := by
  induction l with
  | nil => simp
  | cons x l ihl =>
    have := stCount_le d x
    rw [stsW]
    simp only [List.map_cons, List.sum_cons]
    omega
def QInt (n : Int) (w : World) (e : Ending) (w' : World) : Prop := e = .returned (.int .i64 n) ∧ ∃ m, w' = w.drewN m
theorem quietOf {P : Program} {f : FuncId} {args : Array Value} {w : World} {x : Int} (h : ∀ n, Calls P f args (w.drewN n) (QInt x w)) : ∀ n, Calls P f args (w.drewN n) fun e w'' => e = .returned (.int .i64 x) ∧ ∃ m, w'' = w.drewN m := h
def DrN (w w' : World) : Prop := ∃ q, w' = w.drewN q
theorem DrN.bel {w w' : World} (h : DrN w w') : Below w.heap.size w w' := by obtain ⟨q, rfl⟩ := h; exact belowDr (Below.refl _ _) q
theorem DrN.drewN {w w' : World} (h : DrN w w') (n : Nat) : DrN w (w'.drewN n) := by obtain ⟨q, rfl⟩ := h; exact ⟨_, World.drewN_drewN _ _ _⟩
theorem StsAt.dr {w : World} {v : Value} {ss : List St} (h : StsAt w v ss) (n : Nat) : StsAt (w.drewN n) v ss := h.dn (belowDr (Below.refl _ _) n)
set_option maxHeartbeats 2000000 in
theorem l3Count_any : ∀ (d : Nat) (ss : List St) (w : World) (v : Value), ss.all (stOk isNB d) = true → StsAt w v ss → (ss.map (stCount d)).sum ≤ 4194304 → ∀ n,
    Calls Tryz.prog 163 #[v] (w.drewN n) (QInt (((ss.map (stCount d)).sum : Nat) : Int) w) := by
  intro d
  induction d with
  | zero =>
    intro ss w v hok h _ n
    have : ss = [] := by
      cases ss with
      | nil => rfl
      | cons x l => simp [stOk] at hok
    subst this
    obtain ⟨a, cap, hform⟩ := h.form
    subst hform
    clear h hok
    go_enter Tryz.func163, Tryz.ntmps163
    go_wp2_with (fail)
    go_loop [3, 4] (fun n i => n = .int .i64 0 ∧ i = .int .i64 0) (fun _ _ => 0)
    case atStart => exact ⟨rfl, rfl⟩
    case round =>
      obtain ⟨rfl, rfl⟩ := hrel
      go_wp2_with (fail)
      go_ret
      exact ⟨rfl, _, rfl⟩
  | succ d ih =>
    intro ss w v hok h hle n
    rw [List.all_eq_true] at hok
    obtain ⟨a, cap, hform⟩ := h.form
    subst hform
    obtain ⟨m, hm⟩ : ∃ m, m = ss.length := ⟨_, rfl⟩
    rw [← hm] at h ⊢
    have hmb : m ≤ big := by rw [hm]; exact h.lens.1
    unfold big at hmb
    obtain ⟨P, hP⟩ : ∃ P, P = (ss.map (stCount (d + 1))).sum := ⟨_, rfl⟩
    rw [← hP] at hle ⊢
    -- what is added at each: all but the one that the length counts
    obtain ⟨ad, had⟩ : ∃ ad : St → Nat, ad = fun s => stCount (d + 1) s - 1 := ⟨_, rfl⟩
    have hone : ∀ s : St, stCount (d + 1) s = 1 + (s.body.map (stCount d)).sum + (s.els.map (stCount d)).sum := fun s => by cases s; rfl
    have hsum : ∀ l : List St, (l.map (stCount (d + 1))).sum = l.length + (l.map ad).sum := by
      intro l
      induction l with
      | nil => rfl
      | cons x l ihl =>
        have := hone x
        simp only [List.map_cons, List.sum_cons, List.length_cons, ihl, had]
        omega
    have hadx : ∀ s : St, ad s = (s.body.map (stCount d)).sum + (s.els.map (stCount d)).sum := fun s => by rw [had]; have := hone s; simp only []; omega
    have HP : Hid (P = m + (ss.map ad).sum) := Lib.hid (by rw [hP, hsum, hm])
    have HAD := Lib.hid hadx
    have HOK : Hid (∀ x ∈ ss, x.body.all (stOk isNB d) = true ∧ x.els.all (stOk isNB d) = true) := Lib.hid (fun x hx => by
      have := hok x hx
      obtain ⟨op, name, args, body, els⟩ := x
      rw [stOk_eq] at this
      simp only [Bool.and_eq_true] at this
      exact ⟨this.1.2, this.2⟩)
    have HM := Lib.hid hm; have HS := Lib.hid (h.dr n); have IH := Lib.hid ih
    generalize hw0 : w.drewN n = w0 at *
    have HD : Hid (DrN w w0) := Lib.hid ⟨n, hw0.symm⟩
    clear hok hm h ih hP had hone hsum hadx hw0
    go_enter Tryz.func163, Tryz.ntmps163
    go_wp2_with (fail)
    go_loopw [3, 4] (fun nv i wr => ∃ k s : Nat, k ≤ m ∧ i = .int .i64 k ∧ nv = .int .i64 s ∧ s ≤ 4194304 ∧ Hid (s = m + ((ss.take k).map ad).sum) ∧ Hid (DrN w0 wr)) (fun _ i _ => m - (intOf i).toNat)
    case atStart => exact ⟨0, m, Nat.zero_le _, rfl, rfl, by have := HP.out; omega, Lib.hid (by simp), Lib.hid ⟨0, rfl⟩⟩
    case round =>
    obtain ⟨k, s, hk, rfl, rfl, hs5, hs, hD⟩ := hrel
    obtain ⟨wo, rfl⟩ : ∃ wo : World, wo = wr := ⟨_, rfl⟩
    by_cases hlt : k < m
    · have hkl : k < ss.length := by rw [← HM.out]; exact hlt
      obtain ⟨x, hx⟩ : ∃ x, x = ss[k] := ⟨_, rfl⟩
      have hxk : ss[k]? = some x := by rw [hx]; exact List.getElem?_eq_getElem hkl
      obtain ⟨b, off, av, bv, ev, rfl, hbl, e0, e1, e2, e3, e4, ka, kb, ke⟩ := HS.out.get hxk
      have hB := hD.out.bel
      have e3 := cellB hB e3; have e4 := cellB hB e4
      obtain ⟨cb, hcb⟩ : ∃ q, q = (x.body.map (stCount d)).sum := ⟨_, rfl⟩
      obtain ⟨ce, hce⟩ : ∃ q, q = (x.els.map (stCount d)).sum := ⟨_, rfl⟩
      have hT := sum_take_succ ad ss k x hxk
      have hL := sum_take_le ad ss (k + 1)
      rw [HAD.out x, ← hcb, ← hce] at hT
      have hsq : s + cb + ce ≤ P := by have := hs.out; have := HP.out; omega
      have HT : Hid (s + cb + ce = m + ((ss.take (k + 1)).map ad).sum) := Lib.hid (by rw [hT, hs.out]; omega)
      have HC1 := Lib.hid (quietOf (IH.out x.body wo bv (HOK.out x (List.mem_of_getElem? hxk)).1 (kb.dn hB) (by omega)))
      have HC2 := Lib.hid (quietOf (IH.out x.els wo ev (HOK.out x (List.mem_of_getElem? hxk)).2 (ke.dn hB) (by omega)))
      rw [← hcb] at HC1
      rw [← hce] at HC2
      have k0 : (0 : Int) ≤ k := by omega
      have k1 : (k : Int) < m := by omega
      have w1 : IntKind.i64.wrap ((s : Int) + cb) = s + cb := IntWalk.i64_in _ (by omega)
      have w2 : IntKind.i64.wrap ((s : Int) + cb + ce) = s + cb + ce := IntWalk.i64_in _ (by omega)
      clear hx hxk hB ka kb ke hcb hce hT hL e0 e1 e2
      go_wp2_with (fail)
      go_quiet (first | (go_at_call 163; (with_reducible exact HC1.out _)) | (go_at_call 163; (with_reducible exact HC2.out _)))
      clear w1 w2
      go_wp2_with (fail)
      go_roundw
      case rel => exact ⟨k + 1, s + cb + ce, by omega, by go_num, by go_num, by omega, HT, Lib.hid (hD.out.drewN _)⟩
      case measure => simp [intOf]; omega
    · obtain rfl : m = k := by omega
      obtain rfl : s = P := by
        have := hs.out
        rw [HM.out, List.take_length] at this
        rw [HP.out, this, HM.out]
      have hr : ∃ q, wo = w.drewN q := by
        obtain ⟨a, ha⟩ := HD.out
        obtain ⟨b, hb⟩ := hD.out
        exact ⟨a + b, by rw [hb, ha, World.drewN_drewN]⟩
      have HR := Lib.hid hr
      clear hs HP hr
      go_wp2_with (fail)
      go_ret
      exact ⟨rfl, HR.out⟩
theorem FxsAt.get {w : World} {a : Option Addr} {n cap : Nat} {fs : List Fx} (h : FxsAt w (.slice a n cap) fs) {i : Nat} {f : Fx} (hi : fs[i]? = some f) :
    f.name.size ≤ big ∧ ∃ b off pv bv, a = some ⟨b, off, none⟩ ∧ b < w.heap.size ∧ w.cell? ⟨b, off + i * 3, none⟩ = some (.string f.name) ∧ w.cell? ⟨b, off + i * 3 + 1, none⟩ = some pv ∧ w.cell? ⟨b, off + i * 3 + 2, none⟩ = some bv ∧ StrsAt w pv f.params ∧ StsAt w bv f.body := by
  obtain ⟨a', cap', hv, _, hc⟩ := h
  injection hv with hv _ _
  subst hv
  obtain ⟨hz, b, off, pv, bv, ha, c0, c1, c2, h1, h2⟩ := hc i f hi
  exact ⟨hz, b, off, pv, bv, ha, World.block_lt_of_cell? _ _ c0, c0, c1, c2, h1, h2⟩
theorem FxsAt.form {w : World} {v : Value} {fs : List Fx} (h : FxsAt w v fs) : ∃ a cap, v = .slice a fs.length cap ∧ fs.length ≤ big := by
  obtain ⟨a, cap, hv, hm, _⟩ := h
  exact ⟨a, cap, hv, hm⟩
theorem StrsAt.form {w : World} {v : Value} {ss : List ByteArray} (h : StrsAt w v ss) : ∃ a cap, v = .slice a ss.length cap ∧ ss.length ≤ big := by
  obtain ⟨a, cap, hv, hm, _⟩ := h
  exact ⟨a, cap, hv, hm⟩
theorem StrsAt.get {w : World} {a : Option Addr} {n cap : Nat} {ss : List ByteArray} (h : StrsAt w (.slice a n cap) ss) {i : Nat} {s : ByteArray} (hi : ss[i]? = some s) :
    s.size ≤ big ∧ ∃ b off, a = some ⟨b, off, none⟩ ∧ b < w.heap.size ∧ w.cell? ⟨b, off + i, none⟩ = some (.string s) := by
  obtain ⟨a', cap', hv, _, hc⟩ := h
  injection hv with hv _ _
  subst hv
  obtain ⟨hz, b, off, ha, c0⟩ := hc i s hi
  exact ⟨hz, b, off, ha, World.block_lt_of_cell? _ _ c0, c0⟩
set_option maxHeartbeats 2000000 in
theorem l3Fn_any (f : Fx) (w : World) (pv bv : Value) (p : Bool) (hz : f.name.size ≤ big) (hpv : StrsAt w pv f.params) (hbv : StsAt w bv f.body) (hp : fxOk isNB f = p) :
    Calls Tryz.prog 126 #[.agg #[.string f.name, pv, bv]] w (BoolP p w) := by
  obtain ⟨name, params, body⟩ := f
  simp only [] at hz hpv hbv ⊢
  obtain ⟨aa, ac, hform, hmb⟩ := hpv.form
  subst hform
  obtain ⟨m, hm⟩ : ∃ m, m = params.length := ⟨_, rfl⟩
  rw [← hm] at hpv hmb ⊢
  obtain ⟨p1, h1⟩ : ∃ q, isNB name = q := ⟨_, rfl⟩
  obtain ⟨p3, h3⟩ : ∃ q, params.all isNB = q := ⟨_, rfl⟩
  obtain ⟨p4, h4⟩ : ∃ q, body.all (stOk isNB 4) = q := ⟨_, rfl⟩
  have HP : Hid ((p1 && decide (m ≤ 3) && p3 && p4) = p) := Lib.hid (by rw [← hp, fxOk, h1, h3, h4, hm])
  have HN := Lib.hid (fun w' => specName_any w' name p1 hz h1)
  have HB := Lib.hid (fun w' (hb : Below w.heap.size w w') => l3Stmts_any 4 (by omega) body w' bv p4 (hbv.dn hb) h4)
  have H3 := Lib.hid h3; have HM := Lib.hid hm; have HPV := Lib.hid hpv
  unfold big at hmb
  clear hp h1 h3 h4 hm hpv hbv
  go_enter Tryz.func126, Tryz.ntmps126
  go_wp2_with (fail)
  go_loopw [3] (fun i wr => ∃ k : Nat, k ≤ m ∧ i = .int .i64 k ∧ Hid ((params.take k).all isNB = true) ∧ Hid (Bx w #[.string name, .slice aa m ac, bv] 64 wr)) (fun i _ => m - (intOf i).toNat)
  case atStart => exact ⟨0, Nat.zero_le _, rfl, Lib.hid (by simp), Lib.hid (Bx.refl _ _ _)⟩
  case round =>
  obtain ⟨k, hk, rfl, hA, HX⟩ := hrel
  obtain ⟨wo, rfl⟩ : ∃ wo : World, wo = wr := ⟨_, rfl⟩
  have g1 := HX.out.at 1 rfl
  by_cases hlt : k < m
  · have hkl : k < params.length := by rw [← HM.out]; exact hlt
    obtain ⟨x, hx⟩ : ∃ x, x = params[k] := ⟨_, rfl⟩
    have hxk : params[k]? = some x := by rw [hx]; exact List.getElem?_eq_getElem hkl
    obtain ⟨hz1, b, off, rfl, hbl, e0⟩ := HPV.out.get hxk
    have e0 := cellB HX.out.bel e0
    obtain ⟨q, hq⟩ : ∃ q, isNB x = q := ⟨_, rfl⟩
    have HC := Lib.hid (specName_any wo x q hz1 hq)
    have HT := Lib.hid (all_take isNB params k x hxk)
    have HF := Lib.hid (fun h => all_false isNB (List.mem_of_getElem? hxk) h)
    rw [hq] at HT HF
    have k0 : (0 : Int) ≤ k := by omega
    have k1 : (k : Int) < m := by omega
    clear hx hxk hq hz1
    go_wp2_with (fail)
    go_at_call 161
    refine HC.out.mono ?_
    rintro e w2 ⟨rfl, hb⟩
    have HB2 := Lib.hid (HX.out.to hb)
    clear hb HC
    cases q
    · go_wp2_with (fail)
      go_ret
      exact ⟨by rw [← HP.out, ← H3.out, HF.out (by first | rfl | trivial)]; simp, HB2.out.bel⟩
    · go_wp2_with (fail)
      go_roundw
      case rel => exact ⟨k + 1, by omega, by go_num, Lib.hid (by rw [HT.out, hA.out]; rfl), HB2⟩
      case measure => simp [intOf]; omega
  obtain rfl : m = k := by omega
  have hall : p3 = true := by
    have := hA.out
    rw [HM.out, List.take_length] at this
    rw [← H3.out]; exact this
  subst hall
  clear hA H3
  have g0 := HX.out.at 0 rfl
  go_wp2_with (fail)
  go_at_call 161
  refine (HN.out _).mono ?_
  rintro e w2 ⟨rfl, hb⟩
  have HX2 := Lib.hid (HX.out.to hb)
  have g1 := HX2.out.at 1 rfl
  have g2 := HX2.out.at 2 rfl
  clear hb
  cases p1
  · go_wp2_with (fail)
    go_ret
    exact ⟨by rw [← HP.out]; rfl, HX2.out.bel⟩
  by_cases h3 : m ≤ 3
  · go_wp2_with (fail)
    go_at_call 162
    refine (HB.out _ HX2.out.bel).mono ?_
    rintro e w3 ⟨rfl, hb⟩
    have HX3 := Lib.hid (HX2.out.to hb)
    have HQ : Hid (p4 = p) := Lib.hid (by rw [← HP.out]; simp [h3])
    clear hb HP
    go_wp2_with (fail)
    go_ret
    exact ⟨by rw [← HQ.out]; rfl, HX3.out.bel⟩
  · go_wp2_with (fail)
    go_ret
    exact ⟨by rw [← HP.out]; simp [h3], HX2.out.bel⟩
def fsCount (fs : List Fx) : Nat := (fs.map fun f => (f.body.map (stCount 4)).sum).sum
theorem fsCount_le (fs : List Fx) : fsCount fs ≤ fxsW fs := by
  unfold fsCount fxsW
  have : (fs.map fun f => (f.body.map (stCount 4)).sum).sum ≤ (fs.map fxW).sum := by
    induction fs with
    | nil => simp
    | cons x l ih =>
      have := stCounts_le 4 x.body
      have h2 : fxW x = x.name.size + strsW x.params + stsW x.body := rfl
      simp only [List.map_cons, List.sum_cons]
      omega
  omega
set_option maxHeartbeats 2000000 in
theorem l3All_any (fs : List Fx) (w : World) (fv : Value) (hok : fs.all (fxOk isNB) = true) (h : FxsAt w fv fs) (hle : fsCount fs ≤ 4194304) :
    Calls Tryz.prog 127 #[.agg #[fv]] w (IntB (fsCount fs : Nat) w) := by
  obtain ⟨a, cap, hform, hmb⟩ := h.form
  subst hform
  rw [List.all_eq_true] at hok
  obtain ⟨m, hm⟩ : ∃ m, m = fs.length := ⟨_, rfl⟩
  rw [← hm] at h hmb ⊢
  obtain ⟨P, hP⟩ : ∃ P, P = fsCount fs := ⟨_, rfl⟩
  rw [← hP] at hle ⊢
  obtain ⟨ad, had⟩ : ∃ ad : Fx → Nat, ad = fun f => (f.body.map (stCount 4)).sum := ⟨_, rfl⟩
  have HP : Hid (P = (fs.map ad).sum) := Lib.hid (by rw [hP, had]; rfl)
  have HA : Hid (∀ f, ad f = (f.body.map (stCount 4)).sum) := Lib.hid (fun f => by rw [had])
  have HOK : Hid (∀ x ∈ fs, x.body.all (stOk isNB 4) = true) := Lib.hid (fun x hx => by
    have := hok x hx
    unfold fxOk at this
    simp only [Bool.and_eq_true] at this
    exact this.2)
  have HM := Lib.hid hm; have HS := Lib.hid h
  unfold big at hmb
  clear hok hm h hP had
  go_enter Tryz.func127, Tryz.ntmps127
  go_wp2_with (fail)
  go_loopw [3, 4] (fun nv i wr => ∃ k s : Nat, k ≤ m ∧ i = .int .i64 k ∧ nv = .int .i64 s ∧ s ≤ 4194304 ∧ Hid (s = ((fs.take k).map ad).sum) ∧ Hid (Bx w #[.slice a m cap] 31 wr)) (fun _ i _ => m - (intOf i).toNat)
  case atStart => exact ⟨0, 0, Nat.zero_le _, rfl, rfl, by omega, Lib.hid (by simp), Lib.hid (Bx.refl _ _ _)⟩
  case round =>
  obtain ⟨k, s, hk, rfl, rfl, hs5, hs, HX⟩ := hrel
  obtain ⟨wo, rfl⟩ : ∃ wo : World, wo = wr := ⟨_, rfl⟩
  have g0 := HX.out.at 0 rfl
  by_cases hlt : k < m
  · have hkl : k < fs.length := by rw [← HM.out]; exact hlt
    obtain ⟨x, hx⟩ : ∃ x, x = fs[k] := ⟨_, rfl⟩
    have hxk : fs[k]? = some x := by rw [hx]; exact List.getElem?_eq_getElem hkl
    obtain ⟨_, b, off, pv, bv, rfl, hbl, e0, e1, e2, hpx, hbx⟩ := HS.out.get hxk
    have hB := HX.out.bel
    have e2 := cellB hB e2
    have hT := sum_take_succ ad fs k x hxk
    have hL := sum_take_le ad fs (k + 1)
    obtain ⟨q, hq⟩ : ∃ q, q = ad x := ⟨_, rfl⟩
    rw [← hq] at hT
    have hsq : s + q ≤ P := by have := hs.out; have := HP.out; omega
    have HT : Hid (s + q = ((fs.take (k + 1)).map ad).sum) := Lib.hid (by rw [hT, hs.out])
    have HC := Lib.hid (l3Count_any 4 x.body wo bv (HOK.out x (List.mem_of_getElem? hxk)) (hbx.dn hB) (by rw [← HA.out x, ← hq]; omega) 0)
    rw [← HA.out x, ← hq] at HC
    have k0 : (0 : Int) ≤ k := by omega
    have k1 : (k : Int) < m := by omega
    clear hx hxk hB hpx hbx hq hT hL e0 e1
    go_wp2_with (fail)
    go_at_call 163
    refine (HC.out : Calls _ _ _ wo _).mono ?_
    rintro e w2 ⟨rfl, hb⟩
    have HX2 : Hid (Bx w #[.slice (some ⟨b, off, none⟩) m cap] 31 w2) := Lib.hid (by obtain ⟨j, rfl⟩ := hb; exact HX.out.drewN j)
    clear hb HC
    go_wp2_with (fail)
    go_roundw
    case rel => exact ⟨k + 1, s + q, by omega, by go_num, by go_num, by omega, HT, HX2⟩
    case measure => simp [intOf]; omega
  · obtain rfl : m = k := by omega
    obtain rfl : s = P := by
      have := hs.out
      rw [HM.out, List.take_length] at this
      rw [HP.out, this]
    clear hs HP
    go_wp2_with (fail)
    go_ret
    exact ⟨rfl, HX.out.bel⟩
set_option maxHeartbeats 2000000 in
/-- spec.ProgramValid -/
theorem specProg_any (fs : List Fx) (w : World) (fv : Value) (p : Bool) (h : FxsAt w fv fs) (hle : fxsW fs ≤ 4194304) (hp : prVal isNB fs = p) :
    Calls Tryz.prog 90 #[.agg #[fv]] w (BoolP p w) := by
  obtain ⟨a, cap, hform, hmb⟩ := h.form
  subst hform
  have hcl := fsCount_le fs
  obtain ⟨p2, h2⟩ : ∃ q, fs.all (fxOk isNB) = q := ⟨_, rfl⟩
  have HAL := Lib.hid (fun w' (hb : Below w.heap.size w w') (hq : p2 = true) => l3All_any fs w' _ (by rw [h2]; exact hq) (h.below hb) (by omega))
  obtain ⟨m, hm⟩ : ∃ m, m = fs.length := ⟨_, rfl⟩
  rw [← hm] at h hmb HAL ⊢
  obtain ⟨p1, h1⟩ : ∃ q, inR 1 4 (m : Int) = q := ⟨_, rfl⟩
  obtain ⟨P, hP⟩ : ∃ P, P = fsCount fs := ⟨_, rfl⟩
  have HP : Hid ((p1 && p2 && decide (P ≤ 40)) = p) := Lib.hid (by
    rw [← hp, hP, ← h2, ← h1]
    unfold prVal fsCount
    rw [← hm]
    have : inR 1 4 (m : Int) = decide (1 ≤ m ∧ m ≤ 4) := by rw [Bool.eq_iff_iff, inR_iff, decide_eq_true_eq]; omega
    rw [this])
  rw [← hP] at HAL hcl
  have HI := Lib.hid (fun w => l1In_any w (m : Int) 1 4)
  rw [h1] at HI
  have H2 := Lib.hid h2; have HM := Lib.hid hm; have HS := Lib.hid h
  unfold big at hmb
  have hP5 : P ≤ 4194304 := by omega
  clear hp h1 h2 hm h hP hcl hle
  go_enter Tryz.func90, Tryz.ntmps90
  go_wp2_with (fail)
  go_at_call 46
  refine (HI.out _).mono ?_
  rintro e _ ⟨rfl, rfl⟩
  cases p1
  · go_wp2_with (fail)
    go_ret
    exact ⟨by rw [← HP.out]; rfl, below1 _ _⟩
  go_wp2_with (fail)
  go_loopw [3] (fun i wr => ∃ k : Nat, k ≤ m ∧ i = .int .i64 k ∧ Hid ((fs.take k).all (fxOk isNB) = true) ∧ Hid (Bx w #[.slice a m cap] 31 wr)) (fun i _ => m - (intOf i).toNat)
  case atStart => exact ⟨0, Nat.zero_le _, rfl, Lib.hid (by simp), Lib.hid (Bx.refl _ _ _)⟩
  case round =>
  obtain ⟨k, hk, rfl, hA, HX⟩ := hrel
  obtain ⟨wo, rfl⟩ : ∃ wo : World, wo = wr := ⟨_, rfl⟩
  have g0 := HX.out.at 0 rfl
  by_cases hlt : k < m
  · have hkl : k < fs.length := by rw [← HM.out]; exact hlt
    obtain ⟨x, hx⟩ : ∃ x, x = fs[k] := ⟨_, rfl⟩
    have hxk : fs[k]? = some x := by rw [hx]; exact List.getElem?_eq_getElem hkl
    obtain ⟨hz1, b, off, pv, bv, rfl, hbl, e0, e1, e2, hpx, hbx⟩ := HS.out.get hxk
    have hB := HX.out.bel
    have e0 := cellB hB e0; have e1 := cellB hB e1; have e2 := cellB hB e2
    obtain ⟨q, hq⟩ : ∃ q, fxOk isNB x = q := ⟨_, rfl⟩
    have HC := Lib.hid (l3Fn_any x wo pv bv q hz1 (hpx.below hB) (hbx.dn hB) hq)
    have HT := Lib.hid (all_take (fxOk isNB) fs k x hxk)
    have HF := Lib.hid (fun h => all_false (fxOk isNB) (List.mem_of_getElem? hxk) h)
    rw [hq] at HT HF
    have k0 : (0 : Int) ≤ k := by omega
    have k1 : (k : Int) < m := by omega
    clear hx hxk hq hz1 hB hpx hbx
    go_wp2_with (fail)
    go_at_call 126
    refine HC.out.mono ?_
    rintro e w2 ⟨rfl, hb⟩
    have HB2 := Lib.hid (HX.out.to hb)
    clear hb HC
    cases q
    · go_wp2_with (fail)
      go_ret
      exact ⟨by rw [← HP.out, ← H2.out, HF.out (by first | rfl | trivial)]; rfl, HB2.out.bel⟩
    · go_wp2_with (fail)
      go_roundw
      case rel => exact ⟨k + 1, by omega, by go_num, Lib.hid (by rw [HT.out, hA.out]; rfl), HB2⟩
      case measure => simp [intOf]; omega
  obtain rfl : m = k := by omega
  have hall : p2 = true := by
    have := hA.out
    rw [HM.out, List.take_length] at this
    rw [← H2.out]; exact this
  subst hall
  clear hA H2
  go_wp2_with (fail)
  go_at_call 127
  refine (HAL.out _ HX.out.bel (by first | rfl | trivial)).mono ?_
  rintro e w2 ⟨rfl, hb⟩
  have HX2 := Lib.hid (HX.out.to hb)
  clear hb HAL
  by_cases h4 : P ≤ 40
  all_goals
    go_wp2_with (fail)
    go_ret
    exact ⟨by rw [← HP.out]; simp [h4]; omega, HX2.out.bel⟩
end Go.Proofs.YtpnliencahnmoaaGreatDoor
