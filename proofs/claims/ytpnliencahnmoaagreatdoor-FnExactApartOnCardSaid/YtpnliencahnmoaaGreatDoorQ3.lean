/- The reference's expressions: ExprValid. -/
import Derived.Test.YtpnliencahnmoaaGreatDoorQ2
import Derived.Deep.CutBlock
set_option linter.unusedVariables false
set_option linter.unusedSimpArgs false
set_option linter.unusedVariables false
set_option linter.unusedSimpArgs false
set_option maxRecDepth 100000
namespace Go.Proofs.YtpnliencahnmoaaGreatDoor
open Go.RowKit
set_option maxHeartbeats 400000 in
theorem in_yes (w : World) (n lo hi : Int) (h1 : lo ≤ n) (h2 : n ≤ hi) : Calls Tryz.prog 46 #[.int .i64 n, .int .i64 lo, .int .i64 hi] w fun e w' => e = .returned (.bool true) ∧ w = w' := by
  have d1 : decide (lo ≤ n) = true := by simpa using h1
  have d2 : decide (n ≤ hi) = true := by simpa using h2
  go_enter Tryz.func46, Tryz.ntmps46
  go_wp2
  go_ret
  exact ⟨rfl, rfl⟩
set_option maxHeartbeats 400000 in
theorem in_low (w : World) (n lo hi : Int) (h1 : n < lo) : Calls Tryz.prog 46 #[.int .i64 n, .int .i64 lo, .int .i64 hi] w fun e w' => e = .returned (.bool false) ∧ w = w' := by
  have d1 : decide (lo ≤ n) = false := by simpa using h1
  go_enter Tryz.func46, Tryz.ntmps46
  go_wp2
  go_ret
  exact ⟨rfl, rfl⟩
set_option maxHeartbeats 400000 in
theorem in_high (w : World) (n lo hi : Int) (h1 : lo ≤ n) (h2 : hi < n) : Calls Tryz.prog 46 #[.int .i64 n, .int .i64 lo, .int .i64 hi] w fun e w' => e = .returned (.bool false) ∧ w = w' := by
  have d1 : decide (lo ≤ n) = true := by simpa using h1
  have d2 : decide (n ≤ hi) = false := by simpa using h2
  go_enter Tryz.func46, Tryz.ntmps46
  go_wp2
  go_ret
  exact ⟨rfl, rfl⟩
theorem l1In_any (w : World) (n lo hi : Int) : Calls Tryz.prog 46 #[.int .i64 n, .int .i64 lo, .int .i64 hi] w fun e w' => e = .returned (.bool (inR lo hi n)) ∧ w = w' := by
  by_cases h1 : lo ≤ n
  · by_cases h2 : n ≤ hi
    · have e : inR lo hi n = true := by simp [inR, h1, h2]
      rw [e]; exact in_yes w n lo hi h1 h2
    · have e : inR lo hi n = false := by simp [inR, h2]
      rw [e]; exact in_high w n lo hi h1 (by omega)
  · have e : inR lo hi n = false := by simp [inR, h1]
    rw [e]; exact in_low w n lo hi (by omega)
theorem eqI {a b : Int} (h : a = b) : (a == b) = true := beq_iff_eq.2 h
theorem neI {a b : Int} (h : ¬ a = b) : (a == b) = false := beq_eq_false_iff_ne.2 h
theorem kidsN_cases (op : Int) : (op = 1 ∧ kidsN op = (0, 0)) ∨ (op = 2 ∧ kidsN op = (0, 0)) ∨ (op = 11 ∧ kidsN op = (1, 1)) ∨ (op = 12 ∧ kidsN op = (1, 1)) ∨ (op = 13 ∧ kidsN op = (0, 3)) ∨ (op ≠ 1 ∧ op ≠ 2 ∧ op ≠ 11 ∧ op ≠ 12 ∧ op ≠ 13 ∧ kidsN op = (2, 2)) := by
  unfold kidsN
  by_cases h1 : op = 1
  · subst h1; simp
  by_cases h2 : op = 2
  · subst h2; simp
  by_cases h3 : op = 11
  · subst h3; simp
  by_cases h4 : op = 12
  · subst h4; simp
  by_cases h5 : op = 13
  · subst h5; simp
  simp [h1, h2, h3, h4, h5]
set_option maxHeartbeats 400000 in
theorem l2Kids_any (w : World) (op : Int) (lo hi : Nat) (h : kidsN op = (lo, hi)) : Calls Tryz.prog 219 #[.int .i64 op] w fun e w' => e = .returned (.tuple #[.int .i64 lo, .int .i64 hi]) ∧ w = w' := by
  rcases kidsN_cases op with ⟨o, hk⟩ | ⟨o, hk⟩ | ⟨o, hk⟩ | ⟨o, hk⟩ | ⟨o, hk⟩ | ⟨a, b, c, d, o, hk⟩
  all_goals
    rw [hk] at h
    injection h with h1 h2
    subst h1 h2
    clear hk
    first
    | subst o
    | (have a := neI a; have b := neI b; have c := neI c; have d := neI d; have o := neI o)
    go_enter Tryz.func219, Tryz.ntmps219
    go_wp2
    go_ret2
    exact ⟨rfl, rfl⟩
theorem exOk_eq (isN : ByteArray → Bool) (d : Nat) (op n : Int) (name : ByteArray) (kids : List Ex) :
    exOk isN (d + 1) (.mk op n name kids) = (inR 1 13 op && inR (kidsN op).1 (kidsN op).2 kids.length && (if decide (op = 2 ∨ op = 13) = true then isN name else decide (name = ByteArray.empty)) && inR 0 255 n && ((op == 1) || (n == 0)) && kids.all (exOk isN d)) := by
  have e1 : decide ((kidsN op).1 ≤ kids.length ∧ kids.length ≤ (kidsN op).2) = inR (kidsN op).1 (kidsN op).2 kids.length := by
    rw [Bool.eq_iff_iff, decide_eq_true_eq, inR_iff]; omega
  have e2 : ∀ a b c : Int, decide (a ≤ b ∧ b ≤ c) = inR a c b := fun a b c => by rw [Bool.eq_iff_iff, decide_eq_true_eq, inR_iff]
  have e3 : decide (op ≠ 1 → n = 0) = ((op == 1) || (n == 0)) := by
    rw [Bool.eq_iff_iff, decide_eq_true_eq, Bool.or_eq_true, beq_iff_eq, beq_iff_eq]
    by_cases h : op = 1 <;> simp [h]
  unfold exOk
  rw [e1, e2, e2, e3]
  simp only [decide_eq_true_eq]
theorem box4 {w w2 : World} {a b c d : Value} {t : TypeId} (h : Below (w.alloc (.cells #[a, b, c, d] t)).heap.size (w.alloc (.cells #[a, b, c, d] t)) w2) :
    w2.cell? ⟨w.heap.size, 0, none⟩ = some a ∧ w2.cell? ⟨w.heap.size, 1, none⟩ = some b ∧ w2.cell? ⟨w.heap.size, 2, none⟩ = some c ∧ w2.cell? ⟨w.heap.size, 3, none⟩ = some d ∧ w.heap.size < w2.heap.size ∧ Below w.heap.size w w2 := by
  have hs : w.heap.size < (w.alloc (.cells #[a, b, c, d] t)).heap.size := by simp
  refine ⟨?_, ?_, ?_, ?_, Nat.lt_of_lt_of_le hs h.size, (below1 _ _).trans (h.mono (Nat.le_of_lt hs))⟩
  all_goals (refine cellB h ?_; simp [go_sem])
theorem box4i (w : World) (a b c d : Value) (t : TypeId) :
    (w.alloc (.cells #[a, b, c, d] t)).cell? ⟨w.heap.size, 0, none⟩ = some a ∧ (w.alloc (.cells #[a, b, c, d] t)).cell? ⟨w.heap.size, 1, none⟩ = some b ∧ (w.alloc (.cells #[a, b, c, d] t)).cell? ⟨w.heap.size, 2, none⟩ = some c ∧ (w.alloc (.cells #[a, b, c, d] t)).cell? ⟨w.heap.size, 3, none⟩ = some d :=
  let h := box4 (Below.refl _ (w.alloc (.cells #[a, b, c, d] t)))
  ⟨h.1, h.2.1, h.2.2.1, h.2.2.2.1⟩
theorem all_take {α : Type} (f : α → Bool) (l : List α) (k : Nat) (x : α) (h : l[k]? = some x) : (l.take (k + 1)).all f = ((l.take k).all f && f x) := by
  rw [List.take_add_one, h]; simp
theorem all_false {α : Type} (f : α → Bool) {l : List α} {x : α} (h : x ∈ l) (hx : f x = false) : l.all f = false := by
  rw [← Bool.not_eq_true, List.all_eq_true]
  intro hh; rw [hh x h] at hx; cases hx
theorem empty_iff {name : ByteArray} {p4 : Bool} (h4 : decide (name = ByteArray.empty) = p4) : name.toList = [] ↔ p4 = true := by
  have e : ByteArray.empty.toList = [] := by rw [ByteArray.toList_eq]; rfl
  rw [← h4, ← strEq, beq_iff_eq, e]
theorem empty_no {name : ByteArray} {p3 p4 : Bool} (h3 : isNB name = p3) (h4 : decide (name = ByteArray.empty) = p4) : p3 = true → p4 = false := by
  rintro rfl
  rw [← h4, decide_eq_false_iff_not]
  rintro rfl
  revert h3
  decide
set_option maxHeartbeats 4000000 in
theorem l2Form_any : ∀ (d : Nat) (e : Ex) (w : World) (kv : Value) (p : Bool), d ≤ 6 → e.name.size ≤ big → ExsAt w kv e.kids → exOk isNB d e = p →
    Calls Tryz.prog 217 #[.agg #[.int .i64 e.op, .int .i64 e.n, .string e.name, kv], .int .i64 d] w (BoolP p w) := by
  intro d
  induction d with
  | zero =>
    intro e w kv p _ _ _ hp
    have : p = false := by rw [← hp]; cases e; rfl
    subst this
    obtain ⟨⟨lo, hi⟩, hlh⟩ : ∃ q, kidsN e.op = q := ⟨_, rfl⟩
    have HK := Lib.hid (fun w' => l2Kids_any w' e.op lo hi hlh)
    generalize e.op = op at *
    clear hlh hp
    go_enter Tryz.func217, Tryz.ntmps217
    go_wp2_with (go_at_call 219; refine (HK.out _).mono ?_; rintro e w2 ⟨rfl, rfl⟩)
    go_ret
    exact ⟨rfl, below1 _ _⟩
  | succ d ih =>
    intro e w kv p hd hz hkv hp
    obtain ⟨op, n, name, kids⟩ := e
    rw [exOk_eq] at hp
    simp only [Ex.op, Ex.n, Ex.name, Ex.kids] at hz hkv ⊢
    obtain ⟨⟨lo, hi⟩, hlh⟩ : ∃ q, kidsN op = q := ⟨_, rfl⟩
    rw [hlh] at hp
    have HK := Lib.hid (fun w' => l2Kids_any w' op lo hi hlh)
    obtain ⟨a, cap, hform⟩ := hkv.form
    subst hform
    obtain ⟨m, hm⟩ : ∃ m, m = kids.length := ⟨_, rfl⟩
    rw [← hm] at hkv hp ⊢
    have hmb : m ≤ big := by rw [hm]; exact hkv.lens.1
    have HI := Lib.hid (fun w n lo hi => l1In_any w n lo hi)
    obtain ⟨p1, h1⟩ : ∃ q, inR 1 13 op = q := ⟨_, rfl⟩
    obtain ⟨p2, h2⟩ : ∃ q, inR lo hi (m : Int) = q := ⟨_, rfl⟩
    obtain ⟨p5, h5⟩ : ∃ q, inR 0 255 n = q := ⟨_, rfl⟩
    obtain ⟨p3, h3⟩ : ∃ q, isNB name = q := ⟨_, rfl⟩
    obtain ⟨nm, hnm⟩ : ∃ q, decide (op = 2 ∨ op = 13) = q := ⟨_, rfl⟩
    have hsplit : ((op == 2) = true ∧ nm = true) ∨ ((op == 2) = false ∧ (op == 13) = true ∧ nm = true) ∨ ((op == 2) = false ∧ (op == 13) = false ∧ nm = false) := by
      by_cases a2 : op = 2
      · exact .inl ⟨eqI a2, by rw [← hnm]; simp [a2]⟩
      by_cases a13 : op = 13
      · exact .inr (.inl ⟨neI a2, eqI a13, by rw [← hnm]; simp [a13]⟩)
      · exact .inr (.inr ⟨neI a2, neI a13, by rw [← hnm]; simp [a2, a13]⟩)
    simp only [h1, h2, h5, h3, hnm] at hp
    have HP := Lib.hid hp
    have HN := Lib.hid (fun w' => specName_any w' name p3 hz h3)
    have H3 := Lib.hid h3; have H1 := Lib.hid h1; have H2 := Lib.hid h2; have H5 := Lib.hid h5; have HM := Lib.hid hm; have HKV := Lib.hid hkv; have IH := Lib.hid ih
    unfold big at hmb hz
    clear hp h1 h2 h5 h3 hnm hlh hm hkv ih
    go_enter Tryz.func217, Tryz.ntmps217
    go_wp2_with (go_at_call 219; refine (HK.out _).mono ?_; rintro e w2 ⟨rfl, rfl⟩)
    go_at_call 46
    refine (HI.out _ _ _ _).mono ?_
    rw [H1.out]
    rintro e _ ⟨rfl, rfl⟩
    cases p1
    · go_wp2_with (fail)
      go_ret
      exact ⟨by rw [← HP.out]; rfl, below1 _ _⟩
    go_wp2_with (fail)
    go_at_call 46
    refine (HI.out _ _ _ _).mono ?_
    rw [H2.out]
    rintro e _ ⟨rfl, rfl⟩
    cases p2
    · go_wp2_with (fail)
      go_ret
      exact ⟨by rw [← HP.out]; rfl, below1 _ _⟩
    obtain ⟨p4, h4⟩ : ∃ q, decide (name = ByteArray.empty) = q := ⟨_, rfl⟩
    obtain ⟨q1, hq1⟩ : ∃ q, (op == 1) = q := ⟨_, rfl⟩
    obtain ⟨q2, hq2⟩ : ∃ q, (n == 0) = q := ⟨_, rfl⟩
    have hq1' : (op != 1) = !q1 := by rw [← hq1]; rfl
    have hq2' : (n != 0) = !q2 := by rw [← hq2]; rfl
    have H4 : Hid (name.toList = [] ↔ p4 = true) := Lib.hid (empty_iff h4)
    have H34 : Hid (p3 = true → p4 = false) := Lib.hid (empty_no H3.out h4)
    have HP2 := Lib.hid (HP.out)
    rw [h4, hq1, hq2] at HP2
    obtain ⟨q, hq⟩ : ∃ q, ((if nm = true then p3 else p4) && p5 && (q1 || q2)) = q := ⟨_, rfl⟩
    have HQ := Lib.hid hq
    clear h4 hq hq1 hq2
    go_upto_region 4 with (fail)
    go_cut [7] from 32 to 39 (fun c wx => c = .bool nm ∧ wx = w.alloc (.cells #[.int .i64 op, .int .i64 n, .string name, .slice a m cap] 67))
    case first =>
      rcases hsplit with ⟨o2, rfl⟩ | ⟨o2, o13, rfl⟩ | ⟨o2, o13, rfl⟩
      all_goals
        go_wp2_with (fail)
        go_meet
        case rel => exact ⟨rfl, rfl⟩
    case rest =>
    obtain ⟨rfl, rfl⟩ := hcut
    clear hsplit
    go_upto_region 5 with (fail)
    go_cut [69] from 40 to 69 (fun c wx => ∃ c' : Bool, c = .bool c' ∧ Hid (c' = !q) ∧ Hid (Below (w.alloc (.cells #[.int .i64 op, .int .i64 n, .string name, .slice a m cap] 67)).heap.size (w.alloc (.cells #[.int .i64 op, .int .i64 n, .string name, .slice a m cap] 67)) wx))
    case first =>
      clear hmb hd HK IH HKV HM H1 H2
      go_wp2_with (fail)
      go_at_call 161
      refine (HN.out _).mono ?_
      rintro e w2 ⟨rfl, hb⟩
      obtain ⟨c0, c1, c2, c3, hl2, hb2⟩ := box4 hb
      have HB2 := Lib.hid hb
      clear hb hb2 hl2
      cases nm <;> cases p3
      · cases p4
        · have hn : ¬ name.toList = [] := fun h => by have := H4.out.1 h; cases this
          go_wp2_with (fail)
          go_meet
          case rel => exact ⟨_, rfl, Lib.hid (by rw [← HQ.out]; rfl), HB2⟩
        · have hn : name.toList = [] := H4.out.2 rfl
          go_wp2_with (fail)
          go_at_call 46
          refine (HI.out _ _ _ _).mono ?_
          rw [H5.out]
          rintro e _ ⟨rfl, rfl⟩
          cases p5
          · go_wp2_with (fail)
            go_meet
            case rel => exact ⟨_, rfl, Lib.hid (by rw [← HQ.out]; rfl), HB2⟩
          · cases q1 <;> cases q2
            all_goals
              go_wp2_with (fail)
              go_meet
              case rel => exact ⟨_, rfl, Lib.hid (by rw [← HQ.out]; rfl), HB2⟩
      · have h4 := H34.out rfl
        subst h4
        go_wp2_with (fail)
        go_meet
        case rel => exact ⟨_, rfl, Lib.hid (by rw [← HQ.out]; rfl), HB2⟩
      · go_wp2_with (fail)
        go_meet
        case rel => exact ⟨_, rfl, Lib.hid (by rw [← HQ.out]; rfl), HB2⟩
      ·
          go_wp2_with (fail)
          go_at_call 46
          refine (HI.out _ _ _ _).mono ?_
          rw [H5.out]
          rintro e _ ⟨rfl, rfl⟩
          cases p5
          · go_wp2_with (fail)
            go_meet
            case rel => exact ⟨_, rfl, Lib.hid (by rw [← HQ.out]; rfl), HB2⟩
          · cases q1 <;> cases q2
            all_goals
              go_wp2_with (fail)
              go_meet
              case rel => exact ⟨_, rfl, Lib.hid (by rw [← HQ.out]; rfl), HB2⟩
    case rest =>
    obtain ⟨c', rfl, hcq, hbc⟩ := hcut
    obtain ⟨c0, c1, c2, c3, hlc, hbc2⟩ := box4 hbc.out
    have HBC := Lib.hid hbc2
    have HQP : Hid ((q && kids.all (exOk isNB d)) = p) := Lib.hid (by
      rw [← HP2.out, ← HQ.out]; rfl)
    clear hbc hbc2 hq1' hq2'
    cases q
    · obtain rfl : c' = true := hcq.out
      go_wp2_with (fail)
      go_ret
      exact ⟨by rw [← HQP.out]; rfl, HBC.out⟩
    obtain rfl : c' = false := hcq.out
    have HQA : Hid (kids.all (exOk isNB d) = p) := HQP
    clear HQP HQ HP HP2 H4 H34 HN HI HK H1 H2 H3 H5
    go_wp2_with (fail)
    go_loopw [8] (fun i wr => ∃ k : Nat, k ≤ m ∧ i = .int .i64 k ∧ Hid ((kids.take k).all (exOk isNB d) = true) ∧ Below wc.heap.size wc wr) (fun i _ => m - (intOf i).toNat)
    case atStart => exact ⟨0, Nat.zero_le _, rfl, Lib.hid (by simp), Below.refl _ _⟩
    case round =>
      obtain ⟨k, hk, rfl, hA, hB⟩ := hrel
      obtain ⟨wo, rfl⟩ : ∃ wo : World, wo = wr := ⟨_, rfl⟩
      have g3 := cellB hB c3
      have HB := Lib.hid hB
      by_cases hlt : k < m
      · have hkl : k < kids.length := by rw [← HM.out]; exact hlt
        obtain ⟨x, hx⟩ : ∃ x, x = kids[k] := ⟨_, rfl⟩
        have hxk : kids[k]? = some x := by rw [hx]; exact List.getElem?_eq_getElem hkl
        obtain ⟨b, off, kv, rfl, hbl, e0, e1, e2, e3, hkx⟩ := HKV.out.get hxk
        have hb1 := HBC.out.trans (hB.mono HBC.out.size)
        have e0 := cellB hb1 e0; have e1 := cellB hb1 e1; have e2 := cellB hb1 e2; have e3 := cellB hb1 e3
        obtain ⟨q, hq⟩ : ∃ q, exOk isNB d x = q := ⟨_, rfl⟩
        have HC := Lib.hid (IH.out x wo kv q (by omega) (HKV.out.lens.2 k x hxk) (hkx.dn hb1) hq)
        have HT := Lib.hid (all_take (exOk isNB d) kids k x hxk)
        have HF := Lib.hid (fun h => all_false (exOk isNB d) (List.mem_of_getElem? hxk) h)
        rw [hq] at HT HF
        have k0 : (0 : Int) ≤ k := by omega
        have k1 : (k : Int) < m := by omega
        clear hB hx hxk hq hb1 hkx c0 c1 c2 c3
        go_wp2_with (fail)
        go_at_call 217
        refine HC.out.mono ?_
        rintro e w2 ⟨rfl, hb⟩
        have HB2 := Lib.hid (HB.out.trans (hb.mono HB.out.size))
        clear hb HC
        cases q
        · go_wp2_with (fail)
          go_ret
          exact ⟨by rw [← HQA.out, HF.out (by first | rfl | trivial)]; rfl, HBC.out.trans (HB2.out.mono HBC.out.size)⟩
        · go_wp2_with (fail)
          go_roundw
          case rel => exact ⟨k + 1, by omega, by go_num, Lib.hid (by rw [HT.out, hA.out]; rfl), HB2.out⟩
          case measure => simp [intOf]; omega
      · obtain rfl : k = m := by omega
        have hall : p = true := by
          have := hA.out
          rw [HM.out, List.take_length] at this
          rw [← HQA.out]; exact this
        subst hall
        clear hB hA HQA
        go_wp2_with (fail)
        go_ret
        exact ⟨rfl, HBC.out.trans (HB.out.mono HBC.out.size)⟩
def IntB (n : Int) (w : World) (e : Ending) (w' : World) : Prop := e = .returned (.int .i64 n) ∧ Below w.heap.size w w'
theorem exParts_le (isN : ByteArray → Bool) : ∀ (d : Nat) (e : Ex), exOk isN d e = true → exParts d e ≤ 4 ^ d := by
  intro d
  induction d with
  | zero => intro e h; simp [exOk] at h
  | succ d ih =>
    intro e h
    obtain ⟨op, n, name, kids⟩ := e
    rw [exOk_eq] at h
    simp only [Bool.and_eq_true, List.all_eq_true] at h
    obtain ⟨⟨⟨⟨⟨_, h2⟩, _⟩, _⟩, _⟩, hk⟩ := h
    have h3 : kids.length ≤ 3 := by
      rw [inR_iff] at h2
      have : (kidsN op).2 ≤ 3 := by rcases kidsN_cases op with ⟨_, h⟩ | ⟨_, h⟩ | ⟨_, h⟩ | ⟨_, h⟩ | ⟨_, h⟩ | ⟨_, _, _, _, _, h⟩ <;> rw [h] <;> decide
      omega
    have hs : ∀ l : List Ex, (∀ x ∈ l, x ∈ kids) → (l.map (exParts d)).sum ≤ l.length * 4 ^ d := by
      intro l
      induction l with
      | nil => intro _; simp
      | cons x l ihl =>
        intro hm
        have a := ih x (hk x (hm x List.mem_cons_self))
        have b := ihl (fun y hy => hm y (List.mem_cons_of_mem _ hy))
        simp only [List.map_cons, List.sum_cons, List.length_cons, Nat.add_mul, Nat.one_mul]
        omega
    have := hs kids (fun _ h => h)
    have h4 : kids.length * 4 ^ d ≤ 3 * 4 ^ d := Nat.mul_le_mul_right _ h3
    have h5 : 0 < 4 ^ d := Nat.pow_pos (by omega)
    simp only [exParts, Nat.pow_succ]
    omega
/-- behind a boxed value -/
def Bx (w : World) (cs : Array Value) (t : TypeId) (wr : World) : Prop := Below (w.alloc (.cells cs t)).heap.size (w.alloc (.cells cs t)) wr
theorem Bx.refl (w : World) (cs : Array Value) (t : TypeId) : Bx w cs t (w.alloc (.cells cs t)) := Below.refl _ _
theorem Bx.to {w a b : World} {cs : Array Value} {t : TypeId} (h : Bx w cs t a) (k : Below a.heap.size a b) : Bx w cs t b := h.trans (k.mono h.size)
theorem Bx.bel {w a : World} {cs : Array Value} {t : TypeId} (h : Bx w cs t a) : Below w.heap.size w a := (below1 _ _).trans (h.mono (by simp))
theorem Bx.lt {w a : World} {cs : Array Value} {t : TypeId} (h : Bx w cs t a) : w.heap.size < a.heap.size := Nat.lt_of_lt_of_le (by simp) h.size
theorem Bx.at {w a : World} {cs : Array Value} {t : TypeId} (h : Bx w cs t a) (j : Nat) {v : Value} (hv : cs[j]? = some v) : a.cell? ⟨w.heap.size, j, none⟩ = some v := by
  refine cellB h ?_
  rw [World.cell?_alloc_at _ _ _ _ rfl]
  exact hv
set_option maxHeartbeats 2000000 in
theorem l2Parts_any : ∀ (d : Nat) (e : Ex) (w : World) (kv : Value), d ≤ 6 → exOk isNB d e = true → ExsAt w kv e.kids →
    Calls Tryz.prog 218 #[.agg #[.int .i64 e.op, .int .i64 e.n, .string e.name, kv]] w (IntB (exParts d e) w) := by
  intro d
  induction d with
  | zero => intro e w kv _ h; simp [exOk] at h
  | succ d ih =>
    intro e w kv hd hok hkv
    have hle := exParts_le _ _ _ hok
    have h6 : 4 ^ (d + 1) ≤ 4 ^ 6 := Nat.pow_le_pow_right (by omega) hd
    obtain ⟨op, n, name, kids⟩ := e
    rw [exOk_eq] at hok
    simp only [Bool.and_eq_true, List.all_eq_true] at hok
    obtain ⟨a, cap, hform⟩ := hkv.form
    simp only [Ex.op, Ex.n, Ex.name, Ex.kids] at hkv hform ⊢
    subst hform
    obtain ⟨m, hm⟩ : ∃ m, m = kids.length := ⟨_, rfl⟩
    rw [← hm] at hkv ⊢
    have hmb : m ≤ big := by rw [hm]; exact hkv.lens.1
    unfold big at hmb
    obtain ⟨P, hP⟩ : ∃ P, P = exParts (d + 1) (.mk op n name kids) := ⟨_, rfl⟩
    rw [← hP] at hle ⊢
    have HP : Hid (P = 1 + (kids.map (exParts d)).sum) := Lib.hid (by rw [hP]; rfl)
    have hP5 : P ≤ 5000 := by have : (4 : Nat) ^ 6 = 4096 := by decide
                              omega
    have HK := Lib.hid (fun x hx => hok.2 x hx)
    have HM := Lib.hid hm; have HKV := Lib.hid hkv; have IH := Lib.hid ih
    clear hok hm hkv ih hle h6 hP
    go_enter Tryz.func218, Tryz.ntmps218
    go_wp2_with (fail)
    go_loopw [3, 4] (fun nv i wr => ∃ k s : Nat, k ≤ m ∧ i = .int .i64 k ∧ nv = .int .i64 s ∧ s ≤ 5000 ∧ Hid (s = 1 + ((kids.take k).map (exParts d)).sum) ∧ Bx w #[.int .i64 op, .int .i64 n, .string name, .slice a m cap] 67 wr) (fun _ i _ => m - (intOf i).toNat)
    case atStart => exact ⟨0, 1, Nat.zero_le _, rfl, rfl, by omega, Lib.hid (by simp), Bx.refl _ _ _⟩
    case round =>
      obtain ⟨k, s, hk, rfl, rfl, hs5, hs, hB⟩ := hrel
      obtain ⟨wo, rfl⟩ : ∃ wo : World, wo = wr := ⟨_, rfl⟩
      have g3 := hB.at 3 rfl
      have hlw := hB.lt
      have HB := Lib.hid hB
      by_cases hlt : k < m
      · have hkl : k < kids.length := by rw [← HM.out]; exact hlt
        obtain ⟨x, hx⟩ : ∃ x, x = kids[k] := ⟨_, rfl⟩
        have hxk : kids[k]? = some x := by rw [hx]; exact List.getElem?_eq_getElem hkl
        obtain ⟨b, off, kv, rfl, hbl, e0, e1, e2, e3, hkx⟩ := HKV.out.get hxk
        have hb1 := hB.bel
        have e0 := cellB hb1 e0; have e1 := cellB hb1 e1; have e2 := cellB hb1 e2; have e3 := cellB hb1 e3
        obtain ⟨q, hq⟩ : ∃ q, q = exParts d x := ⟨_, rfl⟩
        have HC := Lib.hid (IH.out x wo kv (by omega) (HK.out x (List.mem_of_getElem? hxk)) (hkx.dn hb1))
        have HT := Lib.hid (sum_take_succ (exParts d) kids k x hxk)
        have HL := Lib.hid (sum_take_le (exParts d) kids (k + 1))
        rw [← hq] at HC HT
        have hsq : s + q ≤ 5000 := by have := hs.out; have := HT.out; have := HL.out; have := HP.out; omega
        have k0 : (0 : Int) ≤ k := by omega
        have k1 : (k : Int) < m := by omega
        clear hB hx hxk hq hb1 hkx
        go_wp2_with (fail)
        go_at_call 218
        refine HC.out.mono ?_
        rintro e w2 ⟨rfl, hb⟩
        have HB2 := Lib.hid (HB.out.to hb)
        clear hb HC
        go_wp2_with (fail)
        go_roundw
        case rel => exact ⟨k + 1, s + q, by omega, by go_num, by go_num, hsq, Lib.hid (by rw [HT.out, hs.out]; omega), HB2.out⟩
        case measure => simp [intOf]; omega
      · obtain rfl : k = m := by omega
        obtain rfl : s = P := by
          have := hs.out
          rw [HM.out, List.take_length] at this
          rw [HP.out]; exact this
        clear hB hs HP
        go_wp2_with (fail)
        go_ret
        exact ⟨rfl, HB.out.bel⟩
set_option maxHeartbeats 1000000 in
/-- spec.ExprValid -/
theorem exVal_any (e : Ex) (w : World) (kv : Value) (p : Bool) (hz : e.name.size ≤ big) (hkv : ExsAt w kv e.kids) (hp : exVal isNB e = p) :
    Calls Tryz.prog 214 #[.agg #[.int .i64 e.op, .int .i64 e.n, .string e.name, kv]] w (BoolP p w) := by
  obtain ⟨f, hf⟩ : ∃ f, exOk isNB 6 e = f := ⟨_, rfl⟩
  have HF := Lib.hid (fun w' (hb : Below w.heap.size w w') => l2Form_any 6 e w' kv f (by omega) hz (hkv.dn hb) hf)
  have HQ := Lib.hid (fun w' (hb : Below w.heap.size w w') (h : f = true) => l2Parts_any 6 e w' kv (by omega) (by rw [hf]; exact h) (hkv.dn hb))
  unfold exVal at hp
  rw [hf] at hp
  obtain ⟨P, hP⟩ : ∃ P, P = exParts 6 e := ⟨_, rfl⟩
  rw [← hP] at hp HQ
  have HP := Lib.hid hp
  have hPl : f = true → P ≤ 5000 := fun h => by
    have := exParts_le isNB 6 e (by rw [hf]; exact h)
    have h4 : (4 : Nat) ^ 6 = 4096 := by decide
    omega
  generalize e.op = op at *
  generalize e.n = n at *
  generalize e.name = name at *
  clear hp hP hkv hz hf
  go_enter Tryz.func214, Tryz.ntmps214
  go_wp2_with (fail)
  go_at_call 217
  refine (HF.out _ (below1 _ _)).mono ?_
  rintro e w2 ⟨rfl, hb⟩
  obtain ⟨c0, c1, c2, c3, hl2, hb2⟩ := box4 hb
  have HB2 := Lib.hid hb2
  clear hb hb2 HF
  cases f
  · go_wp2_with (fail)
    go_ret
    exact ⟨by rw [← HP.out]; rfl, HB2.out⟩
  · have hP5 := hPl rfl
    clear hPl
    go_wp2_with (fail)
    go_at_call 218
    refine (HQ.out _ HB2.out (by first | rfl | trivial)).mono ?_
    rintro e w3 ⟨rfl, hb⟩
    have HB3 := Lib.hid (HB2.out.trans (hb.mono HB2.out.size))
    clear hb HQ
    by_cases h30 : P ≤ 30
    · go_wp2_with (fail)
      go_ret
      exact ⟨by rw [← HP.out]; simp [h30]; omega, HB3.out⟩
    · go_wp2_with (fail)
      go_ret
      exact ⟨by rw [← HP.out]; simp [h30]; omega, HB3.out⟩
end Go.Proofs.YtpnliencahnmoaaGreatDoor
