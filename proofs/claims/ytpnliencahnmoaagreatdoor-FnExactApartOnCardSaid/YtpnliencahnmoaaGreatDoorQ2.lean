/- Programs of trees that are fine: their form, their names; a run of one comes to an end. No program in sight. The reference's names: IsName. No conditions but on a text's length. The program's names: impl.IsName. How much a program of trees weighs. No program in sight. -/
import Derived.Test.YtpnliencahnmoaaGreatDoorQ1
import Derived.Laws.RangeAny
set_option linter.unusedVariables false
set_option linter.unusedSimpArgs false
set_option linter.unusedVariables false
set_option linter.unusedSimpArgs false
set_option maxRecDepth 100000
namespace Go.Proofs.YtpnliencahnmoaaGreatDoor
open Go.RowKit
/-- how many kids an op has at least and at most -/
def kidsN (op : Int) : Nat × Nat := if op = 1 ∨ op = 2 then (0, 0) else if op = 11 ∨ op = 12 then (1, 1) else if op = 13 then (0, 3) else (2, 2)
/-- the form of an expression, so deep at most; isN: which texts are names -/
def exOk (isN : ByteArray → Bool) : Nat → Ex → Bool
  | 0, _ => false
  | d + 1, .mk op n name kids =>
    decide (1 ≤ op ∧ op ≤ 13) && decide ((kidsN op).1 ≤ kids.length ∧ kids.length ≤ (kidsN op).2) && (if op = 2 ∨ op = 13 then isN name else decide (name = ByteArray.empty)) && decide (0 ≤ n ∧ n ≤ 255) && decide (op ≠ 1 → n = 0) && kids.all (exOk isN d)
def exParts : Nat → Ex → Nat
  | 0, _ => 0
  | d + 1, .mk _ _ _ kids => 1 + (kids.map (exParts d)).sum
def exVal (isN : ByteArray → Bool) (e : Ex) : Bool := exOk isN 6 e && decide (exParts 6 e ≤ 30)
def stOk (isN : ByteArray → Bool) : Nat → St → Bool
  | 0, _ => false
  | d + 1, .mk op name args body els =>
    decide (1 ≤ op ∧ op ≤ 8) && decide (args.length = if op = 4 then 2 else 1) && (if op = 1 ∨ op = 2 then isN name else decide (name = ByteArray.empty)) && args.all (exVal isN) && (decide (op ≠ 8) || (args.getD 0 (.mk 0 0 ByteArray.empty [])).op == 13) &&
      (els.isEmpty || decide (op = 5)) && (body.isEmpty || decide (op = 5) || decide (op = 6)) && body.all (stOk isN d) && els.all (stOk isN d)
def stCount : Nat → St → Nat
  | 0, _ => 0
  | d + 1, .mk _ _ _ body els => 1 + (body.map (stCount d)).sum + (els.map (stCount d)).sum
def fxOk (isN : ByteArray → Bool) (f : Fx) : Bool := isN f.name && decide (f.params.length ≤ 3) && f.params.all isN && f.body.all (stOk isN 4)
def prVal (isN : ByteArray → Bool) (fs : List Fx) : Bool := decide (1 ≤ fs.length ∧ fs.length ≤ 4) && fs.all (fxOk isN) && decide ((fs.map fun f => (f.body.map (stCount 4)).sum).sum ≤ 40)
def memB (xs : List ByteArray) (x : ByteArray) : Bool := xs.any fun y => decide (y = x)
theorem memB_iff {xs : List ByteArray} {x : ByteArray} : memB xs x = true ↔ x ∈ xs := by
  unfold memB
  rw [List.any_eq_true]
  constructor
  · rintro ⟨y, h1, h2⟩; have := of_decide_eq_true h2; subst this; exact h1
  · intro h; exact ⟨x, h, by simp⟩
/-- no name twice -/
def nodupB : List ByteArray → Bool
  | [] => true
  | x :: r => !memB r x && nodupB r
/-- the names of an expression: variables that can be used, functions ahead with so many parameters -/
def chkE (fs : List Fx) (k : Nat) (names : List ByteArray) : Nat → Ex → Bool
  | 0, _ => false
  | d + 1, .mk op _ name kids =>
    (if op = 2 then memB names name else true) && (if op = 13 then (match fnIx fs name with | some j => decide (j < k) && decide ((fs[j]?.map fun f => f.params.length) = some kids.length) | none => false) else true) && kids.all (chkE fs k names d)
/-- the block's own names behind a statement -/
def innOf (inn : List ByteArray) (x : St) : List ByteArray := if x.op = 1 then x.name :: inn else inn
def chkL (f : List ByteArray → St → Bool) : List ByteArray → List St → Bool
  | _, [] => true
  | inn, x :: r => f inn x && chkL f (innOf inn x) r
/-- of a statement: the block's own names, those of the blocks around it -/
def chkS (fs : List Fx) (k : Nat) : Nat → List ByteArray → List ByteArray → St → Bool
  | 0, _, _, _ => false
  | d + 1, inn, out, x =>
    x.args.all (chkE fs k (inn ++ out) 6) && (if x.op = 1 then !memB inn x.name else true) && (if x.op = 2 then memB (inn ++ out) x.name else true) &&
      chkL (fun i y => chkS fs k d i (innOf inn x ++ out) y) [] x.body && chkL (fun i y => chkS fs k d i (innOf inn x ++ out) y) [] x.els
def chkF (fs : List Fx) (k : Nat) (f : Fx) : Bool := decide (fnIx fs f.name = some k) && nodupB f.params && chkL (fun i y => chkS fs k 4 i [] y) f.params.reverse f.body
/-- a program that is fine -/
def prFine (isN : ByteArray → Bool) (fs : List Fx) : Prop := prVal isN fs = true ∧ ∀ k f, fs[k]? = some f → chkF fs k f = true
/-- a state behind another one -/
structure Cv (s s1 : Cm) : Prop where
  ok : CmOk s1
  left : s1.left ≤ s.left
  said : s1.said.length + s1.left ≤ s.said.length + s.left
  trace : s1.trace = s.trace
theorem Cv.refl {s : Cm} (h : CmOk s) : Cv s s := ⟨h, Nat.le_refl _, Nat.le_refl _, rfl⟩
theorem Cv.trans {a b c : Cm} (h : Cv a b) (k : Cv b c) : Cv a c := ⟨k.ok, Nat.le_trans k.left h.left, Nat.le_trans k.said h.said, k.trace.trans h.trace⟩
def GoodE (s : Cm) : Rs → Prop
  | .ret v s1 => v < 256 ∧ Cv s s1
  | .stop e s1 => (1 ≤ e ∧ e ≤ 3) ∧ Cv s s1
theorem GoodE.trans {a b : Cm} (h : Cv a b) {r : Rs} (k : GoodE b r) : GoodE a r := by
  cases r with
  | ret v s1 => exact ⟨k.1, h.trans k.2⟩
  | stop e s1 => exact ⟨k.1, h.trans k.2⟩
def GoodL (n : Nat) (s : Cm) : Rl → Prop
  | .vals vs s1 => vs.length = n ∧ (∀ v ∈ vs, v < 256) ∧ Cv s s1
  | .stop e s1 => (1 ≤ e ∧ e ≤ 3) ∧ Cv s s1
def EnvOk (env : Env) : Prop := ∀ p ∈ env, p.2 < 256
theorem Env.get_some {env : Env} {x : ByteArray} (h : x ∈ env.map Prod.fst) : ∃ v, env.get x = some v ∧ (x, v) ∈ env := by
  induction env with
  | nil => cases h
  | cons p r ih =>
    obtain ⟨y, u⟩ := p
    unfold Env.get
    by_cases e : y = x
    · subst e; exact ⟨u, by simp, List.mem_cons_self⟩
    · have : x ∈ r.map Prod.fst := by
        rcases List.mem_cons.1 h with h | h
        · exact absurd h.symm e
        · exact h
      obtain ⟨v, h1, h2⟩ := ih this
      exact ⟨v, by rw [if_neg e]; exact h1, List.mem_cons_of_mem _ h2⟩
/-- the calls of earlier functions come to an end -/
def CallsEnd (fs : List Fx) (k : Nat) : Prop := ∀ j, j < k → ∀ f, fs[j]? = some f → ∀ vs s, vs.length = f.params.length → (∀ v ∈ vs, v < 256) → CmOk s → ∃ g r, evC fs g j vs s = some r ∧ GoodE s r
variable {isN : ByteArray → Bool}
theorem ends_e {fs : List Fx} {k : Nat} (hC : CallsEnd fs k) {names : List ByteArray} {env : Env} (hN : ∀ x ∈ names, x ∈ env.map Prod.fst) (hE : EnvOk env) :
    ∀ d e s, exOk isN d e = true → chkE fs k names d e = true → CmOk s → ∃ g r, evE fs g e env s = some r ∧ GoodE s r := by
  intro d
  induction d with
  | zero => intro e s h; simp [exOk] at h
  | succ d ih =>
    intro e s h h2 hs
    obtain ⟨op, n, name, kids⟩ := e
    unfold exOk at h
    unfold chkE at h2
    simp only [Bool.and_eq_true, decide_eq_true_eq, List.all_eq_true] at h h2
    obtain ⟨⟨⟨⟨⟨hop, hkn⟩, hnm⟩, hn⟩, hn1⟩, hkids⟩ := h
    obtain ⟨⟨hv, hc⟩, hk2⟩ := h2
    -- the kids, in order
    have hL : ∀ (l : List Ex), (∀ x ∈ l, x ∈ kids) → ∀ s, CmOk s → ∃ g r, evL fs g l env s = some r ∧ GoodL l.length s r := by
      intro l
      induction l with
      | nil => intro _ s hs; exact ⟨1, .vals [] s, by simp [evL], rfl, by simp, Cv.refl hs⟩
      | cons x l ihl =>
        intro hm s hs
        have hx := hm x List.mem_cons_self
        obtain ⟨g1, r1, e1, q1⟩ := ih x s (hkids x hx) (hk2 x hx) hs
        cases r1 with
        | stop en s1 => exact ⟨g1 + 1, .stop en s1, by simp [evL, e1], q1⟩
        | ret v s1 =>
          obtain ⟨g2, r2, e2, q2⟩ := ihl (fun y hy => hm y (List.mem_cons_of_mem _ hy)) s1 q1.2.ok
          have a1 := evE_le (Nat.le_max_left g1 g2) e1
          have a2 := evL_le (Nat.le_max_right g1 g2) e2
          cases r2 with
          | vals vs s2 => exact ⟨max g1 g2 + 1, .vals (v :: vs) s2, by simp [evL, a1, a2], by simp [q2.1], fun y hy => by
              rcases List.mem_cons.1 hy with rfl | hy
              · exact q1.1
              · exact q2.2.1 y hy, q1.2.trans q2.2.2⟩
          | stop en s2 => exact ⟨max g1 g2 + 1, .stop en s2, by simp [evL, a1, a2], q2.1, q1.2.trans q2.2⟩
    by_cases o1 : op = 1
    · subst o1
      exact ⟨1, .ret n.toNat s, by simp [evE], by omega, Cv.refl hs⟩
    by_cases o2 : op = 2
    · subst o2
      simp only [if_true] at hv
      obtain ⟨v, g1, g2⟩ := Env.get_some (hN name (memB_iff.1 hv))
      exact ⟨1, .ret v s, by simp [evE, g1], hE _ g2, Cv.refl hs⟩
    by_cases o13 : op = 13
    · subst o13
      simp only [if_true] at hc
      cases hf : fnIx fs name with
      | none => rw [hf] at hc; cases hc
      | some j =>
        rw [hf] at hc
        simp only [Bool.and_eq_true, decide_eq_true_eq] at hc
        obtain ⟨hjk, hpl⟩ := hc
        obtain ⟨f, hfj, hfl⟩ : ∃ f, fs[j]? = some f ∧ f.params.length = kids.length := by
          cases h : fs[j]? with
          | none => rw [h] at hpl; cases hpl
          | some f => rw [h] at hpl; exact ⟨f, rfl, by simpa using hpl⟩
        obtain ⟨g1, r1, e1, q1⟩ := hL kids (fun _ h => h) s hs
        cases r1 with
        | stop en s1 => exact ⟨g1 + 1, .stop en s1, by simp [evE, e1, hf], q1⟩
        | vals vs s1 =>
          obtain ⟨g2, r2, e2, q2⟩ := hC j hjk f hfj vs s1 (by rw [q1.1, hfl]) q1.2.1 q1.2.2.ok
          have a1 := evL_le (Nat.le_max_left g1 g2) e1
          have a2 := evC_le (Nat.le_max_right g1 g2) e2
          exact ⟨max g1 g2 + 1, r2, by simp [evE, a1, hf, a2], q2.trans q1.2.2⟩
    have hkl := hkn
    unfold kidsN at hkl
    rw [if_neg (by omega)] at hkl
    by_cases o1112 : op = 11 ∨ op = 12
    · rw [if_pos o1112] at hkl
      match kids, hkl, hkids, hk2 with
      | [a], _, hkids, hk2 =>
        obtain ⟨g1, r1, e1, q1⟩ := ih a s (hkids a (by simp)) (hk2 a (by simp)) hs
        rcases o1112 with rfl | rfl
        · cases r1 with
          | stop en s1 => exact ⟨g1 + 1, .stop en s1, by simp [evE, e1], q1⟩
          | ret v s1 => exact ⟨g1 + 1, .ret (if v = 0 then 1 else 0) s1, by simp [evE, e1], by split <;> omega, q1.2⟩
        · cases r1 with
          | stop en s1 => exact ⟨g1 + 1, .stop en s1, by simp [evE, e1], q1⟩
          | ret v s1 =>
            by_cases c : 16 ≤ v
            · exact ⟨g1 + 1, .stop 2 s1, by simp [evE, e1, c], ⟨by omega, by omega⟩, q1.2⟩
            · exact ⟨g1 + 1, .ret (s1.cells.getD v 0) s1, by simp [evE, e1, c], q1.2.ok.cellsS.at _, q1.2⟩
      | [], h, _, _ => simp at h
      | _ :: _ :: _, h, _, _ => simp at h
    · rw [if_neg o1112, if_neg o13] at hkl
      match kids, hkl, hkids, hk2 with
      | [a, b], _, hkids, hk2 =>
        obtain ⟨g1, r1, e1, q1⟩ := ih a s (hkids a (by simp)) (hk2 a (by simp)) hs
        by_cases o10 : op = 10
        · subst o10
          cases r1 with
          | stop en s1 => exact ⟨g1 + 1, .stop en s1, by simp [evE, e1], q1⟩
          | ret v s1 =>
            by_cases c : v = 0
            · exact ⟨g1 + 1, .ret 0 s1, by simp [evE, e1, c], by omega, q1.2⟩
            · obtain ⟨g2, r2, e2, q2⟩ := ih b s1 (hkids b (by simp)) (hk2 b (by simp)) q1.2.ok
              have a1 := evE_le (Nat.le_max_left g1 g2) e1
              have a2 := evE_le (Nat.le_max_right g1 g2) e2
              cases r2 with
              | stop en s2 => exact ⟨max g1 g2 + 1, .stop en s2, by simp [evE, a1, a2, c], q2.trans q1.2⟩
              | ret u s2 => exact ⟨max g1 g2 + 1, .ret (if u = 0 then 0 else 1) s2, by simp [evE, a1, a2, c], by split <;> omega, q1.2.trans q2.2⟩
        · have o39 : 3 ≤ op ∧ op ≤ 9 := by omega
          cases r1 with
          | stop en s1 => exact ⟨g1 + 1, .stop en s1, by simp [evE, e1, o1, o2, o13, o10, o39.1, o39.2], q1⟩
          | ret v s1 =>
            obtain ⟨g2, r2, e2, q2⟩ := ih b s1 (hkids b (by simp)) (hk2 b (by simp)) q1.2.ok
            have a1 := evE_le (Nat.le_max_left g1 g2) e1
            have a2 := evE_le (Nat.le_max_right g1 g2) e2
            cases r2 with
            | stop en s2 => exact ⟨max g1 g2 + 1, .stop en s2, by simp [evE, a1, a2, o1, o2, o13, o10, o39.1, o39.2], q2.trans q1.2⟩
            | ret u s2 =>
              cases ht : twoN op v u with
              | none => exact ⟨max g1 g2 + 1, .stop 1 s2, by simp [evE, a1, a2, o1, o2, o13, o10, o39.1, o39.2, ht], ⟨by omega, by omega⟩, q1.2.trans q2.2⟩
              | some x => exact ⟨max g1 g2 + 1, .ret x s2, by simp [evE, a1, a2, o1, o2, o13, o10, o39.1, o39.2, ht], arithN_lt q1.1 q2.1 ht, q1.2.trans q2.2⟩
      | [], h, _, _ => simp at h
      | [_], h, _, _ => simp at h
      | _ :: _ :: _ :: _, h, _, _ => simp at h
end Go.Proofs.YtpnliencahnmoaaGreatDoor

set_option linter.unusedVariables false
set_option linter.unusedSimpArgs false
set_option maxRecDepth 100000
namespace Go.Proofs.YtpnliencahnmoaaGreatDoor
open Go.RowKit
def keyList : List ByteArray := [⟨#[102, 110]⟩, ⟨#[108, 101, 116]⟩, ⟨#[115, 97, 121]⟩, ⟨#[112, 117, 116]⟩, ⟨#[105, 102]⟩, ⟨#[101, 108, 115, 101]⟩, ⟨#[108, 111, 111, 112]⟩, ⟨#[98, 97, 99, 107]⟩, ⟨#[100, 111]⟩]
def letB (c : UInt8) : Bool := decide (97 ≤ c.toNat) && decide (c.toNat ≤ 122)
def isNB (s : ByteArray) : Bool := s.data.toList.all letB && decide (1 ≤ s.size) && decide (s.size ≤ 4) && !memB keyList s
theorem letB_int (c : UInt8) : (decide (97 ≤ (c.toNat : Int)) && decide ((c.toNat : Int) ≤ 122)) = letB c := by
  unfold letB
  congr 1 <;> (apply decide_eq_decide.mpr; omega)
theorem strEq (x s : ByteArray) : (x.toList == s.toList) = decide (x = s) := by
  rw [Bool.eq_iff_iff, beq_iff_eq, decide_eq_true_eq]
  constructor
  · intro h
    rw [ByteArray.toList_eq, ByteArray.toList_eq] at h
    exact ByteArray.ext (Array.toList_inj.1 h)
  · rintro rfl; rfl
theorem strNe {x s : ByteArray} (h : ¬ x = s) : (x.toList == s.toList) = false := by rw [strEq]; exact decide_eq_false h
def SomeI (w : World) (e : Ending) (w' : World) : Prop := ∃ n : Int, e = .returned (.int .i64 n) ∧ w = w'
def ClsP (p : Bool) (w : World) (e : Ending) (w' : World) : Prop := ∃ n : Int, e = .returned (.int .i64 n) ∧ ((n == 1) = p) ∧ w = w'
def BoolP (p : Bool) (w : World) (e : Ending) (w' : World) : Prop := e = .returned (.bool p) ∧ Below w.heap.size w w'
set_option maxHeartbeats 400000 in
theorem l30Find_any (w : World) (s : ByteArray) (c : Int) (hs : s.size ≤ big) : Calls Tryz.prog 216 #[.string s, .int .u8 c] w (SomeI w) := by
  unfold big at hs
  go_enter Tryz.func216, Tryz.ntmps216
  go_wp2
  go_loop [5] (fun i => ∃ k : Nat, k ≤ s.size ∧ i = .int .i64 k) (fun i => s.size - (intOf i).toNat)
  case atStart => exact ⟨0, Nat.zero_le _, rfl⟩
  case round =>
    obtain ⟨k, hk, rfl⟩ := hrel
    by_cases hlt : k < s.size
    · go_wp2
      · go_ret
        exact ⟨_, rfl, rfl⟩
      · go_round
        case rel => exact ⟨k + 1, by omega, by go_num⟩
        case measure => simp [intOf]; omega
    · go_wp2
      go_ret
      exact ⟨_, rfl, rfl⟩
set_option maxHeartbeats 400000 in
theorem l1Class_any (w : World) (c : Int) (p : Bool) (hp : (decide (97 ≤ c) && decide (c ≤ 122)) = p) : Calls Tryz.prog 211 #[.int .u8 c] w (ClsP p w) := by
  by_cases h1 : 97 ≤ c ∧ c ≤ 122
  · obtain ⟨a, b⟩ := h1
    have hq : p = true := by rw [← hp]; simp [a, b]
    subst hq
    clear hp
    go_enter Tryz.func211, Tryz.ntmps211
    go_wp2
    go_ret
    exact ⟨1, rfl, rfl, rfl⟩
  · have hq : p = false := by rw [← hp, ← Bool.not_eq_true, Bool.and_eq_true, decide_eq_true_eq, decide_eq_true_eq]; exact h1
    subst hq
    clear hp
    have HF := Lib.hid (fun s (hs : s.size ≤ big) => l30Find_any w s c hs)
    by_cases a : 97 ≤ c
    · have b : ¬ c ≤ 122 := fun b => h1 ⟨a, b⟩
      clear h1
      go_enter Tryz.func211, Tryz.ntmps211
      go_wp2_with (go_at_call 216; refine (HF.out _ (by decide)).mono ?_; rintro e _ ⟨n, rfl, rfl⟩)
      all_goals (go_ret; exact ⟨_, rfl, rfl, rfl⟩)
    · clear h1
      go_enter Tryz.func211, Tryz.ntmps211
      go_wp2_with (go_at_call 216; refine (HF.out _ (by decide)).mono ?_; rintro e _ ⟨n, rfl, rfl⟩)
      all_goals (go_ret; exact ⟨_, rfl, rfl, rfl⟩)
def allB (l : List UInt8) : Bool := l.all letB
theorem allB_take {s : ByteArray} {k : Nat} (h : k < s.size) : allB (s.data.toList.take (k + 1)) = (allB (s.data.toList.take k) && letB s[k]) := by
  unfold allB
  rw [List.take_succ_eq_append_getElem (by simpa using h), List.all_append]
  simp
  rfl
theorem allB_false {s : ByteArray} {k : Nat} (h : allB (s.data.toList.take k) = false) : allB s.data.toList = false := by
  unfold allB at *
  rw [← List.take_append_drop k s.data.toList, List.all_append, h]
  rfl
def EqW (p : Bool) (w : World) (e : Ending) (w' : World) : Prop := e = .returned (.bool p) ∧ w = w'
set_option maxHeartbeats 400000 in
theorem l1All_any (w : World) (s : ByteArray) (p : Bool) (hs : s.size ≤ big) (hp : (allB s.data.toList && decide (1 ≤ s.size)) = p) : Calls Tryz.prog 200 #[.string s, .int .i64 1] w (EqW p w) := by
  unfold big at hs
  have HP := Lib.hid hp
  clear hp
  go_enter Tryz.func200, Tryz.ntmps200
  go_wp2
  go_loop [5] (fun i => ∃ k : Nat, k ≤ s.size ∧ i = .int .i64 k ∧ Hid (allB (s.data.toList.take k) = true)) (fun i => s.size - (intOf i).toNat)
  case atStart => exact ⟨0, Nat.zero_le _, rfl, Lib.hid (by simp [allB])⟩
  case round =>
    obtain ⟨k, hk, rfl, hA⟩ := hrel
    by_cases hlt : k < s.size
    · have HT := Lib.hid (allB_take hlt)
      have HF := Lib.hid (fun h => @allB_false s (k + 1) h)
      obtain ⟨b, hb⟩ : ∃ b, b = letB s[k] := ⟨_, rfl⟩
      have HC := Lib.hid (fun w => l1Class_any w (s[k].toNat : Int) b (by rw [hb]; exact letB_int _))
      have HB := Lib.hid hb
      clear hb
      go_wp2_with (fail)
      go_at_call 211
      refine (HC.out _).mono ?_
      rintro e _ ⟨n, rfl, hn, rfl⟩
      have hq : (n != 1) = !b := by rw [← hn]; rfl
      clear hn HC
      cases b
      · go_wp2_with (fail)
        go_ret
        have : p = false := by rw [← HP.out, HF.out (by rw [HT.out, ← HB.out, Bool.and_false])]; rfl
        rw [this]
        exact ⟨rfl, rfl⟩
      · go_wp2_with (fail)
        go_round
        case rel => exact ⟨k + 1, by omega, by go_num, Lib.hid (by rw [HT.out, hA.out, ← HB.out]; rfl)⟩
        case measure => simp [intOf]; omega
    · obtain rfl : k = s.size := by omega
      have h : allB s.data.toList = true := by have := hA.out; rwa [List.take_of_length_le (show s.data.toList.length ≤ s.size from Nat.le_refl _)] at this
      have hq : p = decide (0 < s.size) := by rw [← HP.out, h, Bool.true_and]; rfl
      subst hq
      clear hA HP h
      go_wp2
      go_ret
      exact ⟨rfl, rfl⟩
theorem StrsAt.cellAt {w : World} {b off n cap : Nat} {ss : List ByteArray} (h : StrsAt w (.slice (some ⟨b, off, none⟩) n cap) ss) {k : Nat} {x : ByteArray} (hx : ss[k]? = some x) : w.cell? ⟨b, off + k, none⟩ = some (.string x) ∧ x.size ≤ big := by
  obtain ⟨a, c, hv, _, hc⟩ := h
  obtain ⟨hz, b', off', ha, c0⟩ := hc k x hx
  injection hv with hv _ _
  rw [ha] at hv
  injection hv with hv
  injection hv with h1 h2 _
  subst h1 h2
  exact ⟨c0, hz⟩
theorem keyRow (w : World) (t : TypeId) : StrsAt (w.alloc (.cells (keyList.map Value.string).toArray t)) (.slice (some ⟨w.heap.size, 0, none⟩) 9 9) keyList := by
  refine ⟨_, 9, rfl, by decide, fun i s hi => ⟨?_, w.heap.size, 0, rfl, ?_⟩⟩
  · have := List.mem_of_getElem? hi
    have h : ∀ s ∈ keyList, s.size ≤ big := by decide
    exact h s this
  · rw [cell_of_row _ _ _ _ _ (0, 0) (heap_alloc_new w _)]
    simp [hi]
set_option maxHeartbeats 400000 in
theorem keyWords_any (w : World) : Calls Tryz.prog 212 #[] w fun e w' => e = .returned (.slice (some ⟨w.heap.size, 0, none⟩) 9 9) ∧ StrsAt w' (.slice (some ⟨w.heap.size, 0, none⟩) 9 9) keyList ∧ Below w.heap.size w w' := by
  have HK := Lib.hid (keyRow w)
  go_enter Tryz.func212, Tryz.ntmps212
  go_wp2
  go_ret
  exact ⟨rfl, HK.out _, below1 _ _⟩
theorem memB_take (xs : List ByteArray) (s : ByteArray) (k : Nat) (h : k < xs.length) : memB (xs.take (k + 1)) s = (memB (xs.take k) s || decide (xs[k] = s)) := by
  unfold memB
  rw [List.take_succ_eq_append_getElem h, List.any_append]
  simp
set_option maxHeartbeats 400000 in
theorem l1Key_any (w : World) (s : ByteArray) (p : Bool) (hp : memB keyList s = p) : Calls Tryz.prog 201 #[.string s] w (BoolP p w) := by
  have HP := Lib.hid hp
  have HK := Lib.hid (keyWords_any w)
  clear hp
  go_enter Tryz.func201, Tryz.ntmps201
  go_wp2_with (fail)
  go_at_call 212
  refine HK.out.mono ?_
  rintro e w1 ⟨rfl, hk, hb⟩
  have HB := Lib.hid hb
  have HR := Lib.hid hk
  clear hk hb HK
  go_wp2_with (fail)
  go_loop [4] (fun i => ∃ k : Nat, k ≤ 9 ∧ i = .int .i64 k ∧ Hid (memB (keyList.take k) s = false)) (fun i => 9 - (intOf i).toNat)
  case atStart => exact ⟨0, Nat.zero_le _, rfl, Lib.hid (by simp [memB])⟩
  case round =>
    obtain ⟨k, hk, rfl, hA⟩ := hrel
    by_cases hlt : k < 9
    · have hkl : k < keyList.length := hlt
      obtain ⟨x, hx⟩ : ∃ x, x = keyList[k] := ⟨_, rfl⟩
      have HT := Lib.hid (memB_take keyList s k hkl)
      obtain ⟨c0, _⟩ := HR.out.cellAt (k := k) (x := x) (by rw [hx]; exact List.getElem?_eq_getElem hkl)
      have HX := Lib.hid hx
      clear hx
      rw [Nat.zero_add] at c0
      by_cases hxs : x = s
      · subst hxs
        go_wp2_with (fail)
        go_ret
        have : p = true := by
          rw [← HP.out, memB_iff]
          rw [HX.out]; exact List.getElem_mem _
        rw [this]
        exact ⟨rfl, HB.out⟩
      · have hd : decide (x = s) = false := decide_eq_false hxs
        have HD := Lib.hid hd
        clear hd
        have hd := strNe hxs
        go_wp2_with (fail)
        go_round
        case rel => exact ⟨k + 1, by omega, by go_num, Lib.hid (by rw [HT.out, hA.out, ← HX.out, HD.out]; rfl)⟩
        case measure => simp [intOf]; omega
    · obtain rfl : k = 9 := by omega
      have : p = false := by rw [← HP.out]; exact hA.out
      subst this
      clear hA HP
      go_wp2
      go_ret
      exact ⟨rfl, HB.out⟩
set_option maxHeartbeats 400000 in
theorem specName_any (w : World) (s : ByteArray) (p : Bool) (hs : s.size ≤ big) (hp : isNB s = p) : Calls Tryz.prog 161 #[.string s] w (BoolP p w) := by
  have HA := Lib.hid (l1All_any w s _ hs rfl)
  have HK := Lib.hid (fun w' => l1Key_any w' s _ rfl)
  obtain ⟨a, ha⟩ : ∃ a, (allB s.data.toList && decide (1 ≤ s.size)) = a := ⟨_, rfl⟩
  obtain ⟨k, hk⟩ : ∃ k, memB keyList s = k := ⟨_, rfl⟩
  rw [ha] at HA
  simp only [hk] at HK
  unfold isNB at hp
  rw [hk] at hp
  change (allB s.data.toList && _ && _ && _) = _ at hp
  rw [ha] at hp
  unfold big at hs
  clear ha hk
  cases a
  · have : p = false := by rw [← hp]; simp
    subst this
    clear hp
    go_enter Tryz.func161, Tryz.ntmps161
    go_wp2_with (go_at_call 200; refine HA.out.mono ?_; rintro e _ ⟨rfl, rfl⟩)
    go_ret
    exact ⟨rfl, Below.refl _ _⟩
  · by_cases h4 : s.size ≤ 4
    · have : p = !k := by rw [← hp]; simp [h4]
      subst this
      clear hp
      go_enter Tryz.func161, Tryz.ntmps161
      go_wp2_with (go_at_call 200; refine HA.out.mono ?_; rintro e _ ⟨rfl, rfl⟩)
      go_at_call 201
      refine (HK.out _).mono ?_
      rintro e w1 ⟨rfl, hb⟩
      have HB := Lib.hid hb
      clear hb
      go_wp2_with (fail)
      go_ret
      exact ⟨rfl, HB.out⟩
    · have : p = false := by rw [← hp]; simp [h4]
      subst this
      clear hp
      go_enter Tryz.func161, Tryz.ntmps161
      go_wp2_with (go_at_call 200; refine HA.out.mono ?_; rintro e _ ⟨rfl, rfl⟩)
      go_ret
      exact ⟨rfl, Below.refl _ _⟩
end Go.Proofs.YtpnliencahnmoaaGreatDoor

set_option linter.unusedVariables false
set_option linter.unusedSimpArgs false
set_option maxRecDepth 100000
namespace Go.Proofs.YtpnliencahnmoaaGreatDoor
open Go.RowKit
/-- the key words lie in the variable -/
def KeysAt (w : World) : Prop := Blk w 1 (keyList.map Value.string)
theorem KeysAt.below {w w' : World} (h : KeysAt w) (hb : Below w.heap.size w w') : KeysAt w' := Blk.below h hb
theorem KeysAt.strs {w : World} (h : KeysAt w) : StrsAt w (.slice (some ⟨1, 0, none⟩) 9 9) keyList := by
  refine ⟨_, 9, rfl, by decide, fun i s hi => ⟨?_, 1, 0, rfl, ?_⟩⟩
  · have hm := List.mem_of_getElem? hi
    unfold keyList at hm
    simp only [List.mem_cons, List.not_mem_nil, or_false] at hm
    rcases hm with rfl | rfl | rfl | rfl | rfl | rfl | rfl | rfl | rfl <;> decide
  · rw [Nat.zero_add, Blk.cell h i, List.getElem?_map, hi]; rfl
theorem within_named (z lo hi : Int) (q : Bool) (hq : inR lo hi z = q) (w : World) :
    Calls Tryz.prog 39 #[.int .i64 z, .int .i64 lo, .int .i64 hi] w (EqW q w) := by
  subst hq
  by_cases h1 : lo ≤ z
  · by_cases h2 : z ≤ hi
    · have h : inR lo hi z = true := by simp [inR, h1, h2]
      rw [h]; clear h
      go_enter Tryz.func39, Tryz.ntmps39
      go_wp2_with (fail)
      go_ret
      exact ⟨by simp [h2], rfl⟩
    · have h : inR lo hi z = false := by simp [inR, h2]
      rw [h]; clear h
      go_enter Tryz.func39, Tryz.ntmps39
      go_wp2_with (fail)
      go_ret
      exact ⟨by simp [h2], rfl⟩
  · have h : inR lo hi z = false := by simp [inR, h1]
    rw [h]; clear h
    go_enter Tryz.func39, Tryz.ntmps39
    go_wp2_with (fail)
    go_ret
    exact ⟨rfl, rfl⟩
def offB (r : Int) : Bool := decide (r < 97) || decide (122 < r)
set_option maxHeartbeats 1000000 in
theorem clsName_any (w : World) (r : Int) (q : Bool) (hq : offB r = q) : Calls Tryz.prog 168 #[.int .i32 r] w (EqW q w) := by
  subst hq
  by_cases h1 : r < 97
  · have h : offB r = true := by simp [offB, h1]
    rw [h]; clear h
    go_enter Tryz.func168, Tryz.ntmps168
    go_wp2_with (fail)
    go_ret
    exact ⟨by simp [h1], rfl⟩
  · by_cases h2 : r > 122
    · have h : offB r = true := by simp [offB, h2]
      rw [h]; clear h
      go_enter Tryz.func168, Tryz.ntmps168
      go_wp2_with (fail)
      go_ret
      exact ⟨by simp [h2], rfl⟩
    · have h : offB r = false := by simp [offB]; omega
      rw [h]; clear h
      go_enter Tryz.func168, Tryz.ntmps168
      go_wp2_with (fail)
      go_ret
      exact ⟨by simp [h2], rfl⟩
theorem off_let {s : ByteArray} {k : Nat} (h : k < s.size) : offB ((Utf8.decode s k).1 : Int) = !letB s[k] ∧ (letB s[k] = true → (Utf8.decode s k).2 = 1) := by
  unfold offB letB
  by_cases ha : (s[k]'h).toNat < 128
  · rw [decode_ascii s k h ha]
    refine ⟨?_, fun _ => rfl⟩
    rw [Bool.eq_iff_iff]
    simp only [Bool.or_eq_true, decide_eq_true_eq, Bool.not_eq_true', Bool.and_eq_false_iff, decide_eq_false_iff_not]
    constructor
    · rintro (h | h)
      · left; omega
      · right; omega
    · rintro (h | h)
      · left; omega
      · right; omega
  · have hh := (decode_high s k h (by omega)).1
    refine ⟨?_, fun hl => ?_⟩
    · rw [Bool.eq_iff_iff]
      simp only [Bool.or_eq_true, decide_eq_true_eq, Bool.not_eq_true', Bool.and_eq_false_iff, decide_eq_false_iff_not]
      exact ⟨fun _ => .inr (by omega), fun _ => .inr (by omega)⟩
    · simp only [Bool.and_eq_true, decide_eq_true_eq] at hl; omega
/-- an index that tells by its sign -/
def SgnP (p : Bool) (w : World) (e : Ending) (w' : World) : Prop := ∃ n : Int, e = .returned (.int .i64 n) ∧ decide (n < 0) = !p ∧ Below w.heap.size w w'
set_option maxHeartbeats 2000000 in
theorem idxF_any (w : World) (s : ByteArray) (p : Bool) (hs : s.size ≤ big) (hp : p = !allB s.data.toList) : Calls Tryz.prog 205 #[.string s, .func (.func 168) #[] #[], .bool true] w (SgnP p w) := by
  unfold big at hs
  have HP := Lib.hid hp
  clear hp
  go_enter Tryz.func205, Tryz.ntmps205
  go_wp2_with (fail)
  go_loopw [7] (fun _ wr => ∃ k : Nat, k ≤ s.size ∧ wr = w.iter s k ∧ Hid (allB (s.data.toList.take k) = true)) (fun _ w' => s.size - w'.iterPos w.heap.size)
  case atStart => exact ⟨0, Nat.zero_le _, rfl, Lib.hid (by simp [allB])⟩
  case round =>
    obtain ⟨k, hk, rfl, hA⟩ := hrel
    have HB : Hid (Below w.heap.size w (w.iter s k)) := Lib.hid (below1 w _)
    by_cases hlt : k < s.size
    · have HT := Lib.hid (allB_take hlt)
      have HF := Lib.hid (fun h => @allB_false s (k + 1) h)
      obtain ⟨q1, q2⟩ := off_let hlt
      have HQ := Lib.hid q2
      obtain ⟨b, hb⟩ : ∃ b, b = letB s[k] := ⟨_, rfl⟩
      rw [← hb] at q1
      have HBL := Lib.hid hb
      have hd0 : (0 : Int) ≤ ((Utf8.decode s k).1 : Int) := by omega
      obtain ⟨d, hd⟩ : ∃ d, d = (Utf8.decode s k).1 := ⟨_, rfl⟩
      obtain ⟨e, he⟩ : ∃ e, e = (Utf8.decode s k).2 := ⟨_, rfl⟩
      have hnx : ∀ ty, (Instr.next (.pointer (some ⟨w.heap.size, 0, none⟩)) true ty).run Tryz.prog (w.iter s k) = .ok (.tuple #[.bool true, .int .i64 k, .int .i32 d]) (w.iter s (k + e)) := fun ty => by rw [hd, he]; exact run_next_any w s k ty hlt
      rw [← hd] at q1
      have HE := Lib.hid he
      have HC := Lib.hid (fun w' => clsName_any w' (d : Int) (!b) q1)
      clear hd he hb q1 q2 hd0
      go_wp2_with (fail)
      refine (HC.out _).mono ?_
      rintro e1 _ ⟨rfl, rfl⟩
      cases b
      · go_wp2_with (fail)
        go_ret
        refine ⟨_, rfl, ?_, below1 w _⟩
        rw [HP.out, HF.out (by rw [HT.out, ← HBL.out, Bool.and_false])]
        simp
      · have he1 : e = 1 := by rw [HE.out]; exact HQ.out HBL.out.symm
        subst he1
        go_wp2_with (fail)
        go_roundw
        case rel => exact ⟨k + 1, by omega, rfl, Lib.hid (by rw [HT.out, hA.out, ← HBL.out]; rfl)⟩
        case measure => simp; omega
    · have hnx : ∀ ty, (Instr.next (.pointer (some ⟨w.heap.size, 0, none⟩)) true ty).run Tryz.prog (w.iter s k) = _ := fun ty => run_next_end w s k ty hlt
      obtain rfl : k = s.size := by omega
      have h : allB s.data.toList = true := by have := hA.out; rwa [List.take_of_length_le (show s.data.toList.length ≤ s.size from Nat.le_refl _)] at this
      have hq : p = false := by rw [HP.out, h]; rfl
      subst hq
      clear hA HP h
      go_wp2_with (fail)
      go_ret
      exact ⟨_, rfl, rfl, HB.out⟩
set_option maxHeartbeats 1000000 in
theorem idxFunc_any (w : World) (s : ByteArray) (p : Bool) (hs : s.size ≤ big) (hp : p = !allB s.data.toList) : Calls Tryz.prog 167 #[.string s, .func (.func 168) #[] #[]] w (SgnP p w) := by
  have HC := Lib.hid (idxF_any w s p hs hp)
  clear hs hp
  go_enter Tryz.func167, Tryz.ntmps167
  go_wp2_with (fail)
  go_at_call 205
  refine HC.out.mono ?_
  rintro e w2 ⟨n, rfl, hn, hb⟩
  have HN := Lib.hid hn
  have HB := Lib.hid hb
  clear hn hb
  go_wp2_with (fail)
  go_ret
  exact ⟨n, rfl, HN.out, HB.out⟩
theorem memB_tk {ss : List ByteArray} {x y : ByteArray} {k : Nat} (hk : ss[k]? = some y) : memB (ss.take (k + 1)) x = (memB (ss.take k) x || decide (y = x)) := by
  have hl := idx_lt hk
  rw [List.getElem?_eq_getElem hl] at hk
  injection hk with hk
  unfold memB
  rw [List.take_succ_eq_append_getElem hl, List.any_append, hk]
  simp
theorem memB_hit {ss : List ByteArray} {x : ByteArray} {k : Nat} (h : memB (ss.take k) x = true) : memB ss x = true := memB_iff.2 (List.mem_of_mem_take (memB_iff.1 h))
def IdxS (p : Bool) (w : World) (e : Ending) (w' : World) : Prop := ∃ n : Int, e = .returned (.int .i64 n) ∧ decide (0 ≤ n) = p ∧ w = w'
set_option maxHeartbeats 2000000 in
theorem idxStr_any (w : World) (v : Value) (ss : List ByteArray) (x : ByteArray) (p : Bool) (h : StrsAt w v ss) (hp : p = memB ss x) : Calls Tryz.prog 206 #[v, .string x] w (IdxS p w) := by
  obtain ⟨a, c, rfl, hm, hc⟩ := h
  obtain ⟨n, hn⟩ : ∃ n, n = ss.length := ⟨_, rfl⟩
  rw [← hn] at hm ⊢
  unfold big at hm
  have HN := Lib.hid hn
  have HC := Lib.hid hc
  have HP := Lib.hid hp
  clear hn hc hp
  go_enter Tryz.func206, Tryz.ntmps206
  go_wp2_with (fail)
  go_loop [8] (fun i => ∃ k : Nat, k ≤ n ∧ i = .int .i64 k ∧ Hid (memB (ss.take k) x = false)) (fun i => n - (intOf i).toNat)
  case atStart => exact ⟨0, Nat.zero_le _, rfl, Lib.hid rfl⟩
  case round =>
    obtain ⟨k, hk, rfl, hA⟩ := hrel
    by_cases hlt : k < n
    · obtain ⟨y, hy⟩ : ∃ y, ss[k]? = some y := ⟨_, List.getElem?_eq_getElem (by rw [← HN.out]; exact hlt)⟩
      obtain ⟨hz, b, off, rfl, c0⟩ := HC.out k y hy
      have HT := Lib.hid (memB_tk (x := x) hy)
      have HH := Lib.hid (fun h => @memB_hit ss x (k + 1) h)
      have k0 : (0 : Int) ≤ k := by omega
      have k1 : (k : Int) < n := by omega
      clear hy
      by_cases e : x = y
      · subst e
        have hq : p = true := by rw [HP.out, HH.out (by rw [HT.out]; simp)]
        subst hq
        go_wp2_with (fail)
        go_ret
        exact ⟨_, rfl, by simp, rfl⟩
      · have hne := strNe e
        go_wp2_with (fail)
        go_round
        case rel => exact ⟨k + 1, by omega, by go_num, Lib.hid (by rw [HT.out, hA.out, Bool.false_or]; exact decide_eq_false (fun h => e h.symm))⟩
        case measure => simp [intOf]; omega
    · obtain rfl : k = n := by omega
      have hq : p = false := by have := hA.out; rw [HN.out, List.take_of_length_le (Nat.le_refl _)] at this; rw [HP.out, this]
      subst hq
      clear hA HP
      go_wp2_with (fail)
      go_ret
      exact ⟨_, rfl, rfl, rfl⟩
set_option maxHeartbeats 1000000 in
theorem contains_any (w : World) (v : Value) (ss : List ByteArray) (x : ByteArray) (p : Bool) (h : StrsAt w v ss) (hp : p = memB ss x) : Calls Tryz.prog 169 #[v, .string x] w (EqW p w) := by
  have HC := Lib.hid (idxStr_any w v ss x p h hp)
  obtain ⟨a, c, rfl, hm, hc⟩ := h
  clear hm hc hp
  go_enter Tryz.func169, Tryz.ntmps169
  go_wp2_with (fail)
  go_at_call 206
  refine HC.out.mono ?_
  rintro e _ ⟨n, rfl, hn, rfl⟩
  go_wp2_with (fail)
  go_ret
  exact ⟨by rw [← hn]; rfl, rfl⟩
set_option maxHeartbeats 2000000 in
theorem isName_any (w : World) (s : ByteArray) (p : Bool) (hK : KeysAt w) (hs : s.size ≤ big) (hp : p = isNB s) : Calls Tryz.prog 133 #[.string s] w (BoolP p w) := by
  have HK := Lib.hid hK
  obtain ⟨q1, h1⟩ : ∃ q, q = inR 1 4 s.size := ⟨_, rfl⟩
  obtain ⟨q2, h2⟩ : ∃ q, q = !allB s.data.toList := ⟨_, rfl⟩
  obtain ⟨q3, h3⟩ : ∃ q, q = memB keyList s := ⟨_, rfl⟩
  have hpq : p = (q1 && !q2 && !q3) := by
    rw [hp, h1, h2, h3]
    unfold isNB inR
    have e1 : decide ((1 : Int) ≤ s.size) = decide (1 ≤ s.size) := decide_eq_decide.mpr (by omega)
    have e2 : decide ((s.size : Int) ≤ 4) = decide (s.size ≤ 4) := decide_eq_decide.mpr (by omega)
    rw [e1, e2, Bool.not_not]
    unfold allB
    generalize List.all _ _ = a1
    generalize decide (1 ≤ s.size) = a2
    generalize decide (s.size ≤ 4) = a3
    cases a1 <;> cases a2 <;> cases a3 <;> rfl
  have HW := Lib.hid (within_named s.size 1 4 q1 h1.symm)
  have HI := Lib.hid (fun w' => idxFunc_any w' s q2 hs h2)
  have HC := Lib.hid (fun w' (hb : Below w.heap.size w w') => contains_any w' _ keyList s q3 (hK.below hb).strs h3)
  unfold big at hs
  clear hp h1 h2 h3 hK
  cases q1
  · subst hpq
    go_enter Tryz.func133, Tryz.ntmps133
    go_wp2_with (fail)
    go_at_call 39
    refine (HW.out _).mono ?_
    rintro e _ ⟨rfl, rfl⟩
    go_wp2_with (fail)
    go_ret
    exact ⟨rfl, Below.refl _ _⟩
  · go_enter Tryz.func133, Tryz.ntmps133
    go_wp2_with (fail)
    go_at_call 39
    refine (HW.out _).mono ?_
    rintro e _ ⟨rfl, rfl⟩
    go_wp2_with (fail)
    go_at_call 167
    refine (HI.out _).mono ?_
    rintro e w2 ⟨n, rfl, hn, hb⟩
    have HB := Lib.hid hb
    cases q2
    · have hn1 : decide (n < 0) = true := hn
      subst hpq
      clear hn hb
      go_wp2_with (fail)
      go_at_call 169
      refine (HC.out _ HB.out).mono ?_
      rintro e _ ⟨rfl, rfl⟩
      go_wp2_with (fail)
      go_ret
      exact ⟨by simp, HB.out⟩
    · have hn1 : decide (n < 0) = false := hn
      subst hpq
      clear hn hb
      go_wp2_with (fail)
      go_ret
      exact ⟨by simp, HB.out⟩
end Go.Proofs.YtpnliencahnmoaaGreatDoor

set_option linter.unusedVariables false
set_option linter.unusedSimpArgs false
set_option maxRecDepth 100000
namespace Go.Proofs.YtpnliencahnmoaaGreatDoor
open Go.RowKit

mutual
def exW : Ex → Nat
  | .mk _ _ name kids => name.size + exsW kids
def exsW : List Ex → Nat
  | [] => 0
  | e :: r => 1 + exW e + exsW r
end
mutual
def stW : St → Nat
  | .mk _ name args body els => name.size + exsW args + stsW body + stsW els
def stsW : List St → Nat
  | [] => 0
  | s :: r => 1 + stW s + stsW r
end
def strsW (ss : List ByteArray) : Nat := ss.length + (ss.map ByteArray.size).sum
def fxW (f : Fx) : Nat := f.name.size + strsW f.params + stsW f.body
def fxsW (fs : List Fx) : Nat := fs.length + (fs.map fxW).sum
theorem exW_eq (e : Ex) : exW e = e.name.size + exsW e.kids := by cases e; simp [exW, Ex.name, Ex.kids]
theorem stW_eq (s : St) : stW s = s.name.size + exsW s.args + stsW s.body + stsW s.els := by cases s; simp [stW, St.name, St.args, St.body, St.els]
theorem exsW_sum (es : List Ex) : exsW es = es.length + (es.map exW).sum := by
  induction es with
  | nil => simp [exsW]
  | cons e r ih => simp [exsW, ih]; omega
theorem stsW_sum (ss : List St) : stsW ss = ss.length + (ss.map stW).sum := by
  induction ss with
  | nil => simp [stsW]
  | cons e r ih => simp [stsW, ih]; omega
theorem sum_take_succ {α : Type} (f : α → Nat) (l : List α) (k : Nat) (x : α) (h : l[k]? = some x) : ((l.take (k + 1)).map f).sum = ((l.take k).map f).sum + f x := by
  rw [List.take_add_one, h]
  simp
theorem sum_take_le {α : Type} (f : α → Nat) (l : List α) (k : Nat) : ((l.take k).map f).sum ≤ (l.map f).sum := by
  have h : l.map f = (l.take k).map f ++ (l.drop k).map f := by rw [← List.map_append, List.take_append_drop]
  rw [h, List.sum_append]
  omega
theorem sum_mem_le {α : Type} (f : α → Nat) {l : List α} {x : α} (h : x ∈ l) : f x ≤ (l.map f).sum := by
  induction l with
  | nil => cases h
  | cons y r ih =>
    simp only [List.map_cons, List.sum_cons]
    rcases List.mem_cons.1 h with rfl | h
    · omega
    · have := ih h; omega
/-- what size functions give back: what is left, or -1 -/
def szR (left : Int) (n : Nat) : Int := if left < (n : Int) then -1 else left - n
theorem szR_add {left : Int} {a b : Nat} (h : ¬ left < (a : Int)) : szR (left - a) b = szR left (a + b) := by
  unfold szR
  by_cases c : left - (a : Int) < (b : Int)
  · rw [if_pos c, if_pos (by omega)]
  · rw [if_neg c, if_neg (by omega)]; omega
end Go.Proofs.YtpnliencahnmoaaGreatDoor
