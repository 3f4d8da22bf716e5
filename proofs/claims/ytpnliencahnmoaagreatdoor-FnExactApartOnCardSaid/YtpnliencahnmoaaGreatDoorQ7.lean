/- A region that draws its order: loads that nobody writes ahead of the last operation are taken first; the rest goes in one forced order. No program in sight. As wp_region_held, for heads on which the last operation waits through others. No program in sight. The reference's check of names: its small functions. -/
import Derived.Test.YtpnliencahnmoaaGreatDoorQ1
import Derived.OrdersHeld
import Derived.StillTail
import Derived.Test.YtpnliencahnmoaaGreatDoorQ5
import Derived.Deep.AppendLies
set_option linter.unusedVariables false
set_option linter.unusedSimpArgs false
set_option linter.unusedVariables false
set_option linter.unusedSimpArgs false
set_option maxRecDepth 100000
namespace Go.Proofs.YtpnliencahnmoaaGreatDoor
section
variable {P : Program} {ops : Array Oper} {Q : Exit → Act → World → Prop} {md : Region.Mode} {S : World → Prop} {e : Nat}
/-- whatever order is picked, and S holds behind every operation as long as number e has not come up -/
def wpAnyT (P : Program) (md : Region.Mode) (ops : Array Oper) (Q : Exit → Act → World → Prop) (S : World → Prop) (e : Nat) : Nat → Array Bool → Act → World → Prop
  | 0, listed, a, w => Region.ready md ops listed = [] ∧ Q .normal a w
  | fuel + 1, listed, a, w =>
    (Region.ready md ops listed = [] → Q .normal a w) ∧
    ∀ i ∈ Region.ready md ops listed, wpOp P ops Q i (fun a' w' => ((listed.setIfInBounds i true).getD e false = true ∨ S w') ∧ wpAnyT P md ops Q S e fuel (listed.setIfInBounds i true) a' w') a w
theorem wpAny_of_T : ∀ (fuel : Nat) (listed : Array Bool) (a : Act) (w : World), wpAnyT P md ops Q S e fuel listed a w → wpAny P md ops Q fuel listed a w
  | 0, _, _, _, h => h
  | fuel + 1, _, _, _, h => ⟨h.1, fun i hi => wpOp_mono (fun a' w' h' => wpAny_of_T fuel _ a' w' h'.2) (h.2 i hi)⟩
/-- an operation that number e waits for, and that yields its value in every world that meets S -/
theorem wpAnyT_first {i : Nat} {oi : Oper} {v : Value} (hi : ops[i]? = some oi) (hsel : ∀ (j : Nat) (o : Oper) cs b, ops[j]? = some o → o.op ≠ .select cs b)
    (hQ : ∀ c a w, Q (.panic c) (a.put oi.dst v) w → Q (.panic c) a w) (hwait : Region.waitsFor md ops e i = true) (hie : i ≠ e) :
    ∀ (fuel : Nat) (listed : Array Bool) (a : Act) (w : World),
      (∀ j oj, ops[j]? = some oj → j ≠ i → listed.getD j true = false → (∀ e ∈ oj.after, Region.binds md e = true → e.on ≠ i) → oi.apart ops oj = true) →
      i ∈ Region.ready md ops listed → YieldsIf P ops S oi v a → S w → listed.getD e false = false →
      wpAnyT P md ops Q S e fuel (listed.setIfInBounds i true) (a.put oi.dst v) w → wpAnyT P md ops Q S e (fuel + 1) listed a w := by
  intro fuel
  induction fuel with
  | zero =>
    intro listed a w _ hr hy hS hne H
    refine ⟨fun h => (by rw [h] at hr; cases hr), fun j hj => ?_⟩
    by_cases hji : j = i
    · subst hji; exact hy.wpOp hi hS ⟨.inr hS, H⟩
    · have := ready_mono hj hji
      rw [H.1] at this
      cases this
  | succ fuel ih =>
    intro listed a w hfree hr hy hS hne H
    refine ⟨fun h => (by rw [h] at hr; cases hr), fun j hj => ?_⟩
    by_cases hji : j = i
    · subst hji; exact hy.wpOp hi hS ⟨.inr hS, H⟩
    · have h1 := H.2 j (ready_mono hj hji)
      obtain ⟨hjun, oj, hoj, hall⟩ := mem_ready.1 hj
      have hnot : ∀ e ∈ oj.after, Region.binds md e = true → e.on ≠ i := fun e he hb heq => by
        have h1 := hall e he hb
        have h0 := (mem_ready.1 hr).1
        rw [heq] at h1
        rcases Nat.lt_or_ge i listed.size with h' | h'
        · simp [h'] at h0 h1; rw [h0] at h1; cases h1
        · simp [Array.getElem?_eq_none h'] at h1
      have hje : j ≠ e := fun heq => by
        subst heq
        obtain ⟨o2, ho2, ed, hed, hb, hon⟩ := Region.waitsFor_spec hwait
        have : o2 = oj := Option.some.inj (ho2.symm.trans hoj)
        subst this
        exact hnot ed hed hb hon
      have h2 := wpOp_putIf hoj (hfree j oj hoj hji hjun hnot) (fun cs b => hsel i oi cs b hi) (fun cs b => hsel j oj cs b hoj) hQ hy h1
      have hfree' : ∀ k ok, ops[k]? = some ok → k ≠ i → (listed.setIfInBounds j true).getD k true = false →
          (∀ e ∈ ok.after, Region.binds md e = true → e.on ≠ i) → oi.apart ops ok = true := fun k ok hk hki hun hno => by
        refine hfree k ok hk hki ?_ hno
        by_cases hjk : j = k
        · subst hjk; exact hjun
        · rw [getD_set_ne true hjk] at hun; exact hun
      refine wpOp_mono (fun a' w' h3 => ?_) h2
      have hne' : (listed.setIfInBounds j true).getD e false = false := by rw [getD_set_ne false hje]; exact hne
      have hS' : S w' := h3.2.1.resolve_left (by rw [getD_set_ne false hje, getD_set_ne false hie, hne]; simp)
      refine ⟨.inr hS', ih (listed.setIfInBounds j true) a' w' hfree' (ready_mono hr (Ne.symm hji)) h3.1 hS' hne' ?_⟩
      rw [Array.setIfInBounds_comm _ _ hji]
      exact h3.2.2
/-- an operation that yields its value in whatever world -/
theorem wpAnyT_firstY {i : Nat} {oi : Oper} {v : Value} (hi : ops[i]? = some oi) (hsel : ∀ (j : Nat) (o : Oper) cs b, ops[j]? = some o → o.op ≠ .select cs b)
    (hQ : ∀ c a w, Q (.panic c) (a.put oi.dst v) w → Q (.panic c) a w) (hie : i ≠ e) :
    ∀ (fuel : Nat) (listed : Array Bool) (a : Act) (w : World),
      (∀ j oj, ops[j]? = some oj → j ≠ i → listed.getD j true = false → (∀ e ∈ oj.after, Region.binds md e = true → e.on ≠ i) → oi.apart ops oj = true) →
      i ∈ Region.ready md ops listed → Yields P ops oi v a → (listed.getD e false = true ∨ S w) →
      wpAnyT P md ops Q S e fuel (listed.setIfInBounds i true) (a.put oi.dst v) w → wpAnyT P md ops Q S e (fuel + 1) listed a w := by
  intro fuel
  induction fuel with
  | zero =>
    intro listed a w _ hr hy hS H
    refine ⟨fun h => (by rw [h] at hr; cases hr), fun j hj => ?_⟩
    by_cases hji : j = i
    · subst hji; exact hy.wpOp hi ⟨by rw [getD_set_ne false hie]; exact hS, H⟩
    · have := ready_mono hj hji
      rw [H.1] at this
      cases this
  | succ fuel ih =>
    intro listed a w hfree hr hy hS H
    refine ⟨fun h => (by rw [h] at hr; cases hr), fun j hj => ?_⟩
    by_cases hji : j = i
    · subst hji; exact hy.wpOp hi ⟨by rw [getD_set_ne false hie]; exact hS, H⟩
    · have h1 := H.2 j (ready_mono hj hji)
      obtain ⟨hjun, oj, hoj, hall⟩ := mem_ready.1 hj
      have hnot : ∀ e ∈ oj.after, Region.binds md e = true → e.on ≠ i := fun e he hb heq => by
        have h1 := hall e he hb
        have h0 := (mem_ready.1 hr).1
        rw [heq] at h1
        rcases Nat.lt_or_ge i listed.size with h' | h'
        · simp [h'] at h0 h1; rw [h0] at h1; cases h1
        · simp [Array.getElem?_eq_none h'] at h1
      have h2 := wpOp_put hoj (hfree j oj hoj hji hjun hnot) (fun cs b => hsel i oi cs b hi) (fun cs b => hsel j oj cs b hoj) hQ hy h1
      have hfree' : ∀ k ok, ops[k]? = some ok → k ≠ i → (listed.setIfInBounds j true).getD k true = false →
          (∀ e ∈ ok.after, Region.binds md e = true → e.on ≠ i) → oi.apart ops ok = true := fun k ok hk hki hun hno => by
        refine hfree k ok hk hki ?_ hno
        by_cases hjk : j = k
        · subst hjk; exact hjun
        · rw [getD_set_ne true hjk] at hun; exact hun
      refine wpOp_mono (fun a' w' h3 => ?_) h2
      have hS' : (listed.setIfInBounds j true).getD e false = true ∨ S w' := by
        rcases h3.2.1 with h | h
        · rw [Array.setIfInBounds_comm _ _ (Ne.symm hji), getD_set_ne false hie] at h; exact .inl h
        · exact .inr h
      refine ⟨hS', ih (listed.setIfInBounds j true) a' w' hfree' (ready_mono hr (Ne.symm hji)) h3.1 hS' ?_⟩
      rw [Array.setIfInBounds_comm _ _ hji]
      exact h3.2.2
/-- the heads, in the order that is told; 'true': number e waits for it -/
def heldL (P : Program) (ops : Array Oper) (S : World → Prop) (K : Act → Prop) : List (Nat × Bool) → Act → Prop
  | [], a => K a
  | (i, b) :: is, a => ∃ o v, ops[i]? = some o ∧ (Region.wanted o (yielded ops a.tmps) = true ∧ ∀ w, (b = true → S w) → (execOp a.eval o).run P w = .ok (.value v) w) ∧ heldL P ops S K is (a.put o.dst v)
def headsB (md : Region.Mode) (ops : Array Oper) (e : Nat) : List (Nat × Bool) → Array Bool → Bool
  | [], _ => true
  | (i, b) :: is, listed => (Region.ready md ops listed).contains i && Region.free md ops listed i && (!b || Region.waitsFor md ops e i) && decide (i ≠ e) && !(listed.getD e false) && headsB md ops e is (listed.setIfInBounds i true)
def listAll : List (Nat × Bool) → Array Bool → Array Bool
  | [], listed => listed
  | (i, _) :: is, listed => listAll is (listed.setIfInBounds i true)
theorem wpAnyT_heads {fuel : Nat} {w : World} (hsel : Region.noSelect ops = true) (hQ : ∀ d v c a w, Q (.panic c) (Act.put a d v) w → Q (.panic c) a w) (hS : S w) :
    ∀ (is : List (Nat × Bool)) (listed : Array Bool) (a : Act), headsB md ops e is listed = true →
      heldL P ops S (fun a' => wpAnyT P md ops Q S e fuel (listAll is listed) a' w) is a → wpAnyT P md ops Q S e (fuel + is.length) listed a w
  | [], _, _, _, h => h
  | (i, b) :: is, listed, a, hB, ⟨o, v, ho, ⟨hw, hy⟩, h⟩ => by
    simp only [headsB, Bool.and_eq_true, decide_eq_true_eq, Bool.not_eq_true', Bool.or_eq_true] at hB
    obtain ⟨⟨⟨⟨⟨hr, hf⟩, hwt⟩, hie⟩, hne⟩, hB'⟩ := hB
    rw [List.length_cons, ← Nat.add_assoc]
    have hrest := wpAnyT_heads hsel hQ hS is _ _ hB' h
    cases b with
    | true => exact wpAnyT_first ho (Region.noSelect_spec hsel) (hQ _ _) (hwt.resolve_left (by simp)) hie _ listed a w (Region.free_spec ho hf) (by simpa using hr) (.inl ⟨hw, fun w hS => hy w (fun _ => hS)⟩) hS hne hrest
    | false => exact wpAnyT_firstY ho (Region.noSelect_spec hsel) (hQ _ _) hie _ listed a w (Region.free_spec ho hf) (by simpa using hr) (.inl ⟨hw, fun w => hy w (by simp)⟩) (.inr hS) hrest
/-- the rest, in its one order; S is asked behind each but the last -/
def tailT (P : Program) (ops : Array Oper) (Q : Exit → Act → World → Prop) (S : World → Prop) (e : Nat) : List Nat → Act → World → Prop
  | [], a, w => Q .normal a w
  | t :: ts, a, w => wpOp P ops Q t (fun a' w' => (t = e ∨ S w') ∧ tailT P ops Q S e ts a' w') a w
def tailB (md : Region.Mode) (ops : Array Oper) (e : Nat) : List Nat → Array Bool → Bool
  | [], listed => (Region.ready md ops listed).isEmpty
  | t :: ts, listed => decide (Region.ready md ops listed = [t]) && decide (t < listed.size) && tailB md ops e ts (listed.setIfInBounds t true)
theorem wpAnyT_tail : ∀ (ts : List Nat) (listed : Array Bool) (a : Act) (w : World), tailB md ops e ts listed = true → tailT P ops Q S e ts a w → wpAnyT P md ops Q S e ts.length listed a w
  | [], listed, a, w, hB, h => ⟨by simpa [tailB] using hB, h⟩
  | t :: ts, listed, a, w, hB, h => by
    simp only [tailB, Bool.and_eq_true, decide_eq_true_eq] at hB
    obtain ⟨⟨h1, h2⟩, h3⟩ := hB
    refine ⟨fun h0 => absurd (h1 ▸ h0) (by simp), fun i hi => ?_⟩
    rw [h1] at hi
    have hit : i = t := by simpa using hi
    subst hit
    refine wpOp_mono (fun a' w' h' => ⟨?_, wpAnyT_tail ts _ a' w' h3 h'.2⟩) h
    rcases h'.1 with h4 | h4
    · subst h4; exact .inl (by simp [h2])
    · exact .inr h4
def heldTailB (md : Region.Mode) (ops : Array Oper) (is : List (Nat × Bool)) (ts : List Nat) (e : Nat) : Bool :=
  Region.noSelect ops && headsB md ops e is (Array.replicate ops.size false) && tailB md ops e ts (listAll is (Array.replicate ops.size false)) && decide (ts.length + is.length = ops.size)
theorem wp_region_heldTail (S : World → Prop) (is : List (Nat × Bool)) (ts : List Nat) (e : Nat) {id : Nat} {a : Act} {w : World} (hm : P.follows .mixedOrders = true) (hB : heldTailB .any ops is ts e = true)
    (hQ : ∀ d v c a w, Q (.panic c) (Act.put a d v) w → Q (.panic c) a w) (hS : S w.drew)
    (h : heldL P ops S (fun a' => tailT P ops Q S e ts a' w.drew) is a) : (Code.region id ops true).wp P Q a w := by
  simp only [heldTailB, Bool.and_eq_true, decide_eq_true_eq] at hB
  obtain ⟨⟨⟨h1, h2⟩, h3⟩, h4⟩ := hB
  refine wp_region_any hm (wpAny_of_T (S := S) (e := e) _ _ _ _ ?_)
  have := wpAnyT_heads (P := P) (Q := Q) (fuel := ts.length) (w := w.drew) (md := .any) (e := e) h1 hQ hS is (Array.replicate ops.size false) a h2
  rw [h4] at this
  refine this ?_
  clear this
  generalize listAll is (Array.replicate ops.size false) = li at h3 ⊢
  have key : ∀ (is : List (Nat × Bool)) (a : Act), heldL P ops S (fun a' => tailT P ops Q S e ts a' w.drew) is a → heldL P ops S (fun a' => wpAnyT P .any ops Q S e ts.length li a' w.drew) is a := by
    intro is
    induction is with
    | nil => intro a h; exact wpAnyT_tail ts li a w.drew h3 h
    | cons i is ih => intro a ⟨o, v, ho, hy, h⟩; exact ⟨o, v, ho, hy, ih _ h⟩
  exact key is a h
/-- the heads by their operations -/
def heldO (P : Program) (ops : Array Oper) (S : World → Prop) (K : Act → Prop) : List (Oper × Bool) → Act → Prop
  | [], a => K a
  | (o, b) :: os, a => ∃ v, (Region.wanted o (yielded ops a.tmps) = true ∧ ∀ w, (b = true → S w) → (execOp a.eval o).run P w = .ok (.value v) w) ∧ heldO P ops S K os (a.put o.dst v)
def pickO (l : List Oper) (is : List (Nat × Bool)) : List (Oper × Bool) := is.map fun p => (l.getD p.1 default, p.2)
theorem heldL_of_O {K : Act → Prop} : ∀ (is : List (Nat × Bool)) (a : Act), (is.all fun p => decide (p.1 < ops.size)) = true → heldO P ops S K (pickO ops.toList is) a → heldL P ops S K is a
  | [], _, _, h => h
  | (i, b) :: is, a, hB, h => by
    simp only [List.all_cons, Bool.and_eq_true, decide_eq_true_eq] at hB
    simp only [pickO, List.map_cons, heldO] at h
    obtain ⟨v, hy, h⟩ := h
    have hi : ops[i]? = some (ops.toList.getD i default) := by
      rw [List.getD_eq_getElem?_getD]
      simp [hB.1]
    exact ⟨_, v, hi, hy, heldL_of_O is _ hB.2 h⟩
theorem heldO_nil {K : Act → Prop} {a : Act} (h : K a) : heldO P ops S K [] a := h
/-- a load, and whatever looks at memory -/
theorem heldO_step {K : Act → Prop} {os : List (Oper × Bool)} {a : Act} {o : Oper} {v : Value} (hw : Region.wanted o (yielded ops a.tmps) = true) (hy : ∀ w, S w → (execOp a.eval o).run P w = .ok (.value v) w)
    (h : heldO P ops S K os (a.put o.dst v)) : heldO P ops S K ((o, true) :: os) a := ⟨v, ⟨hw, fun w hS => hy w (hS rfl)⟩, h⟩
/-- what does not look at memory -/
theorem heldO_stepY {K : Act → Prop} {os : List (Oper × Bool)} {a : Act} {o : Oper} {v : Value} (hw : Region.wanted o (yielded ops a.tmps) = true) (hy : ∀ w, (execOp a.eval o).run P w = .ok (.value v) w)
    (h : heldO P ops S K os (a.put o.dst v)) : heldO P ops S K ((o, false) :: os) a := ⟨v, ⟨hw, fun w _ => hy w⟩, h⟩
/-- the rest by its operations; 'true': the last -/
def tailO (P : Program) (ops : Array Oper) (Q : Exit → Act → World → Prop) (S : World → Prop) : List Oper → Act → World → Prop
  | [], a, w => Q .normal a w
  | o :: os, a, w => Region.wanted o (yielded ops a.tmps) = true ∧ o.wp P a w (fun a' w' => (os = [] ∨ S w') ∧ tailO P ops Q S os a' w') Q
theorem tailT_of_O : ∀ (ts : List Nat) (a : Act) (w : World), (ts.all fun t => decide (t < ops.size)) = true → (∀ t, ts.getLast? = some t → t = e) → tailO P ops Q S (ts.map fun t => ops.toList.getD t default) a w → tailT P ops Q S e ts a w
  | [], _, _, _, _, h => h
  | t :: ts, a, w, hB, hl, h => by
    simp only [List.all_cons, Bool.and_eq_true, decide_eq_true_eq] at hB
    simp only [List.map_cons, tailO] at h
    have hi : ops[t]? = some (ops.toList.getD t default) := by
      rw [List.getD_eq_getElem?_getD]
      simp [hB.1]
    unfold tailT wpOp
    simp only [hi, h.1, if_true]
    refine .inl (Oper.wp_mono (fun a' w' h' => ⟨?_, tailT_of_O ts a' w' hB.2 ?_ h'.2⟩) h.2)
    · rcases h'.1 with h1 | h1
      · have : ts = [] := by simpa using h1
        subst this
        exact .inl (hl t rfl)
      · exact .inr h1
    · intro t' ht'
      refine hl t' ?_
      cases ts with
      | nil => simp at ht'
      | cons x xs => simpa using ht'
theorem tailO_nil {a : Act} {w : World} (h : Q .normal a w) : tailO P ops Q S [] a w := h
theorem tailO_step {os : List Oper} {a : Act} {w : World} {o : Oper} (hw : Region.wanted o (yielded ops a.tmps) = true)
    (h : ∀ K : Act → World → Prop, (∀ a' w', (os = [] ∨ S w') → tailO P ops Q S os a' w' → K a' w') → o.wp P a w K Q) : tailO P ops Q S (o :: os) a w :=
  ⟨hw, h _ (fun _ _ h1 h2 => ⟨h1, h2⟩)⟩
theorem wp_region_held {l : List Oper} (S : World → Prop) (is : List (Nat × Bool)) (ts : List Nat) (e : Nat) {id : Nat} {a : Act} {w : World} (hm : P.follows .mixedOrders = true)
    (hB : (heldTailB .any l.toArray is ts e && (is.all fun p => decide (p.1 < l.toArray.size)) && (ts.all fun t => decide (t < l.toArray.size)) && decide (ts.getLast? = some e)) = true)
    (hQ : ∀ d v c a w, Q (.panic c) (Act.put a d v) w → Q (.panic c) a w) (hS : S w.drew)
    (h : heldO P l.toArray S (fun a' => tailO P l.toArray Q S (ts.map fun t => l.getD t default) a' w.drew) (pickO l is) a) : (Code.region id l.toArray true).wp P Q a w := by
  simp only [Bool.and_eq_true, decide_eq_true_eq] at hB
  obtain ⟨⟨⟨h1, h2⟩, h3⟩, h4⟩ := hB
  refine wp_region_heldTail S is ts e hm h1 hQ hS (heldL_of_O is a h2 ?_)
  have key : ∀ (os : List (Oper × Bool)) (a : Act), heldO P l.toArray S (fun a' => tailO P l.toArray Q S (ts.map fun t => l.getD t default) a' w.drew) os a → heldO P l.toArray S (fun a' => tailT P l.toArray Q S e ts a' w.drew) os a := by
    intro os
    induction os with
    | nil => intro a h; exact tailT_of_O ts a w.drew h3 (fun t ht => by rw [h4] at ht; exact (Option.some.inj ht).symm) h
    | cons o os ih => intro a ⟨v, hy, h⟩; exact ⟨v, hy, ih _ h⟩
  exact key _ a h
end
end Go.Proofs.YtpnliencahnmoaaGreatDoor

set_option linter.unusedVariables false
set_option linter.unusedSimpArgs false
set_option maxRecDepth 100000
namespace Go.Proofs.YtpnliencahnmoaaGreatDoor
section
variable {P : Program} {ops : Array Oper} {Q : Exit → Act → World → Prop} {md : Region.Mode} {S : World → Prop} {e : Nat}
/-- an operation that number e waits for, and that yields its value in every world that meets S -/
theorem wpAnyT_firstU {i : Nat} {oi : Oper} {v : Value} (hi : ops[i]? = some oi) (hsel : ∀ (j : Nat) (o : Oper) cs b, ops[j]? = some o → o.op ≠ .select cs b)
    (hQ : ∀ c a w, Q (.panic c) (a.put oi.dst v) w → Q (.panic c) a w) {U : List Nat} (heU : e ∈ U) (hiU : i ∉ U) (hwait : ∀ k ∈ U, Region.waitsFor md ops k i = true ∨ ∃ k' ∈ U, Region.waitsFor md ops k k' = true) :
    ∀ (fuel : Nat) (listed : Array Bool) (a : Act) (w : World),
      (∀ j oj, ops[j]? = some oj → j ≠ i → listed.getD j true = false → (∀ e ∈ oj.after, Region.binds md e = true → e.on ≠ i) → oi.apart ops oj = true) →
      i ∈ Region.ready md ops listed → YieldsIf P ops S oi v a → S w → (∀ k ∈ U, listed.getD k false = false) →
      wpAnyT P md ops Q S e fuel (listed.setIfInBounds i true) (a.put oi.dst v) w → wpAnyT P md ops Q S e (fuel + 1) listed a w := by
  intro fuel
  induction fuel with
  | zero =>
    intro listed a w _ hr hy hS hne H
    refine ⟨fun h => (by rw [h] at hr; cases hr), fun j hj => ?_⟩
    by_cases hji : j = i
    · subst hji; exact hy.wpOp hi hS ⟨.inr hS, H⟩
    · have := ready_mono hj hji
      rw [H.1] at this
      cases this
  | succ fuel ih =>
    intro listed a w hfree hr hy hS hne H
    refine ⟨fun h => (by rw [h] at hr; cases hr), fun j hj => ?_⟩
    by_cases hji : j = i
    · subst hji; exact hy.wpOp hi hS ⟨.inr hS, H⟩
    · have h1 := H.2 j (ready_mono hj hji)
      obtain ⟨hjun, oj, hoj, hall⟩ := mem_ready.1 hj
      have hnot : ∀ e ∈ oj.after, Region.binds md e = true → e.on ≠ i := fun e he hb heq => by
        have h1 := hall e he hb
        have h0 := (mem_ready.1 hr).1
        rw [heq] at h1
        rcases Nat.lt_or_ge i listed.size with h' | h'
        · simp [h'] at h0 h1; rw [h0] at h1; cases h1
        · simp [Array.getElem?_eq_none h'] at h1
      have hie : i ≠ e := fun h => hiU (h ▸ heU)
      have hjU : j ∉ U := fun hjU => by
        rcases hwait j hjU with hw | ⟨k', hk', hw⟩
        · obtain ⟨o2, ho2, ed, hed, hb, hon⟩ := Region.waitsFor_spec hw
          have : o2 = oj := Option.some.inj (ho2.symm.trans hoj)
          subst this
          exact hnot ed hed hb hon
        · obtain ⟨o2, ho2, ed, hed, hb, hon⟩ := Region.waitsFor_spec hw
          have : o2 = oj := Option.some.inj (ho2.symm.trans hoj)
          subst this
          have h1 := hall ed hed hb
          rw [hon] at h1
          have h2 := hne k' hk'
          have hki : k' ≠ i := fun h => hiU (h ▸ hk')
          rw [h2] at h1
          cases h1
      have hje : j ≠ e := fun h => hjU (h ▸ heU)
      have h2 := wpOp_putIf hoj (hfree j oj hoj hji hjun hnot) (fun cs b => hsel i oi cs b hi) (fun cs b => hsel j oj cs b hoj) hQ hy h1
      have hfree' : ∀ k ok, ops[k]? = some ok → k ≠ i → (listed.setIfInBounds j true).getD k true = false →
          (∀ e ∈ ok.after, Region.binds md e = true → e.on ≠ i) → oi.apart ops ok = true := fun k ok hk hki hun hno => by
        refine hfree k ok hk hki ?_ hno
        by_cases hjk : j = k
        · subst hjk; exact hjun
        · rw [getD_set_ne true hjk] at hun; exact hun
      refine wpOp_mono (fun a' w' h3 => ?_) h2
      have hne' : ∀ k ∈ U, (listed.setIfInBounds j true).getD k false = false := fun k hk => by
        have hjk : j ≠ k := fun h => hjU (h ▸ hk)
        rw [getD_set_ne false hjk]; exact hne k hk
      have hS' : S w' := h3.2.1.resolve_left (by rw [getD_set_ne false hje, getD_set_ne false hie, hne e heU]; simp)
      refine ⟨.inr hS', ih (listed.setIfInBounds j true) a' w' hfree' (ready_mono hr (Ne.symm hji)) h3.1 hS' hne' ?_⟩
      rw [Array.setIfInBounds_comm _ _ hji]
      exact h3.2.2
/-- what comes behind number i, through one another -/
def behindOf (md : Region.Mode) (ops : Array Oper) (i : Nat) : Nat → List Nat
  | 0 => (List.range ops.size).filter fun k => Region.waitsFor md ops k i
  | n + 1 => (List.range ops.size).filter fun k => Region.waitsFor md ops k i || (behindOf md ops i n).any fun k' => Region.waitsFor md ops k k'
def chainBU (md : Region.Mode) (ops : Array Oper) (e i : Nat) (listed : Array Bool) (U : List Nat) : Bool :=
  U.contains e && !U.contains i && U.all (fun k => Region.waitsFor md ops k i || U.any fun k' => Region.waitsFor md ops k k') && U.all fun k => !(listed.getD k false)
def chainB (md : Region.Mode) (ops : Array Oper) (e i : Nat) (listed : Array Bool) : Bool := chainBU md ops e i listed (behindOf md ops i 4)
theorem chainB_spec {i : Nat} {listed : Array Bool} (h : chainB md ops e i listed = true) :
    e ∈ behindOf md ops i 4 ∧ i ∉ behindOf md ops i 4 ∧ (∀ k ∈ behindOf md ops i 4, Region.waitsFor md ops k i = true ∨ ∃ k' ∈ behindOf md ops i 4, Region.waitsFor md ops k k' = true) ∧ ∀ k ∈ behindOf md ops i 4, listed.getD k false = false := by
  unfold chainB chainBU at h
  generalize behindOf md ops i 4 = U at *
  simp only [Bool.and_eq_true, Bool.not_eq_true', List.all_eq_true, Bool.or_eq_true, List.any_eq_true] at h
  obtain ⟨⟨⟨h1, h2⟩, h3⟩, h4⟩ := h
  refine ⟨by simpa using h1, by simpa using h2, h3, h4⟩
def headsBU (md : Region.Mode) (ops : Array Oper) (e : Nat) : List (Nat × Bool) → Array Bool → Bool
  | [], _ => true
  | (i, b) :: is, listed => (Region.ready md ops listed).contains i && Region.free md ops listed i && (!b || chainB md ops e i listed) && decide (i ≠ e) && !(listed.getD e false) && headsBU md ops e is (listed.setIfInBounds i true)
theorem wpAnyT_headsU {fuel : Nat} {w : World} (hsel : Region.noSelect ops = true) (hQ : ∀ d v c a w, Q (.panic c) (Act.put a d v) w → Q (.panic c) a w) (hS : S w) :
    ∀ (is : List (Nat × Bool)) (listed : Array Bool) (a : Act), headsBU md ops e is listed = true →
      heldL P ops S (fun a' => wpAnyT P md ops Q S e fuel (listAll is listed) a' w) is a → wpAnyT P md ops Q S e (fuel + is.length) listed a w
  | [], _, _, _, h => h
  | (i, b) :: is, listed, a, hB, ⟨o, v, ho, ⟨hw, hy⟩, h⟩ => by
    simp only [headsBU, Bool.and_eq_true, decide_eq_true_eq, Bool.not_eq_true', Bool.or_eq_true] at hB
    obtain ⟨⟨⟨⟨⟨hr, hf⟩, hwt⟩, hie⟩, hne⟩, hB'⟩ := hB
    rw [List.length_cons, ← Nat.add_assoc]
    have hrest := wpAnyT_headsU hsel hQ hS is _ _ hB' h
    cases b with
    | true =>
      have hU := chainB_spec (hwt.resolve_left (by simp))
      exact wpAnyT_firstU ho (Region.noSelect_spec hsel) (hQ _ _) hU.1 hU.2.1 hU.2.2.1 _ listed a w (Region.free_spec ho hf) (by simpa using hr) (.inl ⟨hw, fun w hS => hy w (fun _ => hS)⟩) hS hU.2.2.2 hrest
    | false => exact wpAnyT_firstY ho (Region.noSelect_spec hsel) (hQ _ _) hie _ listed a w (Region.free_spec ho hf) (by simpa using hr) (.inl ⟨hw, fun w => hy w (by simp)⟩) (.inr hS) hrest
def heldTailBU (md : Region.Mode) (ops : Array Oper) (is : List (Nat × Bool)) (ts : List Nat) (e : Nat) : Bool :=
  Region.noSelect ops && headsBU md ops e is (Array.replicate ops.size false) && tailB md ops e ts (listAll is (Array.replicate ops.size false)) && decide (ts.length + is.length = ops.size)
theorem wp_region_heldTailU (S : World → Prop) (is : List (Nat × Bool)) (ts : List Nat) (e : Nat) {id : Nat} {a : Act} {w : World} (hm : P.follows .mixedOrders = true) (hB : heldTailBU .any ops is ts e = true)
    (hQ : ∀ d v c a w, Q (.panic c) (Act.put a d v) w → Q (.panic c) a w) (hS : S w.drew)
    (h : heldL P ops S (fun a' => tailT P ops Q S e ts a' w.drew) is a) : (Code.region id ops true).wp P Q a w := by
  simp only [heldTailBU, Bool.and_eq_true, decide_eq_true_eq] at hB
  obtain ⟨⟨⟨h1, h2⟩, h3⟩, h4⟩ := hB
  refine wp_region_any hm (wpAny_of_T (S := S) (e := e) _ _ _ _ ?_)
  have := wpAnyT_headsU (P := P) (Q := Q) (fuel := ts.length) (w := w.drew) (md := .any) (e := e) h1 hQ hS is (Array.replicate ops.size false) a h2
  rw [h4] at this
  refine this ?_
  clear this
  generalize listAll is (Array.replicate ops.size false) = li at h3 ⊢
  have key : ∀ (is : List (Nat × Bool)) (a : Act), heldL P ops S (fun a' => tailT P ops Q S e ts a' w.drew) is a → heldL P ops S (fun a' => wpAnyT P .any ops Q S e ts.length li a' w.drew) is a := by
    intro is
    induction is with
    | nil => intro a h; exact wpAnyT_tail ts li a w.drew h3 h
    | cons i is ih => intro a ⟨o, v, ho, hy, h⟩; exact ⟨o, v, ho, hy, ih _ h⟩
  exact key is a h
theorem wp_region_chain {l : List Oper} (S : World → Prop) (is : List (Nat × Bool)) (ts : List Nat) (e : Nat) {id : Nat} {a : Act} {w : World} (hm : P.follows .mixedOrders = true)
    (hB : (heldTailBU .any l.toArray is ts e && (is.all fun p => decide (p.1 < l.toArray.size)) && (ts.all fun t => decide (t < l.toArray.size)) && decide (ts.getLast? = some e)) = true)
    (hQ : ∀ d v c a w, Q (.panic c) (Act.put a d v) w → Q (.panic c) a w) (hS : S w.drew)
    (h : heldO P l.toArray S (fun a' => tailO P l.toArray Q S (ts.map fun t => l.getD t default) a' w.drew) (pickO l is) a) : (Code.region id l.toArray true).wp P Q a w := by
  simp only [Bool.and_eq_true, decide_eq_true_eq] at hB
  obtain ⟨⟨⟨h1, h2⟩, h3⟩, h4⟩ := hB
  refine wp_region_heldTailU S is ts e hm h1 hQ hS (heldL_of_O is a h2 ?_)
  have key : ∀ (os : List (Oper × Bool)) (a : Act), heldO P l.toArray S (fun a' => tailO P l.toArray Q S (ts.map fun t => l.getD t default) a' w.drew) os a → heldO P l.toArray S (fun a' => tailT P l.toArray Q S e ts a' w.drew) os a := by
    intro os
    induction os with
    | nil => intro a h; exact tailT_of_O ts a w.drew h3 (fun t ht => by rw [h4] at ht; exact (Option.some.inj ht).symm) h
    | cons o os ih => intro a ⟨v, hy, h⟩; exact ⟨v, hy, ih _ h⟩
  exact key _ a h
end
end Go.Proofs.YtpnliencahnmoaaGreatDoor

set_option linter.unusedVariables false
set_option linter.unusedSimpArgs false
set_option maxRecDepth 100000
namespace Go.Proofs.YtpnliencahnmoaaGreatDoor
open Go.RowKit
theorem info_vr : (Tryz.prog.info? 219).map (fun i => (i.zero, i.size, i.bytes)) = some (some (.agg #[.string .empty, .int .i64 0, .int .i64 0]), 3, 32) := by kernel_rfl
theorem blkc5 {w : World} {p : Nat} {a b c d e : Value} (h : Blk w p [a, b, c, d, e]) : w.cell? ⟨p, 0, none⟩ = some a ∧ w.cell? ⟨p, 1, none⟩ = some b ∧ w.cell? ⟨p, 2, none⟩ = some c ∧ w.cell? ⟨p, 3, none⟩ = some d ∧ w.cell? ⟨p, 4, none⟩ = some e := by
  refine ⟨?_, ?_, ?_, ?_, ?_⟩
  all_goals rw [h.cell]; rfl
/-- the walk over a function: the program's row, the function's index, the variables' row, how many, what is wrong -/
def Wk (w : World) (g : Nat) (fv : Value) (k : Int) (vv : Value) (cnt code : Int) : Prop := Blk w g [fv, .int .i64 k, vv, .int .i64 cnt, .int .i64 code]
abbrev Vr := List (ByteArray × Int × Int)
def vrC (vs : Vr) : List Value := vs.flatMap fun x => [.string x.1, .int .i64 x.2.1, .int .i64 x.2.2]
theorem vrC_len (vs : Vr) : (vrC vs).length = vs.length * 3 := by
  induction vs with
  | nil => rfl
  | cons x l ih => simp only [vrC, List.flatMap_cons, List.length_append, List.length_cons, List.length_nil] at ih ⊢; omega
theorem vrC_app (a b : Vr) : vrC (a ++ b) = vrC a ++ vrC b := by simp [vrC]
theorem vrC_get {vs : Vr} {i : Nat} {x : ByteArray × Int × Int} (h : vs[i]? = some x) : (vrC vs)[i * 3]? = some (.string x.1) ∧ (vrC vs)[i * 3 + 1]? = some (.int .i64 x.2.1) ∧ (vrC vs)[i * 3 + 2]? = some (.int .i64 x.2.2) := by
  have hl := idx_lt h
  have e : vs = vs.take i ++ (x :: vs.drop (i + 1)) := by
    rw [List.getElem?_eq_getElem hl] at h
    injection h with h
    rw [← h, List.getElem_cons_drop, List.take_append_drop]
  have hk : (vs.take i).length = i := by rw [List.length_take]; omega
  have h3 := vrC_len (vs.take i)
  rw [hk] at h3
  rw [e, vrC_app]
  have hx : vrC (x :: vs.drop (i + 1)) = .string x.1 :: .int .i64 x.2.1 :: .int .i64 x.2.2 :: vrC (vs.drop (i + 1)) := by simp [vrC]
  rw [hx]
  refine ⟨?_, ?_, ?_⟩
  all_goals
    rw [List.getElem?_append_right (by omega), h3]
    first
    | (rw [Nat.sub_self]; rfl)
    | (rw [show i * 3 + 1 - i * 3 = 1 by omega]; rfl)
    | (rw [show i * 3 + 2 - i * 3 = 2 by omega]; rfl)
/-- the variables -/
def VsAt (w : World) (B : Nat) (vv : Value) (vs : Vr) : Prop := w.ownsRow B 219 3 vv vs.length (vrC vs)
theorem VsAt.get {w : World} {B : Nat} {vv : Value} {vs : Vr} (h : VsAt w B vv vs) {i : Nat} {x : ByteArray × Int × Int} (hi : vs[i]? = some x) :
    ∃ b cap, vv = .slice (some ⟨b, 0, none⟩) vs.length cap ∧ w.cell? ⟨b, i * 3, none⟩ = some (.string x.1) ∧ w.cell? ⟨b, i * 3 + 1, none⟩ = some (.int .i64 x.2.1) ∧ w.cell? ⟨b, i * 3 + 2, none⟩ = some (.int .i64 x.2.2) := by
  have hl := idx_lt hi
  obtain ⟨b, cap, rfl⟩ := own_form h (by omega)
  obtain ⟨c0, c1, c2⟩ := vrC_get hi
  refine ⟨b, cap, rfl, ?_, ?_, ?_⟩
  · rw [h.cellAt (i * 3) (by omega)]; exact c0
  · rw [h.cellAt (i * 3 + 1) (by omega)]; exact c1
  · rw [h.cellAt (i * 3 + 2) (by omega)]; exact c2
theorem VsAt.form {w : World} {B : Nat} {vv : Value} {vs : Vr} (h : VsAt w B vv vs) : ∃ a cap, vv = .slice a vs.length cap := by
  rcases h.2 with ⟨h1, h2⟩ | ⟨g, cp, cur, h1, _⟩
  · exact ⟨none, 0, by rw [h1, ← h2]⟩
  · exact ⟨_, cp, h1⟩
/-- less of the variables -/
theorem ownsRow_take {w : World} {B : Nat} {e : TypeId} {size : Nat} {a : Option Addr} {n cap : Nat} {xs : List Value} (h : w.ownsRow B e size (.slice a n cap) n xs) {m : Nat} (hm : m ≤ n) : w.ownsRow B e size (.slice a m cap) m (xs.take (m * size)) := by
  obtain ⟨h1, h2⟩ := h
  have hms : m * size ≤ n * size := Nat.mul_le_mul_right _ hm
  refine ⟨by rw [List.length_take, h1]; omega, ?_⟩
  rcases h2 with ⟨h2, h0⟩ | ⟨g, cap', cur, h2, hb, hg, hn, hc, hs, ht⟩
  · injection h2 with ha hb hc
    subst ha hb hc
    left
    exact ⟨by rw [show m = 0 by omega], by omega⟩
  · injection h2 with ha hb' hc'
    subst ha hc'
    exact .inr ⟨g, cap, cur, rfl, hb, hg, by omega, hc, hs, by rw [← ht, List.take_take, Nat.min_eq_left hms]⟩
theorem VsAt.take {w : World} {B : Nat} {a : Option Addr} {n cap : Nat} {vs : Vr} (h : VsAt w B (.slice a n cap) vs) (hn : n = vs.length) {m : Nat} (hm : m ≤ n) : VsAt w B (.slice a m cap) (vs.take m) := by
  subst hn
  have := ownsRow_take h hm
  unfold VsAt
  have e : vrC (vs.take m) = (vrC vs).take (m * 3) := by
    have h3 := vrC_len (vs.take m)
    rw [List.length_take, Nat.min_eq_left hm] at h3
    conv => rhs; rw [← List.take_append_drop m vs, vrC_app]
    rw [← h3, List.take_left]
  rw [e, List.length_take, Nat.min_eq_left hm]
  exact this
/-- the last variable of a name -/
def VFind (vs : Vr) (s : ByteArray) (r : Int) : Prop := (r = -1 ∧ ∀ x ∈ vs, x.1 ≠ s) ∨ ∃ (i : Nat) (x : ByteArray × Int × Int), r = i ∧ vs[i]? = some x ∧ x.1 = s ∧ ∀ j y, i < j → vs[j]? = some y → y.1 ≠ s
def FindP (vs : Vr) (s : ByteArray) (w : World) (e : Ending) (w' : World) : Prop := ∃ r : Int, e = .returned (.int .i64 r) ∧ VFind vs s r ∧ w = w'
set_option maxHeartbeats 1000000 in
theorem l4find_any (w : World) (g : Nat) (fv : Value) (k : Int) (vv : Value) (cnt code : Int) (B : Nat) (vs : Vr) (s : ByteArray) (hW : Wk w g fv k vv cnt code) (hV : VsAt w B vv vs) (hl : vs.length ≤ 1073741824) :
    Calls Tryz.prog 187 #[.pointer (some ⟨g, 0, none⟩), .string s] w (FindP vs s w) := by
  obtain ⟨c0, c1, c2, c3, c4⟩ := blkc5 hW
  obtain ⟨a, cap, hform⟩ := hV.form
  subst hform
  obtain ⟨n, hn⟩ : ∃ n, n = vs.length := ⟨_, rfl⟩
  have HV := Lib.hid hV
  rw [← hn] at hl c2
  have HN := Lib.hid hn
  clear hW hV hn c0 c1 c3 c4
  go_enter Tryz.func187, Tryz.ntmps187
  go_wp2_with (fail)
  go_loop [5] (fun i => ∃ j : Nat, j ≤ n ∧ i = .int .i64 ((j : Int) - 1) ∧ Hid (∀ q y, j ≤ q → vs[q]? = some y → y.1 ≠ s)) (fun i => (intOf i + 1).toNat)
  case atStart => exact ⟨n, Nat.le_refl _, rfl, Lib.hid (fun q y hq hy => by have := idx_lt hy; rw [← HN.out] at this; omega)⟩
  case round =>
    obtain ⟨j, hj, rfl, hA⟩ := hrel
    rcases Nat.eq_zero_or_pos j with rfl | hj0
    · have hA2 := hA.out
      have HA := Lib.hid (show VFind vs s (-1) from .inl ⟨rfl, fun x hx => by
        obtain ⟨q, hq⟩ := List.getElem?_of_mem hx
        exact hA2 q x (Nat.zero_le _) hq⟩)
      clear hA hA2
      have e0 : (((0 : Nat) : Int) - 1) = -1 := rfl
      rw [e0]
      clear e0
      go_wp2_with (fail)
      go_ret
      exact ⟨_, rfl, HA.out, rfl⟩
    · obtain ⟨i, rfl⟩ : ∃ i, j = i + 1 := ⟨j - 1, by omega⟩
      have hil : i < vs.length := by rw [← HN.out]; omega
      obtain ⟨x, hx⟩ : ∃ x, vs[i]? = some x := ⟨_, List.getElem?_eq_getElem hil⟩
      obtain ⟨b, cp, hvv, d0, _, _⟩ := HV.out.get hx
      injection hvv with hvv _ hcp
      subst hvv hcp
      have HX := Lib.hid hx
      have i0 : (0 : Int) ≤ i := by omega
      have i1 : (i : Int) < n := by omega
      rw [show (((i + 1 : Nat) : Int) - 1) = (i : Int) by omega]
      clear hx
      by_cases hxs : x.1 = s
      · have hr : VFind vs s (i : Int) := .inr ⟨i, x, rfl, HX.out, hxs, fun q y hq hy => hA.out q y (by omega) hy⟩
        have HR := Lib.hid hr
        rw [hxs] at d0
        clear hr hxs
        go_wp2_with (fail)
        go_ret
        exact ⟨_, rfl, HR.out, rfl⟩
      · have hd := strNe hxs
        have HXS := Lib.hid hxs
        clear hxs
        go_wp2_with (fail)
        go_round
        case rel => exact ⟨i, by omega, rfl, Lib.hid (fun q y hq hy => by
          rcases Nat.eq_or_lt_of_le hq with e | e
          · subst e; have := HX.out; rw [hy] at this; injection this with this; rw [this]; exact HXS.out
          · exact hA.out q y (by omega) hy)⟩
        case measure => simp [intOf]
def FailP (g : Nat) (fv : Value) (k : Int) (vv : Value) (cnt : Int) (w : World) (e : Ending) (w' : World) : Prop := e = .returned (.tuple #[]) ∧ (∃ code', code' ≠ 0 ∧ Wk w' g fv k vv cnt code') ∧ Only [g] w w'
set_option maxHeartbeats 1000000 in
theorem l4fail_any (w : World) (g : Nat) (fv : Value) (k : Int) (vv : Value) (cnt code c : Int) (hW : Wk w g fv k vv cnt code) (hc : c ≠ 0) :
    Calls Tryz.prog 150 #[.pointer (some ⟨g, 0, none⟩), .int .i64 c] w (FailP g fv k vv cnt w) := by
  obtain ⟨c0, c1, c2, c3, c4⟩ := blkc5 hW
  have f4 := hW.frozen 4
  by_cases h0 : code = 0
  · subst h0
    have HR : Hid (Wk (w.setCell ⟨g, 4, none⟩ (.int .i64 c)) g fv k vv cnt c) := Lib.hid (by have := hW.set 4 (.int .i64 c); exact this)
    have HC := Lib.hid hc
    clear hW hc c0 c1 c2 c3
    go_enter Tryz.func150, Tryz.ntmps150
    go_wp2_with (fail)
    go_end0
    exact ⟨rfl, ⟨c, HC.out, HR.out⟩, (Only.refl _ _).setCell (by simp) _⟩
  · have h1 := neI h0
    have HW := Lib.hid hW
    have H0 := Lib.hid h0
    clear hW hc h0 c0 c1 c2 c3
    go_enter Tryz.func150, Tryz.ntmps150
    go_wp2_with (fail)
    go_end0
    exact ⟨rfl, ⟨code, H0.out, HW.out⟩, Only.refl _ _⟩
def StrP (w : World) (e : Ending) (w' : World) : Prop := ∃ s : ByteArray, e = .returned (.string s) ∧ w = w'
set_option maxHeartbeats 1000000 in
theorem l4Name_any (w : World) (n : Int) (h0 : 0 ≤ n) (h1 : n ≤ 4611686018427387904) : Calls Tryz.prog 188 #[.int .i64 n] w (StrP w) := by
  have hm : 0 ≤ n % 26 ∧ n % 26 ≤ 25 := by omega
  obtain ⟨a, b⟩ := hm
  go_enter Tryz.func188, Tryz.ntmps188
  go_wp2_with (fail)
  go_ret
  exact ⟨_, rfl, rfl⟩
theorem Fr.of_only {fx : List Nat} {sv : Value} {w w' : World} (h : Only fx w w') : Fr fx sv w sv w' := ⟨h.mono (fun x hx => List.mem_append_left _ hx), .inl rfl⟩
theorem Fr.app2 {fx : List Nat} {sv : Value} {w w' : World} {g n c : Nat} (hg : w.grownBy w' sv.ownBlock) (ha : sv.ownBlock = some g ∨ g = w.heap.size) : Fr fx sv w (.slice (some ⟨g, 0, none⟩) n c) w' := by
  refine ⟨⟨hg.os, hg.tape, hg.output, hg.size, fun k hk hn => hg.block k hk (fun e => hn (List.mem_append_right _ (by rw [← e]; simp)))⟩, ?_⟩
  rcases ha with h | h
  · exact .inl (by rw [h]; rfl)
  · exact .inr (fun q hq => by simp [Value.ownBlock] at hq; omega)
def NumsOk (vs : Vr) (cnt : Int) : Prop := 0 ≤ cnt ∧ cnt ≤ 1073741824 ∧ vs.length ≤ 1073741824 ∧ ∀ x ∈ vs, 0 ≤ x.2.1 ∧ x.2.1 ≤ 1073741824
def Known (vs : Vr) (s : ByteArray) : Prop := ∃ x ∈ vs, x.1 = s
theorem VFind.no {vs : Vr} {s : ByteArray} (h : VFind vs s (-1)) : ¬ Known vs s := by
  rcases h with ⟨_, h⟩ | ⟨i, x, h, _⟩
  · rintro ⟨x, hx, e⟩; exact h x hx e
  · omega
def UseP (g : Nat) (fv : Value) (k : Int) (vv : Value) (cnt code : Int) (ok : Prop) (w : World) (e : Ending) (w' : World) : Prop :=
  ∃ s : ByteArray, e = .returned (.string s) ∧ (∃ code', (code' = 0 ↔ code = 0 ∧ ok) ∧ Wk w' g fv k vv cnt code') ∧ Only [g] w w'
set_option maxHeartbeats 1000000 in
theorem l4use_any (w : World) (g : Nat) (fv : Value) (k : Int) (vv : Value) (cnt code : Int) (B : Nat) (vs : Vr) (s : ByteArray) (hW : Wk w g fv k vv cnt code) (hV : VsAt w B vv vs) (hN : NumsOk vs cnt) :
    Calls Tryz.prog 190 #[.pointer (some ⟨g, 0, none⟩), .string s] w (UseP g fv k vv cnt code (Known vs s) w) := by
  have HF := Lib.hid (l4find_any w g fv k vv cnt code B vs s hW hV hN.2.2.1)
  have HL := Lib.hid (l4fail_any w g fv k vv cnt code 3 hW (by decide))
  have HW := Lib.hid hW; have HV := Lib.hid hV; have HN := Lib.hid hN
  clear hW hV hN
  go_enter Tryz.func190, Tryz.ntmps190
  go_wp2_with (fail)
  go_at_call 187
  refine HF.out.mono ?_
  rintro e _ ⟨r, rfl, hr, rfl⟩
  rcases hr with ⟨rfl, hno⟩ | ⟨i, x, rfl, hi, hxs, hlast⟩
  · have HNO := Lib.hid (VFind.no (.inl ⟨rfl, hno⟩))
    clear hno
    go_wp2_with (fail)
    go_at_call 150
    refine HL.out.mono ?_
    rintro e w2 ⟨rfl, ⟨code', hc, hW2⟩, hO⟩
    have HW2 := Lib.hid hW2; have HO := Lib.hid hO; have HC := Lib.hid hc
    clear hc hW2 hO
    go_wp2_with (fail)
    go_ret
    exact ⟨_, rfl, ⟨code', ⟨fun h => absurd h HC.out, fun h => absurd h.2 HNO.out⟩, HW2.out⟩, HO.out⟩
  · have hk : Known vs s := ⟨x, List.mem_of_getElem? hi, hxs⟩
    have HK := Lib.hid hk
    obtain ⟨c0, c1, c2, c3, c4⟩ := blkc5 HW.out
    obtain ⟨b, cap, rfl, d0, d1, d2⟩ := HV.out.get hi
    have hx := HN.out.2.2.2 x (List.mem_of_getElem? hi)
    have HM := Lib.hid (fun w => l4Name_any w x.2.1 hx.1 (by omega))
    obtain ⟨n, hn⟩ : ∃ n, n = vs.length := ⟨_, rfl⟩
    have i1 : (i : Int) < n := by have := idx_lt hi; omega
    have i0 : (0 : Int) ≤ i := by omega
    rw [← hn] at c2
    clear hi hxs hlast hk hx c0 c1 c3 c4 d0 d2 hn
    go_wp2_with (fail)
    go_at_call 188
    refine (HM.out _).mono ?_
    rintro e _ ⟨s', rfl, rfl⟩
    go_wp2_with (fail)
    go_ret
    exact ⟨_, rfl, ⟨code, ⟨fun h => ⟨h, HK.out⟩, fun h => h.1⟩, HW.out⟩, Only.refl _ _⟩
/-- the last variable of the name is of the block -/
def Dup (vs : Vr) (s : ByteArray) (b : Int) : Prop := ∃ (i : Nat) (x : ByteArray × Int × Int), vs[i]? = some x ∧ x.1 = s ∧ x.2.2 = b ∧ ∀ j y, i < j → vs[j]? = some y → y.1 ≠ s
theorem VFind.dup {vs : Vr} {s : ByteArray} {i : Nat} {x : ByteArray × Int × Int} {b : Int} (hi : vs[i]? = some x) (hx : x.1 = s) (hl : ∀ j y, i < j → vs[j]? = some y → y.1 ≠ s) : Dup vs s b ↔ x.2.2 = b := by
  constructor
  · rintro ⟨j, y, hj, hy, hb, hm⟩
    rcases Nat.lt_trichotomy i j with h | h | h
    · exact absurd hy (hl j y h hj)
    · subst h; rw [hi] at hj; injection hj with hj; rw [hj]; exact hb
    · exact absurd hx (hm i x h hi)
  · intro h; exact ⟨i, x, hi, hx, h, hl⟩
def PutP (g : Nat) (fv : Value) (k : Int) (vv : Value) (cnt code : Int) (vs : Vr) (s : ByteArray) (b : Int) (w : World) (e : Ending) (w' : World) : Prop :=
  ∃ (r : ByteArray) (vv' : Value) (code' : Int), e = .returned (.string r) ∧ (code' = 0 ↔ code = 0 ∧ ¬ Dup vs s b) ∧ Wk w' g fv k vv' (cnt + 1) code' ∧ VsAt w' (g + 1) vv' (vs ++ [(s, cnt, b)]) ∧ Fr [g] vv w vv' w'
set_option maxHeartbeats 4000000 in
theorem l4put_any (w : World) (g : Nat) (fv : Value) (k : Int) (vv : Value) (cnt code : Int) (vs : Vr) (s : ByteArray) (blk : Int) (hW : Wk w g fv k vv cnt code) (hV : VsAt w (g + 1) vv vs) (hN : NumsOk vs cnt) :
    Calls Tryz.prog 151 #[.pointer (some ⟨g, 0, none⟩), .string s, .int .i64 blk] w (PutP g fv k vv cnt code vs s blk w) := by
  have HF := Lib.hid (l4find_any w g fv k vv cnt code _ vs s hW hV hN.2.2.1)
  have HL := Lib.hid (l4fail_any w g fv k vv cnt code 2 hW (by decide))
  have HW := Lib.hid hW; have HV := Lib.hid hV; have HN := Lib.hid hN
  obtain ⟨a, cap, hform⟩ := hV.form
  obtain ⟨n, hn⟩ : ∃ n, n = vs.length := ⟨_, rfl⟩
  rw [← hn] at hform
  obtain ⟨hn0, hn1, hn2, _⟩ := hN
  rw [← hn] at hn2
  have Hn := Lib.hid hn
  have HVV := Lib.hid hform
  have hgl := hW.lt
  clear hW hV hn hform
  go_enter Tryz.func151, Tryz.ntmps151
  go_wp2_with (fail)
  go_at_call 187
  refine HF.out.mono ?_
  rintro e _ ⟨r, rfl, hr, rfl⟩
  have HR := Lib.hid hr
  clear hr HF
  go_upto_region 2 with (fail)
  go_cut [24] from 11 to 24 (fun c wx => ∃ d : Bool, c = .bool d ∧ Hid (d = true ↔ Dup vs s blk) ∧ wx = w)
  case first =>
    rcases HR.out with ⟨rfl, hno⟩ | ⟨i, x, rfl, hi, hxs, hlast⟩
    · have HNO : Hid (¬ Dup vs s blk) := Lib.hid (by rintro ⟨i, x, hi, hx, _⟩; exact hno x (List.mem_of_getElem? hi) hx)
      clear hno
      go_wp2_with (fail)
      go_meet
      case rel => exact ⟨_, rfl, Lib.hid ⟨fun h => (by cases h), fun h => absurd h HNO.out⟩, rfl⟩
    · have HD := Lib.hid (VFind.dup (b := blk) hi hxs hlast)
      obtain ⟨c0, c1, c2, c3, c4⟩ := blkc5 HW.out
      obtain ⟨b, cap', hvv, d0, d1, d2⟩ := HV.out.get hi
      rw [HVV.out] at c2
      have h1 := HVV.out
      rw [hvv] at h1
      injection h1 with h1 _ _
      subst h1
      have i1 : (i : Int) < n := by have := idx_lt hi; have := Hn.out; omega
      have i0 : (0 : Int) ≤ i := by omega
      obtain ⟨z, hz⟩ : ∃ z, z = x.2.2 := ⟨_, rfl⟩
      rw [← hz] at d2 HD
      clear hi hxs hlast c0 c1 c3 c4 d0 d1 hvv hz
      by_cases he : z = blk
      · have HE := Lib.hid he
        have he := eqI he
        go_wp2_with (fail)
        go_meet
        case rel => exact ⟨_, rfl, Lib.hid ⟨fun _ => HD.out.2 HE.out, fun _ => rfl⟩, rfl⟩
      · have HE := Lib.hid he
        have he := neI he
        go_wp2_with (fail)
        go_meet
        case rel => exact ⟨_, rfl, Lib.hid ⟨fun h => (by cases h), fun h => absurd (HD.out.1 h) HE.out⟩, rfl⟩
  case rest =>
  obtain ⟨d, rfl, hd, rfl⟩ := hcut
  obtain ⟨i0, hi, hz0, hz1, hz2⟩ := info_parts info_vr
  have hnl : vs.length ≤ 1073741824 := by rw [← Hn.out]; exact hn2
  have HNE : Hid (vv.ownBlock ≠ some g) := Lib.hid (fun e => by have := ownBlock_of HV.out g e; omega)
  cases d
  · have h0 : ∃ code1, (code1 = 0 ↔ code = 0 ∧ ¬ Dup vs s blk) ∧ Wk wc g fv k vv cnt code1 := ⟨code, ⟨fun h => ⟨h, fun h2 => by have := hd.out.2 h2; cases this⟩, fun h => h.1⟩, HW.out⟩
    have HX1 := Lib.hid h0; have HO1 := Lib.hid (Only.refl [g] wc)
    clear h0
    go_upto_region 4 with (fail)
    obtain ⟨w2, rfl⟩ : ∃ w2 : World, w2 = wc := ⟨_, rfl⟩
    obtain ⟨code1, hc1, hW1⟩ := HX1.out
    have HC1 := Lib.hid hc1
    have HW1 := Lib.hid hW1
    obtain ⟨_, _, c2, c3, _⟩ := blkc5 hW1
    have HV2 : Hid (w2.ownsRow (g + 1) 219 3 vv vs.length (vrC vs)) := Lib.hid (ownsRow_only HV.out HO1.out (fun b hb => by have := List.mem_singleton.1 hb; omega))
    have hgl2 := hW1.lt
    clear hc1 hW1 HX1
    refine wp_region_chain (fun W => W.cell? ⟨g, 2, none⟩ = some vv ∧ W.cell? ⟨g, 3, none⟩ = some (.int .i64 cnt)) [(0, false), (1, false), (2, false), (3, false), (4, true), (5, false), (6, false), (7, false), (8, false), (9, true), (10, false), (11, false)] [12, 13, 14, 15, 16] 16 (by kernel_rfl) (by kernel_rfl) (fun d v c a w h => by cases d <;> exact h) ⟨c2, c3⟩ ?_
    simp only [pickO, List.map_cons, List.map_nil, List.getD_cons_zero, List.getD_cons_succ]
    iterate 12
      first
      | (refine heldO_stepY (v := ?_) rfl ?_ ?_
         rotate_left
         · intro W
           go_simp
           try rfl
         simp only [Act.put, List.setIfInBounds_toArray, List.set_cons_zero, List.set_cons_succ])
      | (refine heldO_step (v := ?_) rfl ?_ ?_
         rotate_left
         · intro W hS
           obtain ⟨k0, k1⟩ := hS
           go_simp
           try rfl
         simp only [Act.put, List.setIfInBounds_toArray, List.set_cons_zero, List.set_cons_succ])
    refine heldO_nil ?_
    refine tailO_step rfl (fun K hK => ?_)
    go_simp
    refine hK _ _ (.inr ⟨cellB (below1 _ _) c2, cellB (below1 _ _) c3⟩) ?_
    clear hK K
    refine tailO_step rfl (fun K hK => ?_)
    refine wp_append_lies _ (.tmp 31) (.tmp 39) 182 rfl (g + 1) 219 i0 _ 3 32 Tryz.underlying182 hi hz0 hz1 hz2 rfl (by decide) vv vs.length (vrC vs) (by rfl) (HV2.out.alloc _) ⟨w2.heap.size, 0, none⟩ 1 1 [.string s, .int .i64 cnt, .int .i64 blk] (by rfl) rfl (World.news_of_block (heap_alloc_new _ _)) (by simp [Value.oneCell']) (by decide) (by unfold maxLen; omega) (by omega) (by simp; omega) _ rfl ?_
    intro g9 c9 w9 ho9 hg9 hat9 hl9
    have hW9 : Wk w9 g fv k vv cnt code1 := (HW1.out.alloc _).drew.grown hg9 HNE.out
    refine hK _ _ (.inr ⟨(blkc5 hW9).2.2.1, (blkc5 hW9).2.2.2.1⟩) ?_
    clear hK K
    have HW9 := Lib.hid hW9; have f9 := hW9.frozen 2; have HO9 := Lib.hid ho9; have HG9 := Lib.hid hg9; have HA9 := Lib.hid hat9
    clear hW9 ho9 hg9 hat9
    iterate 2
      refine tailO_step rfl (fun K hK => ?_)
      go_simp
      refine hK _ _ (.inr ⟨(blkc5 HW9.out).2.2.1, (blkc5 HW9.out).2.2.2.1⟩) ?_
      clear hK K
    have q2 := (blkc5 HW9.out).2.2.1
    refine tailO_step rfl (fun K hK => ?_)
    go_simp
    refine hK _ _ (.inl rfl) (tailO_nil ?_)
    clear q2
    clear hK K
    generalize hw10 : w9.setCell _ _ = w10
    have HW10 : Hid (Wk w10 g fv k (.slice (some ⟨g9, 0, none⟩) (vs.length + 1) c9) cnt code1) := Lib.hid (by rw [← hw10]; exact HW9.out.set 2 _)
    have HV10 : Hid (VsAt w10 (g + 1) (.slice (some ⟨g9, 0, none⟩) (vs.length + 1) c9) (vs ++ [(s, cnt, blk)])) := Lib.hid (by
      unfold VsAt
      rw [← hw10, vrC_app, List.length_append]
      exact ownsRow_only HO9.out ((Only.refl [g] w9).setCell (p := ⟨g, 2, none⟩) (by simp) _) (fun b hb => by have := List.mem_singleton.1 hb; omega))
    have HF10 : Hid (Fr [g] vv _ (.slice (some ⟨g9, 0, none⟩) (vs.length + 1) c9) w10) := Lib.hid (by
      rw [← hw10]
      refine (((Fr.of_only HO1.out).trans (Fr.below ((below1 w2 _).drew))).trans (Fr.app2 HG9.out HA9.out)).trans ((Fr.refl _ _ _).setIn (a := ⟨g, 2, none⟩) (by simp) _))
    have d3 := (blkc5 HW10.out).2.2.2.1
    have f3 := HW10.out.frozen 3
    clear hw10 HW9 HO9 HG9 HA9 HW1 HV2 HO1 c2 c3 f9
    go_wp2_with (fail)
    have HM := Lib.hid (fun w => l4Name_any w cnt hn0 (by omega))
    go_at_call 188
    refine (HM.out _).mono ?_
    rintro e _ ⟨r', rfl, rfl⟩
    go_wp2_with (fail)
    go_ret
    exact ⟨_, _, code1, rfl, HC1.out, HW10.out.set 3 _, ownsRow_only HV10.out ((Only.refl [g] w10).setCell (p := ⟨g, 3, none⟩) (by simp) _) (fun b hb => by have := List.mem_singleton.1 hb; omega), HF10.out.setIn (a := ⟨g, 3, none⟩) (by simp) _⟩
  · go_wp2_with (fail)
    go_at_call 150
    refine HL.out.mono ?_
    rintro e w2 ⟨rfl, ⟨code', hc, hW2⟩, hO⟩
    have HX1 : Hid (∃ code1, (code1 = 0 ↔ code = 0 ∧ ¬ Dup vs s blk) ∧ Wk w2 g fv k vv cnt code1) := Lib.hid ⟨code', ⟨fun h => absurd h hc, fun h => absurd (hd.out.1 (by first | rfl | trivial)) h.2⟩, hW2⟩
    have HO1 := Lib.hid hO
    clear hc hW2 hO
    go_upto_region 4 with (fail)
    obtain ⟨code1, hc1, hW1⟩ := HX1.out
    have HC1 := Lib.hid hc1
    have HW1 := Lib.hid hW1
    obtain ⟨_, _, c2, c3, _⟩ := blkc5 hW1
    have HV2 : Hid (w2.ownsRow (g + 1) 219 3 vv vs.length (vrC vs)) := Lib.hid (ownsRow_only HV.out HO1.out (fun b hb => by have := List.mem_singleton.1 hb; omega))
    have hgl2 := hW1.lt
    clear hc1 hW1 HX1
    refine wp_region_chain (fun W => W.cell? ⟨g, 2, none⟩ = some vv ∧ W.cell? ⟨g, 3, none⟩ = some (.int .i64 cnt)) [(0, false), (1, false), (2, false), (3, false), (4, true), (5, false), (6, false), (7, false), (8, false), (9, true), (10, false), (11, false)] [12, 13, 14, 15, 16] 16 (by kernel_rfl) (by kernel_rfl) (fun d v c a w h => by cases d <;> exact h) ⟨c2, c3⟩ ?_
    simp only [pickO, List.map_cons, List.map_nil, List.getD_cons_zero, List.getD_cons_succ]
    iterate 12
      first
      | (refine heldO_stepY (v := ?_) rfl ?_ ?_
         rotate_left
         · intro W
           go_simp
           try rfl
         simp only [Act.put, List.setIfInBounds_toArray, List.set_cons_zero, List.set_cons_succ])
      | (refine heldO_step (v := ?_) rfl ?_ ?_
         rotate_left
         · intro W hS
           obtain ⟨k0, k1⟩ := hS
           go_simp
           try rfl
         simp only [Act.put, List.setIfInBounds_toArray, List.set_cons_zero, List.set_cons_succ])
    refine heldO_nil ?_
    refine tailO_step rfl (fun K hK => ?_)
    go_simp
    refine hK _ _ (.inr ⟨cellB (below1 _ _) c2, cellB (below1 _ _) c3⟩) ?_
    clear hK K
    refine tailO_step rfl (fun K hK => ?_)
    refine wp_append_lies _ (.tmp 31) (.tmp 39) 182 rfl (g + 1) 219 i0 _ 3 32 Tryz.underlying182 hi hz0 hz1 hz2 rfl (by decide) vv vs.length (vrC vs) (by rfl) (HV2.out.alloc _) ⟨w2.heap.size, 0, none⟩ 1 1 [.string s, .int .i64 cnt, .int .i64 blk] (by rfl) rfl (World.news_of_block (heap_alloc_new _ _)) (by simp [Value.oneCell']) (by decide) (by unfold maxLen; omega) (by omega) (by simp; omega) _ rfl ?_
    intro g9 c9 w9 ho9 hg9 hat9 hl9
    have hW9 : Wk w9 g fv k vv cnt code1 := (HW1.out.alloc _).drew.grown hg9 HNE.out
    refine hK _ _ (.inr ⟨(blkc5 hW9).2.2.1, (blkc5 hW9).2.2.2.1⟩) ?_
    clear hK K
    have HW9 := Lib.hid hW9; have f9 := hW9.frozen 2; have HO9 := Lib.hid ho9; have HG9 := Lib.hid hg9; have HA9 := Lib.hid hat9
    clear hW9 ho9 hg9 hat9
    iterate 2
      refine tailO_step rfl (fun K hK => ?_)
      go_simp
      refine hK _ _ (.inr ⟨(blkc5 HW9.out).2.2.1, (blkc5 HW9.out).2.2.2.1⟩) ?_
      clear hK K
    have q2 := (blkc5 HW9.out).2.2.1
    refine tailO_step rfl (fun K hK => ?_)
    go_simp
    refine hK _ _ (.inl rfl) (tailO_nil ?_)
    clear q2
    clear hK K
    generalize hw10 : w9.setCell _ _ = w10
    have HW10 : Hid (Wk w10 g fv k (.slice (some ⟨g9, 0, none⟩) (vs.length + 1) c9) cnt code1) := Lib.hid (by rw [← hw10]; exact HW9.out.set 2 _)
    have HV10 : Hid (VsAt w10 (g + 1) (.slice (some ⟨g9, 0, none⟩) (vs.length + 1) c9) (vs ++ [(s, cnt, blk)])) := Lib.hid (by
      unfold VsAt
      rw [← hw10, vrC_app, List.length_append]
      exact ownsRow_only HO9.out ((Only.refl [g] w9).setCell (p := ⟨g, 2, none⟩) (by simp) _) (fun b hb => by have := List.mem_singleton.1 hb; omega))
    have HF10 : Hid (Fr [g] vv _ (.slice (some ⟨g9, 0, none⟩) (vs.length + 1) c9) w10) := Lib.hid (by
      rw [← hw10]
      refine (((Fr.of_only HO1.out).trans (Fr.below ((below1 w2 _).drew))).trans (Fr.app2 HG9.out HA9.out)).trans ((Fr.refl _ _ _).setIn (a := ⟨g, 2, none⟩) (by simp) _))
    have d3 := (blkc5 HW10.out).2.2.2.1
    have f3 := HW10.out.frozen 3
    clear hw10 HW9 HO9 HG9 HA9 HW1 HV2 HO1 c2 c3 f9
    go_wp2_with (fail)
    have HM := Lib.hid (fun w => l4Name_any w cnt hn0 (by omega))
    go_at_call 188
    refine (HM.out _).mono ?_
    rintro e _ ⟨r', rfl, rfl⟩
    go_wp2_with (fail)
    go_ret
    exact ⟨_, _, code1, rfl, HC1.out, HW10.out.set 3 _, ownsRow_only HV10.out ((Only.refl [g] w10).setCell (p := ⟨g, 3, none⟩) (by simp) _) (fun b hb => by have := List.mem_singleton.1 hb; omega), HF10.out.setIn (a := ⟨g, 3, none⟩) (by simp) _⟩
end Go.Proofs.YtpnliencahnmoaaGreatDoor
