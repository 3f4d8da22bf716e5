/- A region that draws its order: loads that nobody writes ahead of the last operation are taken first; the rest goes in one forced order. No program in sight. -/
import Derived.Test.YtbdbmmdnidonjaaDoorRd
import Derived.OrdersHeld
import Derived.StillTail
set_option maxRecDepth 100000
namespace Go.Proofs.YtbdbmmdnidonjaaDoor

section
variable {P : Program} {ops : Array Oper} {Q : Exit → Act → World → Prop} {md : Region.Mode} {S : World → Prop} {e : Nat}

/-- whatever order is picked, and S holds behind every operation as long as number e has not come up -/
def wpAnyT (P : Program) (md : Region.Mode) (ops : Array Oper) (Q : Exit → Act → World → Prop) (S : World → Prop) (e : Nat) : Nat → Array Bool → Act → World → Prop
  | 0, listed, a, w => Region.ready md ops listed = [] ∧ Q .normal a w
  | fuel + 1, listed, a, w =>
    (Region.ready md ops listed = [] → Q .normal a w) ∧
    ∀ i ∈ Region.ready md ops listed, wpOp P ops Q i (fun a' w' => ((listed.setIfInBounds i true).getD e false = true ∨ S w') ∧ wpAnyT P md ops Q S e fuel (listed.setIfInBounds i true) a' w') a w

theorem wpAny_of_T : ∀ (fuel : Nat) (listed : Array Bool) (a : Act) (w : World), wpAnyT P md ops Q S e fuel listed a w → wpAny P md ops Q fuel listed a w
  | 0, _, _, _, h => h
  | fuel + 1, _, _, _, h => ⟨h.1, fun i hi => wpOp_mono (fun a' w' h' => wpAny_of_T fuel _ a' w' h'.2) (h.2 i hi)⟩

/-- an operation that number e waits for, and that yields its value in every world that meets S -/
theorem wpAnyT_first {i : Nat} {oi : Oper} {v : Value} (hi : ops[i]? = some oi) (hsel : ∀ (j : Nat) (o : Oper) cs b, ops[j]? = some o → o.op ≠ .select cs b)
    (hQ : ∀ c a w, Q (.panic c) (a.put oi.dst v) w → Q (.panic c) a w) (hwait : Region.waitsFor md ops e i = true) (hie : i ≠ e) :
    ∀ (fuel : Nat) (listed : Array Bool) (a : Act) (w : World),
      (∀ j oj, ops[j]? = some oj → j ≠ i → listed.getD j true = false → (∀ e ∈ oj.after, Region.binds md e = true → e.on ≠ i) → oi.apart ops oj = true) →
      i ∈ Region.ready md ops listed → YieldsIf P ops S oi v a → S w → listed.getD e false = false →
      wpAnyT P md ops Q S e fuel (listed.setIfInBounds i true) (a.put oi.dst v) w → wpAnyT P md ops Q S e (fuel + 1) listed a w := by
  intro fuel
  induction fuel with
  | zero =>
    intro listed a w _ hr hy hS hne H
    refine ⟨fun h => (by rw [h] at hr; cases hr), fun j hj => ?_⟩
    by_cases hji : j = i
    · subst hji; exact hy.wpOp hi hS ⟨.inr hS, H⟩
    · have := ready_mono hj hji
      rw [H.1] at this
      cases this
  | succ fuel ih =>
    intro listed a w hfree hr hy hS hne H
    refine ⟨fun h => (by rw [h] at hr; cases hr), fun j hj => ?_⟩
    by_cases hji : j = i
    · subst hji; exact hy.wpOp hi hS ⟨.inr hS, H⟩
    · have h1 := H.2 j (ready_mono hj hji)
      obtain ⟨hjun, oj, hoj, hall⟩ := mem_ready.1 hj
      have hnot : ∀ e ∈ oj.after, Region.binds md e = true → e.on ≠ i := fun e he hb heq => by
        have h1 := hall e he hb
        have h0 := (mem_ready.1 hr).1
        rw [heq] at h1
        rcases Nat.lt_or_ge i listed.size with h' | h'
        · simp [h'] at h0 h1; rw [h0] at h1; cases h1
        · simp [Array.getElem?_eq_none h'] at h1
      have hje : j ≠ e := fun heq => by
        subst heq
        obtain ⟨o2, ho2, ed, hed, hb, hon⟩ := Region.waitsFor_spec hwait
        have : o2 = oj := Option.some.inj (ho2.symm.trans hoj)
        subst this
        exact hnot ed hed hb hon
      have h2 := wpOp_putIf hoj (hfree j oj hoj hji hjun hnot) (fun cs b => hsel i oi cs b hi) (fun cs b => hsel j oj cs b hoj) hQ hy h1
      have hfree' : ∀ k ok, ops[k]? = some ok → k ≠ i → (listed.setIfInBounds j true).getD k true = false →
          (∀ e ∈ ok.after, Region.binds md e = true → e.on ≠ i) → oi.apart ops ok = true := fun k ok hk hki hun hno => by
        refine hfree k ok hk hki ?_ hno
        by_cases hjk : j = k
        · subst hjk; exact hjun
        · rw [getD_set_ne true hjk] at hun; exact hun
      refine wpOp_mono (fun a' w' h3 => ?_) h2
      have hne' : (listed.setIfInBounds j true).getD e false = false := by rw [getD_set_ne false hje]; exact hne
      have hS' : S w' := h3.2.1.resolve_left (by rw [getD_set_ne false hje, getD_set_ne false hie, hne]; simp)
      refine ⟨.inr hS', ih (listed.setIfInBounds j true) a' w' hfree' (ready_mono hr (Ne.symm hji)) h3.1 hS' hne' ?_⟩
      rw [Array.setIfInBounds_comm _ _ hji]
      exact h3.2.2

/-- an operation that yields its value in whatever world -/
theorem wpAnyT_firstY {i : Nat} {oi : Oper} {v : Value} (hi : ops[i]? = some oi) (hsel : ∀ (j : Nat) (o : Oper) cs b, ops[j]? = some o → o.op ≠ .select cs b)
    (hQ : ∀ c a w, Q (.panic c) (a.put oi.dst v) w → Q (.panic c) a w) (hie : i ≠ e) :
    ∀ (fuel : Nat) (listed : Array Bool) (a : Act) (w : World),
      (∀ j oj, ops[j]? = some oj → j ≠ i → listed.getD j true = false → (∀ e ∈ oj.after, Region.binds md e = true → e.on ≠ i) → oi.apart ops oj = true) →
      i ∈ Region.ready md ops listed → Yields P ops oi v a → (listed.getD e false = true ∨ S w) →
      wpAnyT P md ops Q S e fuel (listed.setIfInBounds i true) (a.put oi.dst v) w → wpAnyT P md ops Q S e (fuel + 1) listed a w := by
  intro fuel
  induction fuel with
  | zero =>
    intro listed a w _ hr hy hS H
    refine ⟨fun h => (by rw [h] at hr; cases hr), fun j hj => ?_⟩
    by_cases hji : j = i
    · subst hji; exact hy.wpOp hi ⟨by rw [getD_set_ne false hie]; exact hS, H⟩
    · have := ready_mono hj hji
      rw [H.1] at this
      cases this
  | succ fuel ih =>
    intro listed a w hfree hr hy hS H
    refine ⟨fun h => (by rw [h] at hr; cases hr), fun j hj => ?_⟩
    by_cases hji : j = i
    · subst hji; exact hy.wpOp hi ⟨by rw [getD_set_ne false hie]; exact hS, H⟩
    · have h1 := H.2 j (ready_mono hj hji)
      obtain ⟨hjun, oj, hoj, hall⟩ := mem_ready.1 hj
      have hnot : ∀ e ∈ oj.after, Region.binds md e = true → e.on ≠ i := fun e he hb heq => by
        have h1 := hall e he hb
        have h0 := (mem_ready.1 hr).1
        rw [heq] at h1
        rcases Nat.lt_or_ge i listed.size with h' | h'
        · simp [h'] at h0 h1; rw [h0] at h1; cases h1
        · simp [Array.getElem?_eq_none h'] at h1
      have h2 := wpOp_put hoj (hfree j oj hoj hji hjun hnot) (fun cs b => hsel i oi cs b hi) (fun cs b => hsel j oj cs b hoj) hQ hy h1
      have hfree' : ∀ k ok, ops[k]? = some ok → k ≠ i → (listed.setIfInBounds j true).getD k true = false →
          (∀ e ∈ ok.after, Region.binds md e = true → e.on ≠ i) → oi.apart ops ok = true := fun k ok hk hki hun hno => by
        refine hfree k ok hk hki ?_ hno
        by_cases hjk : j = k
        · subst hjk; exact hjun
        · rw [getD_set_ne true hjk] at hun; exact hun
      refine wpOp_mono (fun a' w' h3 => ?_) h2
      have hS' : (listed.setIfInBounds j true).getD e false = true ∨ S w' := by
        rcases h3.2.1 with h | h
        · rw [Array.setIfInBounds_comm _ _ (Ne.symm hji), getD_set_ne false hie] at h; exact .inl h
        · exact .inr h
      refine ⟨hS', ih (listed.setIfInBounds j true) a' w' hfree' (ready_mono hr (Ne.symm hji)) h3.1 hS' ?_⟩
      rw [Array.setIfInBounds_comm _ _ hji]
      exact h3.2.2

/-- the heads, in the order that is told; 'true': number e waits for it -/
def heldL (P : Program) (ops : Array Oper) (S : World → Prop) (K : Act → Prop) : List (Nat × Bool) → Act → Prop
  | [], a => K a
  | (i, b) :: is, a => ∃ o v, ops[i]? = some o ∧ (Region.wanted o (yielded ops a.tmps) = true ∧ ∀ w, (b = true → S w) → (execOp a.eval o).run P w = .ok (.value v) w) ∧ heldL P ops S K is (a.put o.dst v)

def headsB (md : Region.Mode) (ops : Array Oper) (e : Nat) : List (Nat × Bool) → Array Bool → Bool
  | [], _ => true
  | (i, b) :: is, listed => (Region.ready md ops listed).contains i && Region.free md ops listed i && (!b || Region.waitsFor md ops e i) && decide (i ≠ e) && !(listed.getD e false) && headsB md ops e is (listed.setIfInBounds i true)

def listAll : List (Nat × Bool) → Array Bool → Array Bool
  | [], listed => listed
  | (i, _) :: is, listed => listAll is (listed.setIfInBounds i true)

theorem wpAnyT_heads {fuel : Nat} {w : World} (hsel : Region.noSelect ops = true) (hQ : ∀ d v c a w, Q (.panic c) (Act.put a d v) w → Q (.panic c) a w) (hS : S w) :
    ∀ (is : List (Nat × Bool)) (listed : Array Bool) (a : Act), headsB md ops e is listed = true →
      heldL P ops S (fun a' => wpAnyT P md ops Q S e fuel (listAll is listed) a' w) is a → wpAnyT P md ops Q S e (fuel + is.length) listed a w
  | [], _, _, _, h => h
  | (i, b) :: is, listed, a, hB, ⟨o, v, ho, ⟨hw, hy⟩, h⟩ => by
    simp only [headsB, Bool.and_eq_true, decide_eq_true_eq, Bool.not_eq_true', Bool.or_eq_true] at hB
    obtain ⟨⟨⟨⟨⟨hr, hf⟩, hwt⟩, hie⟩, hne⟩, hB'⟩ := hB
    rw [List.length_cons, ← Nat.add_assoc]
    have hrest := wpAnyT_heads hsel hQ hS is _ _ hB' h
    cases b with
    | true => exact wpAnyT_first ho (Region.noSelect_spec hsel) (hQ _ _) (hwt.resolve_left (by simp)) hie _ listed a w (Region.free_spec ho hf) (by simpa using hr) (.inl ⟨hw, fun w hS => hy w (fun _ => hS)⟩) hS hne hrest
    | false => exact wpAnyT_firstY ho (Region.noSelect_spec hsel) (hQ _ _) hie _ listed a w (Region.free_spec ho hf) (by simpa using hr) (.inl ⟨hw, fun w => hy w (by simp)⟩) (.inr hS) hrest

/-- the rest, in its one order; S is asked behind each but the last -/
def tailT (P : Program) (ops : Array Oper) (Q : Exit → Act → World → Prop) (S : World → Prop) (e : Nat) : List Nat → Act → World → Prop
  | [], a, w => Q .normal a w
  | t :: ts, a, w => wpOp P ops Q t (fun a' w' => (t = e ∨ S w') ∧ tailT P ops Q S e ts a' w') a w

def tailB (md : Region.Mode) (ops : Array Oper) (e : Nat) : List Nat → Array Bool → Bool
  | [], listed => (Region.ready md ops listed).isEmpty
  | t :: ts, listed => decide (Region.ready md ops listed = [t]) && decide (t < listed.size) && tailB md ops e ts (listed.setIfInBounds t true)

theorem wpAnyT_tail : ∀ (ts : List Nat) (listed : Array Bool) (a : Act) (w : World), tailB md ops e ts listed = true → tailT P ops Q S e ts a w → wpAnyT P md ops Q S e ts.length listed a w
  | [], listed, a, w, hB, h => ⟨by simpa [tailB] using hB, h⟩
  | t :: ts, listed, a, w, hB, h => by
    simp only [tailB, Bool.and_eq_true, decide_eq_true_eq] at hB
    obtain ⟨⟨h1, h2⟩, h3⟩ := hB
    refine ⟨fun h0 => absurd (h1 ▸ h0) (by simp), fun i hi => ?_⟩
    rw [h1] at hi
    have hit : i = t := by simpa using hi
    subst hit
    refine wpOp_mono (fun a' w' h' => ⟨?_, wpAnyT_tail ts _ a' w' h3 h'.2⟩) h
    rcases h'.1 with h4 | h4
    · subst h4; exact .inl (by simp [h2])
    · exact .inr h4

def heldTailB (md : Region.Mode) (ops : Array Oper) (is : List (Nat × Bool)) (ts : List Nat) (e : Nat) : Bool :=
  Region.noSelect ops && headsB md ops e is (Array.replicate ops.size false) && tailB md ops e ts (listAll is (Array.replicate ops.size false)) && decide (ts.length + is.length = ops.size)

theorem wp_region_heldTail (S : World → Prop) (is : List (Nat × Bool)) (ts : List Nat) (e : Nat) {id : Nat} {a : Act} {w : World} (hm : P.follows .mixedOrders = true) (hB : heldTailB .any ops is ts e = true)
    (hQ : ∀ d v c a w, Q (.panic c) (Act.put a d v) w → Q (.panic c) a w) (hS : S w.drew)
    (h : heldL P ops S (fun a' => tailT P ops Q S e ts a' w.drew) is a) : (Code.region id ops true).wp P Q a w := by
  simp only [heldTailB, Bool.and_eq_true, decide_eq_true_eq] at hB
  obtain ⟨⟨⟨h1, h2⟩, h3⟩, h4⟩ := hB
  refine wp_region_any hm (wpAny_of_T (S := S) (e := e) _ _ _ _ ?_)
  have := wpAnyT_heads (P := P) (Q := Q) (fuel := ts.length) (w := w.drew) (md := .any) (e := e) h1 hQ hS is (Array.replicate ops.size false) a h2
  rw [h4] at this
  refine this ?_
  clear this
  generalize listAll is (Array.replicate ops.size false) = li at h3 ⊢
  have key : ∀ (is : List (Nat × Bool)) (a : Act), heldL P ops S (fun a' => tailT P ops Q S e ts a' w.drew) is a → heldL P ops S (fun a' => wpAnyT P .any ops Q S e ts.length li a' w.drew) is a := by
    intro is
    induction is with
    | nil => intro a h; exact wpAnyT_tail ts li a w.drew h3 h
    | cons i is ih => intro a ⟨o, v, ho, hy, h⟩; exact ⟨o, v, ho, hy, ih _ h⟩
  exact key is a h

/-- the heads by their operations -/
def heldO (P : Program) (ops : Array Oper) (S : World → Prop) (K : Act → Prop) : List (Oper × Bool) → Act → Prop
  | [], a => K a
  | (o, b) :: os, a => ∃ v, (Region.wanted o (yielded ops a.tmps) = true ∧ ∀ w, (b = true → S w) → (execOp a.eval o).run P w = .ok (.value v) w) ∧ heldO P ops S K os (a.put o.dst v)
def pickO (l : List Oper) (is : List (Nat × Bool)) : List (Oper × Bool) := is.map fun p => (l.getD p.1 default, p.2)
theorem heldL_of_O {K : Act → Prop} : ∀ (is : List (Nat × Bool)) (a : Act), (is.all fun p => decide (p.1 < ops.size)) = true → heldO P ops S K (pickO ops.toList is) a → heldL P ops S K is a
  | [], _, _, h => h
  | (i, b) :: is, a, hB, h => by
    simp only [List.all_cons, Bool.and_eq_true, decide_eq_true_eq] at hB
    simp only [pickO, List.map_cons, heldO] at h
    obtain ⟨v, hy, h⟩ := h
    have hi : ops[i]? = some (ops.toList.getD i default) := by
      rw [List.getD_eq_getElem?_getD]
      simp [hB.1]
    exact ⟨_, v, hi, hy, heldL_of_O is _ hB.2 h⟩
theorem heldO_nil {K : Act → Prop} {a : Act} (h : K a) : heldO P ops S K [] a := h
/-- a load, and whatever looks at memory -/
theorem heldO_step {K : Act → Prop} {os : List (Oper × Bool)} {a : Act} {o : Oper} {v : Value} (hw : Region.wanted o (yielded ops a.tmps) = true) (hy : ∀ w, S w → (execOp a.eval o).run P w = .ok (.value v) w)
    (h : heldO P ops S K os (a.put o.dst v)) : heldO P ops S K ((o, true) :: os) a := ⟨v, ⟨hw, fun w hS => hy w (hS rfl)⟩, h⟩
/-- what does not look at memory -/
theorem heldO_stepY {K : Act → Prop} {os : List (Oper × Bool)} {a : Act} {o : Oper} {v : Value} (hw : Region.wanted o (yielded ops a.tmps) = true) (hy : ∀ w, (execOp a.eval o).run P w = .ok (.value v) w)
    (h : heldO P ops S K os (a.put o.dst v)) : heldO P ops S K ((o, false) :: os) a := ⟨v, ⟨hw, fun w _ => hy w⟩, h⟩
/-- the rest by its operations; 'true': the last -/
def tailO (P : Program) (ops : Array Oper) (Q : Exit → Act → World → Prop) (S : World → Prop) : List Oper → Act → World → Prop
  | [], a, w => Q .normal a w
  | o :: os, a, w => Region.wanted o (yielded ops a.tmps) = true ∧ o.wp P a w (fun a' w' => (os = [] ∨ S w') ∧ tailO P ops Q S os a' w') Q
theorem tailT_of_O : ∀ (ts : List Nat) (a : Act) (w : World), (ts.all fun t => decide (t < ops.size)) = true → (∀ t, ts.getLast? = some t → t = e) → tailO P ops Q S (ts.map fun t => ops.toList.getD t default) a w → tailT P ops Q S e ts a w
  | [], _, _, _, _, h => h
  | t :: ts, a, w, hB, hl, h => by
    simp only [List.all_cons, Bool.and_eq_true, decide_eq_true_eq] at hB
    simp only [List.map_cons, tailO] at h
    have hi : ops[t]? = some (ops.toList.getD t default) := by
      rw [List.getD_eq_getElem?_getD]
      simp [hB.1]
    unfold tailT wpOp
    simp only [hi, h.1, if_true]
    refine .inl (Oper.wp_mono (fun a' w' h' => ⟨?_, tailT_of_O ts a' w' hB.2 ?_ h'.2⟩) h.2)
    · rcases h'.1 with h1 | h1
      · have : ts = [] := by simpa using h1
        subst this
        exact .inl (hl t rfl)
      · exact .inr h1
    · intro t' ht'
      refine hl t' ?_
      cases ts with
      | nil => simp at ht'
      | cons x xs => simpa using ht'
theorem tailO_nil {a : Act} {w : World} (h : Q .normal a w) : tailO P ops Q S [] a w := h
theorem tailO_step {os : List Oper} {a : Act} {w : World} {o : Oper} (hw : Region.wanted o (yielded ops a.tmps) = true)
    (h : ∀ K : Act → World → Prop, (∀ a' w', (os = [] ∨ S w') → tailO P ops Q S os a' w' → K a' w') → o.wp P a w K Q) : tailO P ops Q S (o :: os) a w :=
  ⟨hw, h _ (fun _ _ h1 h2 => ⟨h1, h2⟩)⟩

theorem wp_region_held {l : List Oper} (S : World → Prop) (is : List (Nat × Bool)) (ts : List Nat) (e : Nat) {id : Nat} {a : Act} {w : World} (hm : P.follows .mixedOrders = true)
    (hB : (heldTailB .any l.toArray is ts e && (is.all fun p => decide (p.1 < l.toArray.size)) && (ts.all fun t => decide (t < l.toArray.size)) && decide (ts.getLast? = some e)) = true)
    (hQ : ∀ d v c a w, Q (.panic c) (Act.put a d v) w → Q (.panic c) a w) (hS : S w.drew)
    (h : heldO P l.toArray S (fun a' => tailO P l.toArray Q S (ts.map fun t => l.getD t default) a' w.drew) (pickO l is) a) : (Code.region id l.toArray true).wp P Q a w := by
  simp only [Bool.and_eq_true, decide_eq_true_eq] at hB
  obtain ⟨⟨⟨h1, h2⟩, h3⟩, h4⟩ := hB
  refine wp_region_heldTail S is ts e hm h1 hQ hS (heldL_of_O is a h2 ?_)
  have key : ∀ (os : List (Oper × Bool)) (a : Act), heldO P l.toArray S (fun a' => tailO P l.toArray Q S (ts.map fun t => l.getD t default) a' w.drew) os a → heldO P l.toArray S (fun a' => tailT P l.toArray Q S e ts a' w.drew) os a := by
    intro os
    induction os with
    | nil => intro a h; exact tailT_of_O ts a w.drew h3 (fun t ht => by rw [h4] at ht; exact (Option.some.inj ht).symm) h
    | cons o os ih => intro a ⟨v, hy, h⟩; exact ⟨v, hy, ih _ h⟩
  exact key _ a h
end

end Go.Proofs.YtbdbmmdnidonjaaDoor
