/- A region that draws its order: loads that nobody writes ahead of the last operation are taken first; the rest goes in one forced order. No program in sight. As wp_region_held, for heads on which the last operation waits through others. No program in sight. As wp_region_chain, but what is left behind the heads may come in several orders, which are told as a tree. No program in sight. A region that draws its order, by an invariant: what holds, whatever has come up so far. No program in sight. -/
import Derived.Test.YtbdbmmdnidonjaaDoorUJa
import Derived.OrdersHeld
import Derived.StillTail
set_option linter.unusedVariables false
set_option linter.unusedSimpArgs false
set_option maxRecDepth 100000
namespace Go.Proofs.YtbdbmmdnidonjaaDoor
section
variable {P : Program} {ops : Array Oper} {Q : Exit → Act → World → Prop} {md : Region.Mode} {S : World → Prop} {e : Nat}
/-- whatever order is picked, and S holds behind every operation as long as number e has not come up -/
def wpAnyT (P : Program) (md : Region.Mode) (ops : Array Oper) (Q : Exit → Act → World → Prop) (S : World → Prop) (e : Nat) : Nat → Array Bool → Act → World → Prop
 |0, listed, a, w => Region.ready md ops listed = [] ∧ Q .normal a w
 |fuel + 1, listed, a, w =>
  (Region.ready md ops listed = [] → Q .normal a w) ∧
  ∀ i ∈ Region.ready md ops listed, wpOp P ops Q i (fun a' w' => ((listed.setIfInBounds i true).getD e false = true ∨ S w') ∧ wpAnyT P md ops Q S e fuel (listed.setIfInBounds i true) a' w') a w
theorem wpAny_of_T : ∀ (fuel : Nat) (listed : Array Bool) (a : Act) (w : World), wpAnyT P md ops Q S e fuel listed a w → wpAny P md ops Q fuel listed a w
 |0, _, _, _, h => h
 |fuel + 1, _, _, _, h => ⟨h.1, fun i hi => wpOp_mono (fun a' w' h' => wpAny_of_T fuel _ a' w' h'.2) (h.2 i hi)⟩
/-- an operation that number e waits for, and that yields its value in every world that meets S -/
theorem wpAnyT_first {i : Nat} {oi : Oper} {v : Value} (hi : ops[i]? = some oi) (hsel : ∀ (j : Nat) (o : Oper) cs b, ops[j]? = some o → o.op ≠ .select cs b)
  (hQ : ∀ c a w, Q (.panic c) (a.put oi.dst v) w → Q (.panic c) a w) (hwait : Region.waitsFor md ops e i = true) (hie : i ≠ e) :
  ∀ (fuel : Nat) (listed : Array Bool) (a : Act) (w : World),
   (∀ j oj, ops[j]? = some oj → j ≠ i → listed.getD j true = false → (∀ e ∈ oj.after, Region.binds md e = true → e.on ≠ i) → oi.apart ops oj = true) →
   i ∈ Region.ready md ops listed → YieldsIf P ops S oi v a → S w → listed.getD e false = false →
   wpAnyT P md ops Q S e fuel (listed.setIfInBounds i true) (a.put oi.dst v) w → wpAnyT P md ops Q S e (fuel + 1) listed a w := by
 intro fuel
 induction fuel with
 |zero =>
  intro listed a w _ hr hy hS hne H
  refine ⟨fun h => (by rw [h] at hr; cases hr), fun j hj => ?_⟩
  by_cases hji : j = i
  ·subst hji; exact hy.wpOp hi hS ⟨.inr hS, H⟩
  ·have := ready_mono hj hji
   rw [H.1] at this
   cases this
 |succ fuel ih =>
  intro listed a w hfree hr hy hS hne H
  refine ⟨fun h => (by rw [h] at hr; cases hr), fun j hj => ?_⟩
  by_cases hji : j = i
  ·subst hji; exact hy.wpOp hi hS ⟨.inr hS, H⟩
  ·have h1 := H.2 j (ready_mono hj hji)
   obtain ⟨hjun, oj, hoj, hall⟩ := mem_ready.1 hj
   have hnot : ∀ e ∈ oj.after, Region.binds md e = true → e.on ≠ i := fun e he hb heq => by
    have h1 := hall e he hb
    have h0 := (mem_ready.1 hr).1
    rw [heq] at h1
    rcases Nat.lt_or_ge i listed.size with h' | h'
    ·simp [h'] at h0 h1; rw [h0] at h1; cases h1
    ·simp [Array.getElem?_eq_none h'] at h1
   have hje : j ≠ e := fun heq => by
    subst heq
    obtain ⟨o2, ho2, ed, hed, hb, hon⟩ := Region.waitsFor_spec hwait
    have : o2 = oj := Option.some.inj (ho2.symm.trans hoj)
    subst this
    exact hnot ed hed hb hon
   have h2 := wpOp_putIf hoj (hfree j oj hoj hji hjun hnot) (fun cs b => hsel i oi cs b hi) (fun cs b => hsel j oj cs b hoj) hQ hy h1
   have hfree' : ∀ k ok, ops[k]? = some ok → k ≠ i → (listed.setIfInBounds j true).getD k true = false →
     (∀ e ∈ ok.after, Region.binds md e = true → e.on ≠ i) → oi.apart ops ok = true := fun k ok hk hki hun hno => by
    refine hfree k ok hk hki ?_ hno
    by_cases hjk : j = k
    ·subst hjk; exact hjun
    ·rw [getD_set_ne true hjk] at hun; exact hun
   refine wpOp_mono (fun a' w' h3 => ?_) h2
   have hne' : (listed.setIfInBounds j true).getD e false = false := by rw [getD_set_ne false hje]; exact hne
   have hS' : S w' := h3.2.1.resolve_left (by rw [getD_set_ne false hje, getD_set_ne false hie, hne]; simp)
   refine ⟨.inr hS', ih (listed.setIfInBounds j true) a' w' hfree' (ready_mono hr (Ne.symm hji)) h3.1 hS' hne' ?_⟩
   rw [Array.setIfInBounds_comm _ _ hji]
   exact h3.2.2
/-- an operation that yields its value in whatever world -/
theorem wpAnyT_firstY {i : Nat} {oi : Oper} {v : Value} (hi : ops[i]? = some oi) (hsel : ∀ (j : Nat) (o : Oper) cs b, ops[j]? = some o → o.op ≠ .select cs b)
  (hQ : ∀ c a w, Q (.panic c) (a.put oi.dst v) w → Q (.panic c) a w) (hie : i ≠ e) :
  ∀ (fuel : Nat) (listed : Array Bool) (a : Act) (w : World),
   (∀ j oj, ops[j]? = some oj → j ≠ i → listed.getD j true = false → (∀ e ∈ oj.after, Region.binds md e = true → e.on ≠ i) → oi.apart ops oj = true) →
   i ∈ Region.ready md ops listed → Yields P ops oi v a → (listed.getD e false = true ∨ S w) →
   wpAnyT P md ops Q S e fuel (listed.setIfInBounds i true) (a.put oi.dst v) w → wpAnyT P md ops Q S e (fuel + 1) listed a w := by
 intro fuel
 induction fuel with
 |zero =>
  intro listed a w _ hr hy hS H
  refine ⟨fun h => (by rw [h] at hr; cases hr), fun j hj => ?_⟩
  by_cases hji : j = i
  ·subst hji; exact hy.wpOp hi ⟨by rw [getD_set_ne false hie]; exact hS, H⟩
  ·have := ready_mono hj hji
   rw [H.1] at this
   cases this
 |succ fuel ih =>
  intro listed a w hfree hr hy hS H
  refine ⟨fun h => (by rw [h] at hr; cases hr), fun j hj => ?_⟩
  by_cases hji : j = i
  ·subst hji; exact hy.wpOp hi ⟨by rw [getD_set_ne false hie]; exact hS, H⟩
  ·have h1 := H.2 j (ready_mono hj hji)
   obtain ⟨hjun, oj, hoj, hall⟩ := mem_ready.1 hj
   have hnot : ∀ e ∈ oj.after, Region.binds md e = true → e.on ≠ i := fun e he hb heq => by
    have h1 := hall e he hb
    have h0 := (mem_ready.1 hr).1
    rw [heq] at h1
    rcases Nat.lt_or_ge i listed.size with h' | h'
    ·simp [h'] at h0 h1; rw [h0] at h1; cases h1
    ·simp [Array.getElem?_eq_none h'] at h1
   have h2 := wpOp_put hoj (hfree j oj hoj hji hjun hnot) (fun cs b => hsel i oi cs b hi) (fun cs b => hsel j oj cs b hoj) hQ hy h1
   have hfree' : ∀ k ok, ops[k]? = some ok → k ≠ i → (listed.setIfInBounds j true).getD k true = false →
     (∀ e ∈ ok.after, Region.binds md e = true → e.on ≠ i) → oi.apart ops ok = true := fun k ok hk hki hun hno => by
    refine hfree k ok hk hki ?_ hno
    by_cases hjk : j = k
    ·subst hjk; exact hjun
    ·rw [getD_set_ne true hjk] at hun; exact hun
   refine wpOp_mono (fun a' w' h3 => ?_) h2
   have hS' : (listed.setIfInBounds j true).getD e false = true ∨ S w' := by
    rcases h3.2.1 with h | h
    ·rw [Array.setIfInBounds_comm _ _ (Ne.symm hji), getD_set_ne false hie] at h; exact .inl h
    ·exact .inr h
   refine ⟨hS', ih (listed.setIfInBounds j true) a' w' hfree' (ready_mono hr (Ne.symm hji)) h3.1 hS' ?_⟩
   rw [Array.setIfInBounds_comm _ _ hji]
   exact h3.2.2
/-- the heads, in the order that is told; 'true': number e waits for it -/
def heldL (P : Program) (ops : Array Oper) (S : World → Prop) (K : Act → Prop) : List (Nat × Bool) → Act → Prop
 |[], a => K a
 |(i, b) :: is, a => ∃ o v, ops[i]? = some o ∧ (Region.wanted o (yielded ops a.tmps) = true ∧ ∀ w, (b = true → S w) → (execOp a.eval o).run P w = .ok (.value v) w) ∧ heldL P ops S K is (a.put o.dst v)
def headsB (md : Region.Mode) (ops : Array Oper) (e : Nat) : List (Nat × Bool) → Array Bool → Bool
 |[], _ => true
 |(i, b) :: is, listed => (Region.ready md ops listed).contains i && Region.free md ops listed i && (!b || Region.waitsFor md ops e i) && decide (i ≠ e) && !(listed.getD e false) && headsB md ops e is (listed.setIfInBounds i true)
def listAll : List (Nat × Bool) → Array Bool → Array Bool
 |[], listed => listed
 |(i, _) :: is, listed => listAll is (listed.setIfInBounds i true)
theorem wpAnyT_heads {fuel : Nat} {w : World} (hsel : Region.noSelect ops = true) (hQ : ∀ d v c a w, Q (.panic c) (Act.put a d v) w → Q (.panic c) a w) (hS : S w) :
  ∀ (is : List (Nat × Bool)) (listed : Array Bool) (a : Act), headsB md ops e is listed = true →
   heldL P ops S (fun a' => wpAnyT P md ops Q S e fuel (listAll is listed) a' w) is a → wpAnyT P md ops Q S e (fuel + is.length) listed a w
 |[], _, _, _, h => h
 |(i, b) :: is, listed, a, hB, ⟨o, v, ho, ⟨hw, hy⟩, h⟩ => by
  simp only [headsB, Bool.and_eq_true, decide_eq_true_eq, Bool.not_eq_true', Bool.or_eq_true] at hB
  obtain ⟨⟨⟨⟨⟨hr, hf⟩, hwt⟩, hie⟩, hne⟩, hB'⟩ := hB
  rw [List.length_cons, ← Nat.add_assoc]
  have hrest := wpAnyT_heads hsel hQ hS is _ _ hB' h
  cases b with
  |true => exact wpAnyT_first ho (Region.noSelect_spec hsel) (hQ _ _) (hwt.resolve_left (by simp)) hie _ listed a w (Region.free_spec ho hf) (by simpa using hr) (.inl ⟨hw, fun w hS => hy w (fun _ => hS)⟩) hS hne hrest
  |false => exact wpAnyT_firstY ho (Region.noSelect_spec hsel) (hQ _ _) hie _ listed a w (Region.free_spec ho hf) (by simpa using hr) (.inl ⟨hw, fun w => hy w (by simp)⟩) (.inr hS) hrest
/-- the rest, in its one order; S is asked behind each but the last -/
def tailT (P : Program) (ops : Array Oper) (Q : Exit → Act → World → Prop) (S : World → Prop) (e : Nat) : List Nat → Act → World → Prop
 |[], a, w => Q .normal a w
 |t :: ts, a, w => wpOp P ops Q t (fun a' w' => (t = e ∨ S w') ∧ tailT P ops Q S e ts a' w') a w
def tailB (md : Region.Mode) (ops : Array Oper) (e : Nat) : List Nat → Array Bool → Bool
 |[], listed => (Region.ready md ops listed).isEmpty
 |t :: ts, listed => decide (Region.ready md ops listed = [t]) && decide (t < listed.size) && tailB md ops e ts (listed.setIfInBounds t true)
theorem wpAnyT_tail : ∀ (ts : List Nat) (listed : Array Bool) (a : Act) (w : World), tailB md ops e ts listed = true → tailT P ops Q S e ts a w → wpAnyT P md ops Q S e ts.length listed a w
 |[], listed, a, w, hB, h => ⟨by simpa [tailB] using hB, h⟩
 |t :: ts, listed, a, w, hB, h => by
  simp only [tailB, Bool.and_eq_true, decide_eq_true_eq] at hB
  obtain ⟨⟨h1, h2⟩, h3⟩ := hB
  refine ⟨fun h0 => absurd (h1 ▸ h0) (by simp), fun i hi => ?_⟩
  rw [h1] at hi
  have hit : i = t := by simpa using hi
  subst hit
  refine wpOp_mono (fun a' w' h' => ⟨?_, wpAnyT_tail ts _ a' w' h3 h'.2⟩) h
  rcases h'.1 with h4 | h4
  ·subst h4; exact .inl (by simp [h2])
  ·exact .inr h4
def heldTailB (md : Region.Mode) (ops : Array Oper) (is : List (Nat × Bool)) (ts : List Nat) (e : Nat) : Bool :=
 Region.noSelect ops && headsB md ops e is (Array.replicate ops.size false) && tailB md ops e ts (listAll is (Array.replicate ops.size false)) && decide (ts.length + is.length = ops.size)
theorem wp_region_heldTail (S : World → Prop) (is : List (Nat × Bool)) (ts : List Nat) (e : Nat) {id : Nat} {a : Act} {w : World} (hm : P.follows .mixedOrders = true) (hB : heldTailB .any ops is ts e = true)
  (hQ : ∀ d v c a w, Q (.panic c) (Act.put a d v) w → Q (.panic c) a w) (hS : S w.drew)
  (h : heldL P ops S (fun a' => tailT P ops Q S e ts a' w.drew) is a) : (Code.region id ops true).wp P Q a w := by
 simp only [heldTailB, Bool.and_eq_true, decide_eq_true_eq] at hB
 obtain ⟨⟨⟨h1, h2⟩, h3⟩, h4⟩ := hB
 refine wp_region_any hm (wpAny_of_T (S := S) (e := e) _ _ _ _ ?_)
 have := wpAnyT_heads (P := P) (Q := Q) (fuel := ts.length) (w := w.drew) (md := .any) (e := e) h1 hQ hS is (Array.replicate ops.size false) a h2
 rw [h4] at this
 refine this ?_
 clear this
 generalize listAll is (Array.replicate ops.size false) = li at h3 ⊢
 have key : ∀ (is : List (Nat × Bool)) (a : Act), heldL P ops S (fun a' => tailT P ops Q S e ts a' w.drew) is a → heldL P ops S (fun a' => wpAnyT P .any ops Q S e ts.length li a' w.drew) is a := by
  intro is
  induction is with
  |nil => intro a h; exact wpAnyT_tail ts li a w.drew h3 h
  |cons i is ih => intro a ⟨o, v, ho, hy, h⟩; exact ⟨o, v, ho, hy, ih _ h⟩
 exact key is a h
/-- the heads by their operations -/
def heldO (P : Program) (ops : Array Oper) (S : World → Prop) (K : Act → Prop) : List (Oper × Bool) → Act → Prop
 |[], a => K a
 |(o, b) :: os, a => ∃ v, (Region.wanted o (yielded ops a.tmps) = true ∧ ∀ w, (b = true → S w) → (execOp a.eval o).run P w = .ok (.value v) w) ∧ heldO P ops S K os (a.put o.dst v)
def pickO (l : List Oper) (is : List (Nat × Bool)) : List (Oper × Bool) := is.map fun p => (l.getD p.1 default, p.2)
theorem heldL_of_O {K : Act → Prop} : ∀ (is : List (Nat × Bool)) (a : Act), (is.all fun p => decide (p.1 < ops.size)) = true → heldO P ops S K (pickO ops.toList is) a → heldL P ops S K is a
 |[], _, _, h => h
 |(i, b) :: is, a, hB, h => by
  simp only [List.all_cons, Bool.and_eq_true, decide_eq_true_eq] at hB
  simp only [pickO, List.map_cons, heldO] at h
  obtain ⟨v, hy, h⟩ := h
  have hi : ops[i]? = some (ops.toList.getD i default) := by
   rw [List.getD_eq_getElem?_getD]
   simp [hB.1]
  exact ⟨_, v, hi, hy, heldL_of_O is _ hB.2 h⟩
theorem heldO_nil {K : Act → Prop} {a : Act} (h : K a) : heldO P ops S K [] a := h
/-- a load, and whatever looks at memory -/
theorem heldO_step {K : Act → Prop} {os : List (Oper × Bool)} {a : Act} {o : Oper} {v : Value} (hw : Region.wanted o (yielded ops a.tmps) = true) (hy : ∀ w, S w → (execOp a.eval o).run P w = .ok (.value v) w)
  (h : heldO P ops S K os (a.put o.dst v)) : heldO P ops S K ((o, true) :: os) a := ⟨v, ⟨hw, fun w hS => hy w (hS rfl)⟩, h⟩
/-- what does not look at memory -/
theorem heldO_stepY {K : Act → Prop} {os : List (Oper × Bool)} {a : Act} {o : Oper} {v : Value} (hw : Region.wanted o (yielded ops a.tmps) = true) (hy : ∀ w, (execOp a.eval o).run P w = .ok (.value v) w)
  (h : heldO P ops S K os (a.put o.dst v)) : heldO P ops S K ((o, false) :: os) a := ⟨v, ⟨hw, fun w _ => hy w⟩, h⟩
/-- the rest by its operations; 'true': the last -/
def tailO (P : Program) (ops : Array Oper) (Q : Exit → Act → World → Prop) (S : World → Prop) : List Oper → Act → World → Prop
 |[], a, w => Q .normal a w
 |o :: os, a, w => Region.wanted o (yielded ops a.tmps) = true ∧ o.wp P a w (fun a' w' => (os = [] ∨ S w') ∧ tailO P ops Q S os a' w') Q
theorem tailT_of_O : ∀ (ts : List Nat) (a : Act) (w : World), (ts.all fun t => decide (t < ops.size)) = true → (∀ t, ts.getLast? = some t → t = e) → tailO P ops Q S (ts.map fun t => ops.toList.getD t default) a w → tailT P ops Q S e ts a w
 |[], _, _, _, _, h => h
 |t :: ts, a, w, hB, hl, h => by
  simp only [List.all_cons, Bool.and_eq_true, decide_eq_true_eq] at hB
  simp only [List.map_cons, tailO] at h
  have hi : ops[t]? = some (ops.toList.getD t default) := by
   rw [List.getD_eq_getElem?_getD]
   simp [hB.1]
  unfold tailT wpOp
  simp only [hi, h.1, if_true]
  refine .inl (Oper.wp_mono (fun a' w' h' => ⟨?_, tailT_of_O ts a' w' hB.2 ?_ h'.2⟩) h.2)
  ·rcases h'.1 with h1 | h1
   ·have : ts = [] := by simpa using h1
    subst this
    exact .inl (hl t rfl)
   ·exact .inr h1
  ·intro t' ht'
   refine hl t' ?_
   cases ts with
   |nil => simp at ht'
   |cons x xs => simpa using ht'
theorem tailO_nil {a : Act} {w : World} (h : Q .normal a w) : tailO P ops Q S [] a w := h
theorem tailO_step {os : List Oper} {a : Act} {w : World} {o : Oper} (hw : Region.wanted o (yielded ops a.tmps) = true)
  (h : ∀ K : Act → World → Prop, (∀ a' w', (os = [] ∨ S w') → tailO P ops Q S os a' w' → K a' w') → o.wp P a w K Q) : tailO P ops Q S (o :: os) a w :=
 ⟨hw, h _ (fun _ _ h1 h2 => ⟨h1, h2⟩)⟩
theorem wp_region_held {l : List Oper} (S : World → Prop) (is : List (Nat × Bool)) (ts : List Nat) (e : Nat) {id : Nat} {a : Act} {w : World} (hm : P.follows .mixedOrders = true)
  (hB : (heldTailB .any l.toArray is ts e && (is.all fun p => decide (p.1 < l.toArray.size)) && (ts.all fun t => decide (t < l.toArray.size)) && decide (ts.getLast? = some e)) = true)
  (hQ : ∀ d v c a w, Q (.panic c) (Act.put a d v) w → Q (.panic c) a w) (hS : S w.drew)
  (h : heldO P l.toArray S (fun a' => tailO P l.toArray Q S (ts.map fun t => l.getD t default) a' w.drew) (pickO l is) a) : (Code.region id l.toArray true).wp P Q a w := by
 simp only [Bool.and_eq_true, decide_eq_true_eq] at hB
 obtain ⟨⟨⟨h1, h2⟩, h3⟩, h4⟩ := hB
 refine wp_region_heldTail S is ts e hm h1 hQ hS (heldL_of_O is a h2 ?_)
 have key : ∀ (os : List (Oper × Bool)) (a : Act), heldO P l.toArray S (fun a' => tailO P l.toArray Q S (ts.map fun t => l.getD t default) a' w.drew) os a → heldO P l.toArray S (fun a' => tailT P l.toArray Q S e ts a' w.drew) os a := by
  intro os
  induction os with
  |nil => intro a h; exact tailT_of_O ts a w.drew h3 (fun t ht => by rw [h4] at ht; exact (Option.some.inj ht).symm) h
  |cons o os ih => intro a ⟨v, hy, h⟩; exact ⟨v, hy, ih _ h⟩
 exact key _ a h
end
end Go.Proofs.YtbdbmmdnidonjaaDoor
set_option maxRecDepth 100000
namespace Go.Proofs.YtbdbmmdnidonjaaDoor
section
variable {P : Program} {ops : Array Oper} {Q : Exit → Act → World → Prop} {md : Region.Mode} {S : World → Prop} {e : Nat}
/-- an operation that number e waits for, and that yields its value in every world that meets S -/
theorem wpAnyT_firstU {i : Nat} {oi : Oper} {v : Value} (hi : ops[i]? = some oi) (hsel : ∀ (j : Nat) (o : Oper) cs b, ops[j]? = some o → o.op ≠ .select cs b)
  (hQ : ∀ c a w, Q (.panic c) (a.put oi.dst v) w → Q (.panic c) a w) {U : List Nat} (heU : e ∈ U) (hiU : i ∉ U) (hwait : ∀ k ∈ U, Region.waitsFor md ops k i = true ∨ ∃ k' ∈ U, Region.waitsFor md ops k k' = true) :
  ∀ (fuel : Nat) (listed : Array Bool) (a : Act) (w : World),
   (∀ j oj, ops[j]? = some oj → j ≠ i → listed.getD j true = false → (∀ e ∈ oj.after, Region.binds md e = true → e.on ≠ i) → oi.apart ops oj = true) →
   i ∈ Region.ready md ops listed → YieldsIf P ops S oi v a → S w → (∀ k ∈ U, listed.getD k false = false) →
   wpAnyT P md ops Q S e fuel (listed.setIfInBounds i true) (a.put oi.dst v) w → wpAnyT P md ops Q S e (fuel + 1) listed a w := by
 intro fuel
 induction fuel with
 |zero =>
  intro listed a w _ hr hy hS hne H
  refine ⟨fun h => (by rw [h] at hr; cases hr), fun j hj => ?_⟩
  by_cases hji : j = i
  ·subst hji; exact hy.wpOp hi hS ⟨.inr hS, H⟩
  ·have := ready_mono hj hji
   rw [H.1] at this
   cases this
 |succ fuel ih =>
  intro listed a w hfree hr hy hS hne H
  refine ⟨fun h => (by rw [h] at hr; cases hr), fun j hj => ?_⟩
  by_cases hji : j = i
  ·subst hji; exact hy.wpOp hi hS ⟨.inr hS, H⟩
  ·have h1 := H.2 j (ready_mono hj hji)
   obtain ⟨hjun, oj, hoj, hall⟩ := mem_ready.1 hj
   have hnot : ∀ e ∈ oj.after, Region.binds md e = true → e.on ≠ i := fun e he hb heq => by
    have h1 := hall e he hb
    have h0 := (mem_ready.1 hr).1
    rw [heq] at h1
    rcases Nat.lt_or_ge i listed.size with h' | h'
    ·simp [h'] at h0 h1; rw [h0] at h1; cases h1
    ·simp [Array.getElem?_eq_none h'] at h1
   have hie : i ≠ e := fun h => hiU (h ▸ heU)
   have hjU : j ∉ U := fun hjU => by
    rcases hwait j hjU with hw | ⟨k', hk', hw⟩
    ·obtain ⟨o2, ho2, ed, hed, hb, hon⟩ := Region.waitsFor_spec hw
     have : o2 = oj := Option.some.inj (ho2.symm.trans hoj)
     subst this
     exact hnot ed hed hb hon
    ·obtain ⟨o2, ho2, ed, hed, hb, hon⟩ := Region.waitsFor_spec hw
     have : o2 = oj := Option.some.inj (ho2.symm.trans hoj)
     subst this
     have h1 := hall ed hed hb
     rw [hon] at h1
     have h2 := hne k' hk'
     have hki : k' ≠ i := fun h => hiU (h ▸ hk')
     rw [h2] at h1
     cases h1
   have hje : j ≠ e := fun h => hjU (h ▸ heU)
   have h2 := wpOp_putIf hoj (hfree j oj hoj hji hjun hnot) (fun cs b => hsel i oi cs b hi) (fun cs b => hsel j oj cs b hoj) hQ hy h1
   have hfree' : ∀ k ok, ops[k]? = some ok → k ≠ i → (listed.setIfInBounds j true).getD k true = false →
     (∀ e ∈ ok.after, Region.binds md e = true → e.on ≠ i) → oi.apart ops ok = true := fun k ok hk hki hun hno => by
    refine hfree k ok hk hki ?_ hno
    by_cases hjk : j = k
    ·subst hjk; exact hjun
    ·rw [getD_set_ne true hjk] at hun; exact hun
   refine wpOp_mono (fun a' w' h3 => ?_) h2
   have hne' : ∀ k ∈ U, (listed.setIfInBounds j true).getD k false = false := fun k hk => by
    have hjk : j ≠ k := fun h => hjU (h ▸ hk)
    rw [getD_set_ne false hjk]; exact hne k hk
   have hS' : S w' := h3.2.1.resolve_left (by rw [getD_set_ne false hje, getD_set_ne false hie, hne e heU]; simp)
   refine ⟨.inr hS', ih (listed.setIfInBounds j true) a' w' hfree' (ready_mono hr (Ne.symm hji)) h3.1 hS' hne' ?_⟩
   rw [Array.setIfInBounds_comm _ _ hji]
   exact h3.2.2
/-- what comes behind number i, through one another -/
def behindOf (md : Region.Mode) (ops : Array Oper) (i : Nat) : Nat → List Nat
 |0 => (List.range ops.size).filter fun k => Region.waitsFor md ops k i
 |n + 1 => (List.range ops.size).filter fun k => Region.waitsFor md ops k i || (behindOf md ops i n).any fun k' => Region.waitsFor md ops k k'
def chainBU (md : Region.Mode) (ops : Array Oper) (e i : Nat) (listed : Array Bool) (U : List Nat) : Bool :=
 U.contains e && !U.contains i && U.all (fun k => Region.waitsFor md ops k i || U.any fun k' => Region.waitsFor md ops k k') && U.all fun k => !(listed.getD k false)
def chainB (md : Region.Mode) (ops : Array Oper) (e i : Nat) (listed : Array Bool) : Bool := chainBU md ops e i listed (behindOf md ops i 4)
theorem chainB_spec {i : Nat} {listed : Array Bool} (h : chainB md ops e i listed = true) :
  e ∈ behindOf md ops i 4 ∧ i ∉ behindOf md ops i 4 ∧ (∀ k ∈ behindOf md ops i 4, Region.waitsFor md ops k i = true ∨ ∃ k' ∈ behindOf md ops i 4, Region.waitsFor md ops k k' = true) ∧ ∀ k ∈ behindOf md ops i 4, listed.getD k false = false := by
 unfold chainB chainBU at h
 generalize behindOf md ops i 4 = U at *
 simp only [Bool.and_eq_true, Bool.not_eq_true', List.all_eq_true, Bool.or_eq_true, List.any_eq_true] at h
 obtain ⟨⟨⟨h1, h2⟩, h3⟩, h4⟩ := h
 refine ⟨by simpa using h1, by simpa using h2, h3, h4⟩
def headsBU (md : Region.Mode) (ops : Array Oper) (e : Nat) : List (Nat × Bool) → Array Bool → Bool
 |[], _ => true
 |(i, b) :: is, listed => (Region.ready md ops listed).contains i && Region.free md ops listed i && (!b || chainB md ops e i listed) && decide (i ≠ e) && !(listed.getD e false) && headsBU md ops e is (listed.setIfInBounds i true)
theorem wpAnyT_headsU {fuel : Nat} {w : World} (hsel : Region.noSelect ops = true) (hQ : ∀ d v c a w, Q (.panic c) (Act.put a d v) w → Q (.panic c) a w) (hS : S w) :
  ∀ (is : List (Nat × Bool)) (listed : Array Bool) (a : Act), headsBU md ops e is listed = true →
   heldL P ops S (fun a' => wpAnyT P md ops Q S e fuel (listAll is listed) a' w) is a → wpAnyT P md ops Q S e (fuel + is.length) listed a w
 |[], _, _, _, h => h
 |(i, b) :: is, listed, a, hB, ⟨o, v, ho, ⟨hw, hy⟩, h⟩ => by
  simp only [headsBU, Bool.and_eq_true, decide_eq_true_eq, Bool.not_eq_true', Bool.or_eq_true] at hB
  obtain ⟨⟨⟨⟨⟨hr, hf⟩, hwt⟩, hie⟩, hne⟩, hB'⟩ := hB
  rw [List.length_cons, ← Nat.add_assoc]
  have hrest := wpAnyT_headsU hsel hQ hS is _ _ hB' h
  cases b with
  |true =>
   have hU := chainB_spec (hwt.resolve_left (by simp))
   exact wpAnyT_firstU ho (Region.noSelect_spec hsel) (hQ _ _) hU.1 hU.2.1 hU.2.2.1 _ listed a w (Region.free_spec ho hf) (by simpa using hr) (.inl ⟨hw, fun w hS => hy w (fun _ => hS)⟩) hS hU.2.2.2 hrest
  |false => exact wpAnyT_firstY ho (Region.noSelect_spec hsel) (hQ _ _) hie _ listed a w (Region.free_spec ho hf) (by simpa using hr) (.inl ⟨hw, fun w => hy w (by simp)⟩) (.inr hS) hrest
def heldTailBU (md : Region.Mode) (ops : Array Oper) (is : List (Nat × Bool)) (ts : List Nat) (e : Nat) : Bool :=
 Region.noSelect ops && headsBU md ops e is (Array.replicate ops.size false) && tailB md ops e ts (listAll is (Array.replicate ops.size false)) && decide (ts.length + is.length = ops.size)
theorem wp_region_heldTailU (S : World → Prop) (is : List (Nat × Bool)) (ts : List Nat) (e : Nat) {id : Nat} {a : Act} {w : World} (hm : P.follows .mixedOrders = true) (hB : heldTailBU .any ops is ts e = true)
  (hQ : ∀ d v c a w, Q (.panic c) (Act.put a d v) w → Q (.panic c) a w) (hS : S w.drew)
  (h : heldL P ops S (fun a' => tailT P ops Q S e ts a' w.drew) is a) : (Code.region id ops true).wp P Q a w := by
 simp only [heldTailBU, Bool.and_eq_true, decide_eq_true_eq] at hB
 obtain ⟨⟨⟨h1, h2⟩, h3⟩, h4⟩ := hB
 refine wp_region_any hm (wpAny_of_T (S := S) (e := e) _ _ _ _ ?_)
 have := wpAnyT_headsU (P := P) (Q := Q) (fuel := ts.length) (w := w.drew) (md := .any) (e := e) h1 hQ hS is (Array.replicate ops.size false) a h2
 rw [h4] at this
 refine this ?_
 clear this
 generalize listAll is (Array.replicate ops.size false) = li at h3 ⊢
 have key : ∀ (is : List (Nat × Bool)) (a : Act), heldL P ops S (fun a' => tailT P ops Q S e ts a' w.drew) is a → heldL P ops S (fun a' => wpAnyT P .any ops Q S e ts.length li a' w.drew) is a := by
  intro is
  induction is with
  |nil => intro a h; exact wpAnyT_tail ts li a w.drew h3 h
  |cons i is ih => intro a ⟨o, v, ho, hy, h⟩; exact ⟨o, v, ho, hy, ih _ h⟩
 exact key is a h
theorem wp_region_chain {l : List Oper} (S : World → Prop) (is : List (Nat × Bool)) (ts : List Nat) (e : Nat) {id : Nat} {a : Act} {w : World} (hm : P.follows .mixedOrders = true)
  (hB : (heldTailBU .any l.toArray is ts e && (is.all fun p => decide (p.1 < l.toArray.size)) && (ts.all fun t => decide (t < l.toArray.size)) && decide (ts.getLast? = some e)) = true)
  (hQ : ∀ d v c a w, Q (.panic c) (Act.put a d v) w → Q (.panic c) a w) (hS : S w.drew)
  (h : heldO P l.toArray S (fun a' => tailO P l.toArray Q S (ts.map fun t => l.getD t default) a' w.drew) (pickO l is) a) : (Code.region id l.toArray true).wp P Q a w := by
 simp only [Bool.and_eq_true, decide_eq_true_eq] at hB
 obtain ⟨⟨⟨h1, h2⟩, h3⟩, h4⟩ := hB
 refine wp_region_heldTailU S is ts e hm h1 hQ hS (heldL_of_O is a h2 ?_)
 have key : ∀ (os : List (Oper × Bool)) (a : Act), heldO P l.toArray S (fun a' => tailO P l.toArray Q S (ts.map fun t => l.getD t default) a' w.drew) os a → heldO P l.toArray S (fun a' => tailT P l.toArray Q S e ts a' w.drew) os a := by
  intro os
  induction os with
  |nil => intro a h; exact tailT_of_O ts a w.drew h3 (fun t ht => by rw [h4] at ht; exact (Option.some.inj ht).symm) h
  |cons o os ih => intro a ⟨v, hy, h⟩; exact ⟨v, hy, ih _ h⟩
 exact key _ a h
end
end Go.Proofs.YtbdbmmdnidonjaaDoor
set_option maxRecDepth 100000
namespace Go.Proofs.YtbdbmmdnidonjaaDoor
/-- the orders of what is left: 'alt i t r': number i may come next, then t; or one of r -/
inductive Tr where
 |fin
 |none
 |alt (i : Nat) (t r : Tr)
def Tr.firsts : Tr → List Nat
 |.alt i _ r => i :: r.firsts
 |_ => []
section
variable {P : Program} {ops : Array Oper} {Q : Exit → Act → World → Prop} {md : Region.Mode} {S : World → Prop} {e : Nat}
def Tr.headB (md : Region.Mode) (ops : Array Oper) (l : Array Bool) : Tr → Bool
 |.fin => (Region.ready md ops l).isEmpty
 |t => decide (Region.ready md ops l = t.firsts) && !(Region.ready md ops l).isEmpty
def Tr.okB (md : Region.Mode) (ops : Array Oper) : Tr → Array Bool → Nat → Bool
 |.fin, _, n => n == 0
 |.none, _, _ => true
 |.alt i t r, l, n => decide (i < l.size) && t.headB md ops (l.setIfInBounds i true) && (match n with | 0 => false | m + 1 => t.okB md ops (l.setIfInBounds i true) m) && r.okB md ops l n
/-- b: number e has not come up yet, so S is asked -/
def treeT (P : Program) (ops : Array Oper) (Q : Exit → Act → World → Prop) (S : World → Prop) (e : Nat) : Tr → Bool → Act → World → Prop
 |.fin, _, a, w => Q .normal a w
 |.none, _, _, _ => True
 |.alt i t r, b, a, w => wpOp P ops Q i (fun a' w' => ((b && decide (i ≠ e)) = true → S w') ∧ treeT P ops Q S e t (b && decide (i ≠ e)) a' w') a w ∧ treeT P ops Q S e r b a w
theorem treeT_mem {i : Nat} {b : Bool} {a : Act} {w : World} : ∀ {t : Tr}, i ∈ t.firsts → treeT P ops Q S e t b a w → ∀ {l : Array Bool} {n : Nat}, t.okB md ops l n = true →
  ∃ t' m, n = m + 1 ∧ i < l.size ∧ t'.headB md ops (l.setIfInBounds i true) = true ∧ t'.okB md ops (l.setIfInBounds i true) m = true ∧ wpOp P ops Q i (fun a' w' => ((b && decide (i ≠ e)) = true → S w') ∧ treeT P ops Q S e t' (b && decide (i ≠ e)) a' w') a w
 |.fin, h, _, _, _, _ => by simp [Tr.firsts] at h
 |.none, h, _, _, _, _ => by simp [Tr.firsts] at h
 |.alt j t r, h, ht, l, n, hok => by
  simp only [Tr.okB, Bool.and_eq_true, decide_eq_true_eq] at hok
  obtain ⟨⟨⟨h1, h2⟩, h3⟩, h4⟩ := hok
  rcases List.mem_cons.1 h with rfl | h
  ·cases n with
   |zero => cases h3
   |succ m => exact ⟨t, m, rfl, h1, h2, h3, ht.1⟩
  ·exact treeT_mem h ht.2 h4
theorem wpAnyT_tree : ∀ (n : Nat) (t : Tr) (l : Array Bool) (b : Bool) (a : Act) (w : World), t.okB md ops l n = true → t.headB md ops l = true → (b = false → l.getD e false = true) → treeT P ops Q S e t b a w → wpAnyT P md ops Q S e n l a w
 |0, t, l, b, a, w, hok, hh, _, ht => by
  cases t with
  |fin => exact ⟨by simpa [Tr.headB] using hh, ht⟩
  |none => simp [Tr.headB, Tr.firsts] at hh; exact absurd (of_decide_eq_true hh.1) hh.2
  |alt i t r => simp [Tr.okB] at hok
 |n + 1, t, l, b, a, w, hok, hh, hb, ht => by
  cases t with
  |fin => simp [Tr.okB] at hok
  |none => simp [Tr.headB, Tr.firsts] at hh; exact absurd (of_decide_eq_true hh.1) hh.2
  |alt i t r =>
   simp only [Tr.headB, Bool.and_eq_true, decide_eq_true_eq, Bool.not_eq_true'] at hh
   refine ⟨fun h0 => (by rw [h0] at hh; cases hh.2), fun j hj => ?_⟩
   rw [hh.1] at hj
   obtain ⟨t', m, hm, hjl, h1, h2, h3⟩ := treeT_mem hj ht hok
   obtain rfl : m = n := by omega
   refine wpOp_mono (fun a' w' h' => ?_) h3
   have hb' : (b && decide (j ≠ e)) = false → (l.setIfInBounds j true).getD e false = true := fun h => by
    by_cases he : j = e
    ·subst he; simp [hjl]
    ·rw [getD_set_ne false he]
     refine hb ?_
     simpa [he] using h
   refine ⟨?_, wpAnyT_tree m t' _ _ a' w' h2 h1 hb' h'.2⟩
   cases hc : (b && decide (j ≠ e)) with
   |true => exact .inr (h'.1 hc)
   |false => exact .inl (hb' hc)
/-- the tree by its operations -/
def treeO (P : Program) (ops : Array Oper) (Q : Exit → Act → World → Prop) (S : World → Prop) (e : Nat) : Tr → Bool → Act → World → Prop
 |.fin, _, a, w => Q .normal a w
 |.none, _, _, _ => True
 |.alt i t r, b, a, w => (∃ o, ops[i]? = some o ∧ Region.wanted o (yielded ops a.tmps) = true ∧ o.wp P a w (fun a' w' => ((b && decide (i ≠ e)) = true → S w') ∧ treeO P ops Q S e t (b && decide (i ≠ e)) a' w') Q) ∧ treeO P ops Q S e r b a w
theorem treeT_of_O : ∀ (t : Tr) (b : Bool) (a : Act) (w : World), treeO P ops Q S e t b a w → treeT P ops Q S e t b a w
 |.fin, _, _, _, h => h
 |.none, _, _, _, h => h
 |.alt i t r, b, a, w, ⟨⟨o, ho, hw, h⟩, h2⟩ => by
  refine ⟨?_, treeT_of_O r b a w h2⟩
  unfold wpOp
  simp only [ho, hw, if_true]
  exact .inl (Oper.wp_mono (fun a' w' h' => ⟨h'.1, treeT_of_O t _ a' w' h'.2⟩) h)
theorem treeO_fin {b : Bool} {a : Act} {w : World} (h : Q .normal a w) : treeO P ops Q S e .fin b a w := h
theorem treeO_none {b : Bool} {a : Act} {w : World} : treeO P ops Q S e .none b a w := trivial
/-- one way on -/
theorem treeO_alt {i : Nat} {t r : Tr} {b : Bool} {a : Act} {w : World} {o : Oper} (ho : ops[i]? = some o) (hw : Region.wanted o (yielded ops a.tmps) = true)
  (h : ∀ K : Act → World → Prop, (∀ a' w', ((b && decide (i ≠ e)) = true → S w') → treeO P ops Q S e t (b && decide (i ≠ e)) a' w' → K a' w') → o.wp P a w K Q) (h2 : treeO P ops Q S e r b a w) : treeO P ops Q S e (.alt i t r) b a w :=
 ⟨⟨o, ho, hw, h _ (fun _ _ h1 h2 => ⟨h1, h2⟩)⟩, h2⟩
def treeAllB (md : Region.Mode) (ops : Array Oper) (is : List (Nat × Bool)) (t : Tr) (e : Nat) : Bool :=
 Region.noSelect ops && headsBU md ops e is (Array.replicate ops.size false) && t.headB md ops (listAll is (Array.replicate ops.size false)) && t.okB md ops (listAll is (Array.replicate ops.size false)) (ops.size - is.length) && decide (is.length ≤ ops.size)
theorem wp_region_tree {l : List Oper} (S : World → Prop) (is : List (Nat × Bool)) (t : Tr) (e : Nat) {id : Nat} {a : Act} {w : World} (hm : P.follows .mixedOrders = true)
  (hB : (treeAllB .any l.toArray is t e && (is.all fun p => decide (p.1 < l.toArray.size))) = true)
  (hQ : ∀ d v c a w, Q (.panic c) (Act.put a d v) w → Q (.panic c) a w) (hS : S w.drew)
  (h : heldO P l.toArray S (fun a' => treeO P l.toArray Q S e t true a' w.drew) (pickO l is) a) : (Code.region id l.toArray true).wp P Q a w := by
 simp only [treeAllB, Bool.and_eq_true, decide_eq_true_eq] at hB
 obtain ⟨⟨⟨⟨⟨h1, h2⟩, h3⟩, h4⟩, h5⟩, h6⟩ := hB
 refine wp_region_any hm (wpAny_of_T (S := S) (e := e) _ _ _ _ ?_)
 have := wpAnyT_headsU (P := P) (Q := Q) (fuel := l.toArray.size - is.length) (w := w.drew) (md := .any) (e := e) h1 hQ hS is (Array.replicate l.toArray.size false) a h2
 rw [Nat.sub_add_cancel h5] at this
 refine this ?_
 clear this
 generalize listAll is (Array.replicate l.toArray.size false) = li at h3 h4 ⊢
 refine heldL_of_O is a h6 ?_
 have key : ∀ (os : List (Oper × Bool)) (a : Act), heldO P l.toArray S (fun a' => treeO P l.toArray Q S e t true a' w.drew) os a → heldO P l.toArray S (fun a' => wpAnyT P .any l.toArray Q S e (l.toArray.size - is.length) li a' w.drew) os a := by
  intro os
  induction os with
  |nil => intro a h; exact wpAnyT_tree _ t li true a w.drew h4 h3 (fun h => by cases h) (treeT_of_O t true a w.drew h)
  |cons o os ih => intro a ⟨v, hy, h⟩; exact ⟨v, hy, ih _ h⟩
 exact key _ a h
end
end Go.Proofs.YtbdbmmdnidonjaaDoor
set_option maxRecDepth 100000
namespace Go.Proofs.YtbdbmmdnidonjaaDoor
/-- one more has come up -/
def upd (d : Nat → Bool) (i : Nat) : Nat → Bool := fun j => bif Nat.beq j i then true else d j
def waitsD (md : Region.Mode) (o : Oper) (d : Nat → Bool) : Prop := ∀ e ∈ o.after, Region.binds md e = true → d e.on = true
theorem waitsD.at {md : Region.Mode} {o : Oper} {d : Nat → Bool} (h : waitsD md o d) (i : Nat) (hi : (o.after.any fun e => Nat.beq e.on i && Region.binds md e) = true) : d i = true := by
 rw [Array.any_eq_true] at hi
 obtain ⟨k, hk, he⟩ := hi
 simp only [Bool.and_eq_true] at he
 have := h o.after[k] (Array.getElem_mem hk) he.2
 rwa [Nat.eq_of_beq_eq_true he.1] at this
section
variable {P : Program} {Q : Exit → Act → World → Prop} {md : Region.Mode}
def stepsL (P : Program) (Q : Exit → Act → World → Prop) (md : Region.Mode) (I : (Nat → Bool) → Act → World → Prop) : List Oper → Nat → Prop
 |[], _ => True
 |o :: l, i => (∀ d a w, I d a w → d i = false → waitsD md o d → o.wp P a w (fun a' w' => I (upd d i) a' w') Q) ∧ stepsL P Q md I l (i + 1)
theorem stepsL_at {I : (Nat → Bool) → Act → World → Prop} : ∀ {l : List Oper} {k : Nat}, stepsL P Q md I l k → ∀ {i : Nat} {o : Oper}, l[i]? = some o → ∀ d a w, I d a w → d (k + i) = false → waitsD md o d → o.wp P a w (fun a' w' => I (upd d (k + i)) a' w') Q
 |[], _, _, i, _, h => by simp at h
 |o :: l, k, hs, 0, o', h => by
  simp at h
  subst h
  exact hs.1
 |o :: l, k, hs, i + 1, o', h => by
  have := stepsL_at hs.2 (i := i) (o := o') (by simpa using h)
  rw [show k + 1 + i = k + (i + 1) by omega] at this
  exact this
/-- edges go back, nothing is guarded -/
def backB (md : Region.Mode) (ops : Array Oper) : Bool := (List.range ops.size).all fun i => match ops[i]? with | none => true | some o => o.guard.isNone && o.after.all fun e => !Region.binds md e || decide (e.on < i)
theorem wpAny_inv {ops : Array Oper} (I : (Nat → Bool) → Act → World → Prop) (hB : backB md ops = true)
  (hs : stepsL P Q md I ops.toList 0) (hE : ∀ d a w, I d a w → (∀ i, i < ops.size → d i = true) → Q .normal a w) :
  ∀ (fuel : Nat) (listed : Array Bool) (a : Act) (w : World), listed.size = ops.size → (listed.toList.filter (fun b => !b)).length = fuel → I (fun j => listed.getD j false) a w → wpAny P md ops Q fuel listed a w := by
 have hX : ∀ d d' a w, (∀ i, d i = d' i) → I d a w → I d' a w := fun d d' a w h k => by rwa [funext h] at k
 have hback : ∀ i o, ops[i]? = some o → o.guard = none ∧ ∀ e ∈ o.after, Region.binds md e = true → e.on < i := fun i o ho => by
  have hi : i < ops.size := (Array.getElem?_eq_some_iff.1 ho).1
  have := List.all_eq_true.1 hB i (List.mem_range.2 hi)
  simp only [ho, Bool.and_eq_true] at this
  refine ⟨by simpa using this.1, fun e he hb => ?_⟩
  have := Array.all_eq_true'.1 this.2 e he
  simpa [hb] using this
 have hall : ∀ listed : Array Bool, listed.size = ops.size → Region.ready md ops listed = [] → ∀ i, i < ops.size → listed.getD i false = true := fun listed hl hr i => by
  induction i using Nat.strongRecOn with
  |_ i ih =>
   intro hi
   cases hd : listed.getD i false with
   |true => rfl
   |false =>
    exfalso
    have : i ∈ Region.ready md ops listed := by
     refine mem_ready.2 ⟨?_, ops[i], Array.getElem?_eq_getElem hi, fun e he hb => ?_⟩
     ·have : i < listed.size := by omega
      simp [this] at hd ⊢; exact hd
     ·have := (hback i _ (Array.getElem?_eq_getElem hi)).2 e he hb
      exact ih e.on this (by omega)
    rw [hr] at this; cases this
 have hnone : ∀ listed : Array Bool, listed.size = ops.size → (∀ i, i < ops.size → listed.getD i false = true) → Region.ready md ops listed = [] := fun listed hl h => by
  refine List.eq_nil_iff_forall_not_mem.2 fun i hi => ?_
  obtain ⟨h1, o, ho, _⟩ := mem_ready.1 hi
  have hio : i < ops.size := (Array.getElem?_eq_some_iff.1 ho).1
  have := h i hio
  have hil : i < listed.size := by omega
  simp [hil] at h1 this
  rw [h1] at this; cases this
 intro fuel
 induction fuel with
 |zero =>
  intro listed a w hl hc hI
  have h : ∀ i, i < ops.size → listed.getD i false = true := fun i hi => by
   have hil : i < listed.size := by omega
   have hno : listed.toList.filter (fun b => !b) = [] := List.eq_nil_of_length_eq_zero hc
   have := List.filter_eq_nil_iff.1 hno listed[i] (by simp)
   simp [hil]
   simpa using this
  exact ⟨hnone listed hl h, hE _ a w hI h⟩
 |succ fuel ih =>
  intro listed a w hl hc hI
  refine ⟨fun hr => hE _ a w hI (hall listed hl hr), fun i hi => ?_⟩
  obtain ⟨h1, o, ho, hw⟩ := mem_ready.1 hi
  have hio : i < ops.size := (Array.getElem?_eq_some_iff.1 ho).1
  have hil : i < listed.size := by omega
  have hlf : listed[i] = false := by simpa [hil] using h1
  have hg := (hback i o ho).1
  have hwant : Region.wanted o (yielded ops a.tmps) = true := by simp [Region.wanted, hg]
  unfold wpOp
  simp only [ho, hwant, if_true]
  refine .inl (Oper.wp_mono (fun a' w' h' => ?_) (stepsL_at hs (i := i) (o := o) (by simpa using ho) (fun j => listed.getD j false) a w hI (by simpa [hil] using hlf) hw))
  refine ih (listed.setIfInBounds i true) a' w' (by simpa using hl) ?_ (hX _ _ a' w' (fun j => ?_) h')
  ·have hlist : listed.toList = listed.toList.take i ++ false :: listed.toList.drop (i + 1) := by
    have h2 : listed.toList[i]'(by simpa using hil) = false := by simpa using hlf
    rw [← h2]
    conv => lhs; rw [← List.take_append_drop i listed.toList]
    rw [List.drop_eq_getElem_cons (by simpa using hil)]
   have hset : (listed.setIfInBounds i true).toList = listed.toList.take i ++ true :: listed.toList.drop (i + 1) := by
    rw [Array.toList_setIfInBounds, List.set_eq_take_append_cons_drop, if_pos (by simpa using hil)]
   rw [hset]
   rw [hlist] at hc
   simp only [List.filter_append, List.length_append, List.filter_cons] at hc ⊢
   simp at hc ⊢
   omega
  ·unfold upd
   by_cases e : j = i
   ·subst e
    rw [Nat.zero_add, show Nat.beq j j = true from Nat.beq_refl j]
    simp [hil]
   ·have hne : Nat.beq j (0 + i) = false := by
     cases hb : Nat.beq j (0 + i) with
     |false => rfl
     |true => exact absurd (by have := Nat.eq_of_beq_eq_true hb; omega) e
    rw [hne, getD_set_ne false (fun h => e h.symm)]; rfl
theorem wp_region_inv {l : List Oper} (I : (Nat → Bool) → Act → World → Prop) {id : Nat} {a : Act} {w : World} (hm : P.follows .mixedOrders = true) (hB : backB .any l.toArray = true)
  (h0 : I (fun _ => false) a w.drew) (hs : stepsL P Q .any I l 0) (hE : ∀ d a w, I d a w → (∀ i, i < l.toArray.size → d i = true) → Q .normal a w) :
  (Code.region id l.toArray true).wp P Q a w := by
 have hd : (fun _ => false : Nat → Bool) = fun j => (Array.replicate l.toArray.size false).getD j false := funext fun i => by
  rcases Nat.lt_or_ge i l.length with h | h
  ·simp [h]
  ·simp [Array.getElem?_eq_none, h]
 rw [hd] at h0
 exact wp_region_any hm (wpAny_inv I hB (by simpa using hs) hE _ _ a _ (by simp) (by simp) h0)
/-- what stands in a slot -/
def oldV (a : Act) : Option Nat → Value
 |some s => a.tmps.getD s undef
 |none => undef
theorem oldV_lit (l : List Value) (ds : List Deferred) (s : Nat) : oldV { tmps := l.toArray, defers := ds } (some s) = l.getD s undef := by simp [oldV, List.getD_eq_getElem?_getD]
theorem oldV_none (a : Act) : oldV a none = undef := rfl
/-- the frame: what has come up has its value, the rest what stood there -/
def frameOf : List Oper → Nat → (Nat → Bool) → (Nat → Value) → Act → Act
 |[], _, _, _, a => a
 |o :: l, i, d, vs, a => frameOf l (i + 1) d vs (a.put o.dst (bif d i then vs i else oldV a o.dst))
def updV (vs : Nat → Value) (i : Nat) (v : Value) : Nat → Value := fun j => bif Nat.beq j i then v else vs j
theorem upd_ne {d : Nat → Bool} {i j : Nat} (h : j ≠ i) : upd d i j = d j := by
 unfold upd
 cases hb : Nat.beq j i with
 |false => rfl
 |true => exact absurd (Nat.eq_of_beq_eq_true hb) h
theorem updV_ne {vs : Nat → Value} {v : Value} {i j : Nat} (h : j ≠ i) : updV vs i v j = vs j := by
 unfold updV
 cases hb : Nat.beq j i with
 |false => rfl
 |true => exact absurd (Nat.eq_of_beq_eq_true hb) h
theorem upd_eq (d : Nat → Bool) (i : Nat) : upd d i i = true := by unfold upd; rw [show Nat.beq i i = true from Nat.beq_refl i]; rfl
theorem updV_eq (vs : Nat → Value) (i : Nat) (v : Value) : updV vs i v i = v := by unfold updV; rw [show Nat.beq i i = true from Nat.beq_refl i]; rfl
theorem frameOf_ext : ∀ (l : List Oper) (k : Nat) (d d' : Nat → Bool) (vs vs' : Nat → Value) (a : Act), (∀ j, k ≤ j → d j = d' j ∧ vs j = vs' j) → frameOf l k d vs a = frameOf l k d' vs' a
 |[], _, _, _, _, _, _, _ => rfl
 |o :: l, k, d, d', vs, vs', a, h => by
  unfold frameOf
  rw [(h k (Nat.le_refl _)).1, (h k (Nat.le_refl _)).2]
  exact frameOf_ext l (k + 1) _ _ _ _ _ (fun j hj => h j (by omega))
theorem put_comm (a : Act) {s t : Option Nat} (h : s = none ∨ t = none ∨ s ≠ t) (u v : Value) : (a.put s u).put t v = (a.put t v).put s u := by
 cases s with
 |none => rfl
 |some s =>
  cases t with
  |none => rfl
  |some t =>
   have hst : s ≠ t := by
    rcases h with h | h | h
    ·cases h
    ·cases h
    ·exact fun e => h (by rw [e])
   simp only [Act.put]
   rw [Array.setIfInBounds_comm _ _ hst]
theorem put_put (a : Act) (s : Option Nat) (u v : Value) : (a.put s u).put s v = a.put s v := by
 cases s with
 |none => rfl
 |some s =>
  simp only [Act.put]
  congr 1
  apply Array.ext_getElem?
  intro i
  simp [Array.getElem?_setIfInBounds]
theorem oldV_put (a : Act) {s t : Option Nat} (h : s = none ∨ t = none ∨ s ≠ t) (u : Value) : oldV (a.put s u) t = oldV a t := by
 cases s with
 |none => rfl
 |some s =>
  cases t with
  |none => rfl
  |some t =>
   have hst : s ≠ t := by
    rcases h with h | h | h
    ·cases h
    ·cases h
    ·exact fun e => h (by rw [e])
   simp only [oldV, Act.put]
   simp [Array.getElem?_setIfInBounds, hst]
theorem frameOf_put : ∀ (l : List Oper) (k : Nat) (d : Nat → Bool) (vs : Nat → Value) (a : Act) (s : Option Nat) (u : Value), (∀ o ∈ l, s = none ∨ o.dst = none ∨ s ≠ o.dst) → frameOf l k d vs (a.put s u) = (frameOf l k d vs a).put s u
 |[], _, _, _, _, _, _, _ => rfl
 |o :: l, k, d, vs, a, s, u, h => by
  unfold frameOf
  have h0 := h o (by simp)
  rw [oldV_put a h0, put_comm a h0]
  exact frameOf_put l (k + 1) d vs _ s u (fun o' ho => h o' (List.mem_cons_of_mem _ ho))
def distinctB : List Oper → Bool
 |[] => true
 |o :: l => (l.all fun o' => o.dst.isNone || o'.dst.isNone || !decide (o.dst = o'.dst)) && distinctB l
theorem distinct_of {o : Oper} {l : List Oper} (h : (l.all fun o' => o.dst.isNone || o'.dst.isNone || !decide (o.dst = o'.dst)) = true) : ∀ o' ∈ l, o.dst = none ∨ o'.dst = none ∨ o.dst ≠ o'.dst := fun o' ho => by
 have := List.all_eq_true.1 h o' ho
 simp only [Bool.or_eq_true, Option.isNone_iff_eq_none, Bool.not_eq_true', decide_eq_false_iff_not] at this
 rcases this with (h | h) | h
 ·exact .inl h
 ·exact .inr (.inl h)
 ·exact .inr (.inr h)
theorem frameOf_upd : ∀ (l : List Oper) (k i : Nat) (o : Oper) (d : Nat → Bool) (vs : Nat → Value) (a : Act) (v : Value), distinctB l = true → l[i]? = some o → frameOf l k (upd d (k + i)) (updV vs (k + i) v) a = (frameOf l k d vs a).put o.dst v
 |[], _, i, _, _, _, _, _, _, h => by simp at h
 |o' :: l, k, 0, o, d, vs, a, v, hd, h => by
  simp at h
  subst h
  simp only [distinctB, Bool.and_eq_true] at hd
  unfold frameOf
  simp only [Nat.add_zero]
  rw [upd_eq, updV_eq, frameOf_ext l (k + 1) (upd d k) d (updV vs k v) vs _ (fun j hj => ⟨upd_ne (by omega), updV_ne (by omega)⟩)]
  simp only [cond_true]
  have hne := distinct_of hd.1
  rw [frameOf_put l (k + 1) d vs a o'.dst v hne, frameOf_put l (k + 1) d vs a o'.dst _ hne, put_put]
 |o' :: l, k, i + 1, o, d, vs, a, v, hd, h => by
  simp only [distinctB, Bool.and_eq_true] at hd
  unfold frameOf
  rw [upd_ne (show k ≠ k + (i + 1) by omega), updV_ne (show k ≠ k + (i + 1) by omega)]
  have := frameOf_upd l (k + 1) i o d vs (a.put o'.dst (bif d k then vs k else oldV a o'.dst)) v hd.2 (by simpa using h)
  rw [show k + 1 + i = k + (i + 1) by omega] at this
  exact this
def frameB : List Oper → Nat → (Nat → Bool) → (Nat → Value) → Act → Act → Act
 |[], _, _, _, _, a => a
 |o :: l, i, d, vs, b, a => frameB l (i + 1) d vs b (a.put o.dst (bif d i then vs i else oldV b o.dst))
theorem frameOf_B : ∀ (l : List Oper) (k : Nat) (d : Nat → Bool) (vs : Nat → Value) (b a : Act), distinctB l = true → (∀ o ∈ l, oldV a o.dst = oldV b o.dst) → frameOf l k d vs a = frameB l k d vs b a
 |[], _, _, _, _, _, _, _ => rfl
 |o :: l, k, d, vs, b, a, hd, h => by
  simp only [distinctB, Bool.and_eq_true] at hd
  unfold frameOf frameB
  rw [h o (by simp)]
  refine frameOf_B l (k + 1) d vs b _ hd.2 (fun o' ho' => ?_)
  rw [oldV_put _ (distinct_of hd.1 o' ho')]
  exact h o' (List.mem_cons_of_mem _ ho')
theorem frameOf_base {l : List Oper} (hd : distinctB l = true) (d : Nat → Bool) (vs : Nat → Value) (a : Act) : frameOf l 0 d vs a = frameB l 0 d vs a a := frameOf_B l 0 d vs a a hd (fun _ _ => rfl)
def stepsF (P : Program) (Q : Exit → Act → World → Prop) (F : (Nat → Bool) → (Nat → Value) → World → Prop) (L : List Oper) (a : Act) : List Oper → Nat → Prop
 |[], _ => True
 |o :: l, i => (∀ d vs w, F d vs w → d i = false → waitsD .any o d → ∀ K : Act → World → Prop, (∀ v w', F (upd d i) (updV vs i v) w' → K ((frameOf L 0 d vs a).put o.dst v) w') → o.wp P (frameOf L 0 d vs a) w K Q) ∧ stepsF P Q F L a l (i + 1)
theorem stepsL_of_F {F : (Nat → Bool) → (Nat → Value) → World → Prop} {L : List Oper} {a : Act} (hd : distinctB L = true) : ∀ (l : List Oper) (i : Nat), (∀ j o, l[j]? = some o → L[i + j]? = some o) → stepsF P Q F L a l i → stepsL P Q .any (fun d a' w => ∃ vs, a' = frameOf L 0 d vs a ∧ F d vs w) l i
 |[], _, _, _ => trivial
 |o :: l, i, hl, hs => by
  refine ⟨fun d a' w ⟨vs, ha, hF⟩ hdi hw => ?_, stepsL_of_F hd l (i + 1) (fun j o' ho' => ?_) hs.2⟩
  ·subst ha
   refine hs.1 d vs w hF hdi hw _ (fun v w' hF' => ⟨updV vs i v, ?_, hF'⟩)
   have := frameOf_upd L 0 i o d vs a v hd (by simpa using hl 0 o (by simp))
   rw [Nat.zero_add] at this
   exact this.symm
  ·have := hl (j + 1) o' (by simpa using ho')
   rw [show i + 1 + j = i + (j + 1) by omega]; exact this
theorem frameOf_none : ∀ (l : List Oper) (k : Nat) (vs : Nat → Value) (a : Act), frameOf l k (fun _ => false) vs a = a
 |[], _, _, _ => rfl
 |o :: l, k, vs, a => by
  unfold frameOf
  simp only [cond_false]
  have : a.put o.dst (oldV a o.dst) = a := by
   cases h : o.dst with
   |none => rfl
   |some s =>
    simp only [Act.put, oldV]
    have : a.tmps.setIfInBounds s (a.tmps.getD s undef) = a.tmps := by
     apply Array.ext_getElem?
     intro i
     simp [Array.getElem?_setIfInBounds]
     intro h1
     subst h1
     by_cases h2 : s < a.tmps.size <;> simp [h2]
    rw [this]
  rw [this]
  exact frameOf_none l (k + 1) vs a
/-- F: what holds of the values and the world, by what has come up -/
theorem wp_region_facts {l : List Oper} (F : (Nat → Bool) → (Nat → Value) → World → Prop) {id : Nat} {a : Act} {w : World} (hm : P.follows .mixedOrders = true) (hB : (backB .any l.toArray && distinctB l) = true)
  (h0 : ∀ vs, F (fun _ => false) vs w.drew) (hs : stepsF P Q F l a l 0) (hE : ∀ vs w', F (fun _ => true) vs w' → Q .normal (frameOf l 0 (fun _ => true) vs a) w') (hT : ∀ d vs w', (∀ i, i < l.length → d i = true) → F d vs w' → F (fun _ => true) vs w') :
  (Code.region id l.toArray true).wp P Q a w := by
 simp only [Bool.and_eq_true] at hB
 refine wp_region_inv (fun d a' w => ∃ vs, a' = frameOf l 0 d vs a ∧ F d vs w) hm hB.1 ⟨fun _ => undef, (frameOf_none _ _ _ _).symm, h0 _⟩ (stepsL_of_F hB.2 l 0 (fun j o h => by simpa using h) hs) ?_
 rintro d a' w' ⟨vs, rfl, hF⟩ hall
 have hall' : ∀ i, i < l.length → d i = true := fun i hi => hall i (by simpa using hi)
 have := hE vs w' (hT d vs w' hall' hF)
 have key : ∀ (l' : List Oper) (k : Nat) (a : Act), (∀ i, k ≤ i → i < k + l'.length → d i = true) → frameOf l' k d vs a = frameOf l' k (fun _ => true) vs a := by
  intro l'
  induction l' with
  |nil => intro k a _; rfl
  |cons o l' ih =>
   intro k a h
   unfold frameOf
   rw [h k (Nat.le_refl _) (by simp)]
   exact ih (k + 1) _ (fun i h1 h2 => h i (by omega) (by simp; omega))
 rw [key l 0 a (fun i _ h => hall' i (by omega))]
 exact this
end
end Go.Proofs.YtbdbmmdnidonjaaDoor
