/- As wp_region_held, for heads on which the last operation waits through others. No program in sight. -/
import Derived.Test.YtbdbmmdnidonjaaDoorRg
set_option maxRecDepth 100000
namespace Go.Proofs.YtbdbmmdnidonjaaDoor

section
variable {P : Program} {ops : Array Oper} {Q : Exit → Act → World → Prop} {md : Region.Mode} {S : World → Prop} {e : Nat}

/-- an operation that number e waits for, and that yields its value in every world that meets S -/
theorem wpAnyT_firstU {i : Nat} {oi : Oper} {v : Value} (hi : ops[i]? = some oi) (hsel : ∀ (j : Nat) (o : Oper) cs b, ops[j]? = some o → o.op ≠ .select cs b)
    (hQ : ∀ c a w, Q (.panic c) (a.put oi.dst v) w → Q (.panic c) a w) {U : List Nat} (heU : e ∈ U) (hiU : i ∉ U) (hwait : ∀ k ∈ U, Region.waitsFor md ops k i = true ∨ ∃ k' ∈ U, Region.waitsFor md ops k k' = true) :
    ∀ (fuel : Nat) (listed : Array Bool) (a : Act) (w : World),
      (∀ j oj, ops[j]? = some oj → j ≠ i → listed.getD j true = false → (∀ e ∈ oj.after, Region.binds md e = true → e.on ≠ i) → oi.apart ops oj = true) →
      i ∈ Region.ready md ops listed → YieldsIf P ops S oi v a → S w → (∀ k ∈ U, listed.getD k false = false) →
      wpAnyT P md ops Q S e fuel (listed.setIfInBounds i true) (a.put oi.dst v) w → wpAnyT P md ops Q S e (fuel + 1) listed a w := by
  intro fuel
  induction fuel with
  | zero =>
    intro listed a w _ hr hy hS hne H
    refine ⟨fun h => (by rw [h] at hr; cases hr), fun j hj => ?_⟩
    by_cases hji : j = i
    · subst hji; exact hy.wpOp hi hS ⟨.inr hS, H⟩
    · have := ready_mono hj hji
      rw [H.1] at this
      cases this
  | succ fuel ih =>
    intro listed a w hfree hr hy hS hne H
    refine ⟨fun h => (by rw [h] at hr; cases hr), fun j hj => ?_⟩
    by_cases hji : j = i
    · subst hji; exact hy.wpOp hi hS ⟨.inr hS, H⟩
    · have h1 := H.2 j (ready_mono hj hji)
      obtain ⟨hjun, oj, hoj, hall⟩ := mem_ready.1 hj
      have hnot : ∀ e ∈ oj.after, Region.binds md e = true → e.on ≠ i := fun e he hb heq => by
        have h1 := hall e he hb
        have h0 := (mem_ready.1 hr).1
        rw [heq] at h1
        rcases Nat.lt_or_ge i listed.size with h' | h'
        · simp [h'] at h0 h1; rw [h0] at h1; cases h1
        · simp [Array.getElem?_eq_none h'] at h1
      have hie : i ≠ e := fun h => hiU (h ▸ heU)
      have hjU : j ∉ U := fun hjU => by
        rcases hwait j hjU with hw | ⟨k', hk', hw⟩
        · obtain ⟨o2, ho2, ed, hed, hb, hon⟩ := Region.waitsFor_spec hw
          have : o2 = oj := Option.some.inj (ho2.symm.trans hoj)
          subst this
          exact hnot ed hed hb hon
        · obtain ⟨o2, ho2, ed, hed, hb, hon⟩ := Region.waitsFor_spec hw
          have : o2 = oj := Option.some.inj (ho2.symm.trans hoj)
          subst this
          have h1 := hall ed hed hb
          rw [hon] at h1
          have h2 := hne k' hk'
          have hki : k' ≠ i := fun h => hiU (h ▸ hk')
          rw [h2] at h1
          cases h1
      have hje : j ≠ e := fun h => hjU (h ▸ heU)
      have h2 := wpOp_putIf hoj (hfree j oj hoj hji hjun hnot) (fun cs b => hsel i oi cs b hi) (fun cs b => hsel j oj cs b hoj) hQ hy h1
      have hfree' : ∀ k ok, ops[k]? = some ok → k ≠ i → (listed.setIfInBounds j true).getD k true = false →
          (∀ e ∈ ok.after, Region.binds md e = true → e.on ≠ i) → oi.apart ops ok = true := fun k ok hk hki hun hno => by
        refine hfree k ok hk hki ?_ hno
        by_cases hjk : j = k
        · subst hjk; exact hjun
        · rw [getD_set_ne true hjk] at hun; exact hun
      refine wpOp_mono (fun a' w' h3 => ?_) h2
      have hne' : ∀ k ∈ U, (listed.setIfInBounds j true).getD k false = false := fun k hk => by
        have hjk : j ≠ k := fun h => hjU (h ▸ hk)
        rw [getD_set_ne false hjk]; exact hne k hk
      have hS' : S w' := h3.2.1.resolve_left (by rw [getD_set_ne false hje, getD_set_ne false hie, hne e heU]; simp)
      refine ⟨.inr hS', ih (listed.setIfInBounds j true) a' w' hfree' (ready_mono hr (Ne.symm hji)) h3.1 hS' hne' ?_⟩
      rw [Array.setIfInBounds_comm _ _ hji]
      exact h3.2.2


/-- what comes behind number i, through one another -/
def behindOf (md : Region.Mode) (ops : Array Oper) (i : Nat) : Nat → List Nat
  | 0 => (List.range ops.size).filter fun k => Region.waitsFor md ops k i
  | n + 1 => (List.range ops.size).filter fun k => Region.waitsFor md ops k i || (behindOf md ops i n).any fun k' => Region.waitsFor md ops k k'
def chainBU (md : Region.Mode) (ops : Array Oper) (e i : Nat) (listed : Array Bool) (U : List Nat) : Bool :=
  U.contains e && !U.contains i && U.all (fun k => Region.waitsFor md ops k i || U.any fun k' => Region.waitsFor md ops k k') && U.all fun k => !(listed.getD k false)
def chainB (md : Region.Mode) (ops : Array Oper) (e i : Nat) (listed : Array Bool) : Bool := chainBU md ops e i listed (behindOf md ops i 4)
theorem chainB_spec {i : Nat} {listed : Array Bool} (h : chainB md ops e i listed = true) :
    e ∈ behindOf md ops i 4 ∧ i ∉ behindOf md ops i 4 ∧ (∀ k ∈ behindOf md ops i 4, Region.waitsFor md ops k i = true ∨ ∃ k' ∈ behindOf md ops i 4, Region.waitsFor md ops k k' = true) ∧ ∀ k ∈ behindOf md ops i 4, listed.getD k false = false := by
  unfold chainB chainBU at h
  generalize behindOf md ops i 4 = U at *
  simp only [Bool.and_eq_true, Bool.not_eq_true', List.all_eq_true, Bool.or_eq_true, List.any_eq_true] at h
  obtain ⟨⟨⟨h1, h2⟩, h3⟩, h4⟩ := h
  refine ⟨by simpa using h1, by simpa using h2, h3, h4⟩
def headsBU (md : Region.Mode) (ops : Array Oper) (e : Nat) : List (Nat × Bool) → Array Bool → Bool
  | [], _ => true
  | (i, b) :: is, listed => (Region.ready md ops listed).contains i && Region.free md ops listed i && (!b || chainB md ops e i listed) && decide (i ≠ e) && !(listed.getD e false) && headsBU md ops e is (listed.setIfInBounds i true)

theorem wpAnyT_headsU {fuel : Nat} {w : World} (hsel : Region.noSelect ops = true) (hQ : ∀ d v c a w, Q (.panic c) (Act.put a d v) w → Q (.panic c) a w) (hS : S w) :
    ∀ (is : List (Nat × Bool)) (listed : Array Bool) (a : Act), headsBU md ops e is listed = true →
      heldL P ops S (fun a' => wpAnyT P md ops Q S e fuel (listAll is listed) a' w) is a → wpAnyT P md ops Q S e (fuel + is.length) listed a w
  | [], _, _, _, h => h
  | (i, b) :: is, listed, a, hB, ⟨o, v, ho, ⟨hw, hy⟩, h⟩ => by
    simp only [headsBU, Bool.and_eq_true, decide_eq_true_eq, Bool.not_eq_true', Bool.or_eq_true] at hB
    obtain ⟨⟨⟨⟨⟨hr, hf⟩, hwt⟩, hie⟩, hne⟩, hB'⟩ := hB
    rw [List.length_cons, ← Nat.add_assoc]
    have hrest := wpAnyT_headsU hsel hQ hS is _ _ hB' h
    cases b with
    | true =>
      have hU := chainB_spec (hwt.resolve_left (by simp))
      exact wpAnyT_firstU ho (Region.noSelect_spec hsel) (hQ _ _) hU.1 hU.2.1 hU.2.2.1 _ listed a w (Region.free_spec ho hf) (by simpa using hr) (.inl ⟨hw, fun w hS => hy w (fun _ => hS)⟩) hS hU.2.2.2 hrest
    | false => exact wpAnyT_firstY ho (Region.noSelect_spec hsel) (hQ _ _) hie _ listed a w (Region.free_spec ho hf) (by simpa using hr) (.inl ⟨hw, fun w => hy w (by simp)⟩) (.inr hS) hrest

def heldTailBU (md : Region.Mode) (ops : Array Oper) (is : List (Nat × Bool)) (ts : List Nat) (e : Nat) : Bool :=
  Region.noSelect ops && headsBU md ops e is (Array.replicate ops.size false) && tailB md ops e ts (listAll is (Array.replicate ops.size false)) && decide (ts.length + is.length = ops.size)

theorem wp_region_heldTailU (S : World → Prop) (is : List (Nat × Bool)) (ts : List Nat) (e : Nat) {id : Nat} {a : Act} {w : World} (hm : P.follows .mixedOrders = true) (hB : heldTailBU .any ops is ts e = true)
    (hQ : ∀ d v c a w, Q (.panic c) (Act.put a d v) w → Q (.panic c) a w) (hS : S w.drew)
    (h : heldL P ops S (fun a' => tailT P ops Q S e ts a' w.drew) is a) : (Code.region id ops true).wp P Q a w := by
  simp only [heldTailBU, Bool.and_eq_true, decide_eq_true_eq] at hB
  obtain ⟨⟨⟨h1, h2⟩, h3⟩, h4⟩ := hB
  refine wp_region_any hm (wpAny_of_T (S := S) (e := e) _ _ _ _ ?_)
  have := wpAnyT_headsU (P := P) (Q := Q) (fuel := ts.length) (w := w.drew) (md := .any) (e := e) h1 hQ hS is (Array.replicate ops.size false) a h2
  rw [h4] at this
  refine this ?_
  clear this
  generalize listAll is (Array.replicate ops.size false) = li at h3 ⊢
  have key : ∀ (is : List (Nat × Bool)) (a : Act), heldL P ops S (fun a' => tailT P ops Q S e ts a' w.drew) is a → heldL P ops S (fun a' => wpAnyT P .any ops Q S e ts.length li a' w.drew) is a := by
    intro is
    induction is with
    | nil => intro a h; exact wpAnyT_tail ts li a w.drew h3 h
    | cons i is ih => intro a ⟨o, v, ho, hy, h⟩; exact ⟨o, v, ho, hy, ih _ h⟩
  exact key is a h

theorem wp_region_chain {l : List Oper} (S : World → Prop) (is : List (Nat × Bool)) (ts : List Nat) (e : Nat) {id : Nat} {a : Act} {w : World} (hm : P.follows .mixedOrders = true)
    (hB : (heldTailBU .any l.toArray is ts e && (is.all fun p => decide (p.1 < l.toArray.size)) && (ts.all fun t => decide (t < l.toArray.size)) && decide (ts.getLast? = some e)) = true)
    (hQ : ∀ d v c a w, Q (.panic c) (Act.put a d v) w → Q (.panic c) a w) (hS : S w.drew)
    (h : heldO P l.toArray S (fun a' => tailO P l.toArray Q S (ts.map fun t => l.getD t default) a' w.drew) (pickO l is) a) : (Code.region id l.toArray true).wp P Q a w := by
  simp only [Bool.and_eq_true, decide_eq_true_eq] at hB
  obtain ⟨⟨⟨h1, h2⟩, h3⟩, h4⟩ := hB
  refine wp_region_heldTailU S is ts e hm h1 hQ hS (heldL_of_O is a h2 ?_)
  have key : ∀ (os : List (Oper × Bool)) (a : Act), heldO P l.toArray S (fun a' => tailO P l.toArray Q S (ts.map fun t => l.getD t default) a' w.drew) os a → heldO P l.toArray S (fun a' => tailT P l.toArray Q S e ts a' w.drew) os a := by
    intro os
    induction os with
    | nil => intro a h; exact tailT_of_O ts a w.drew h3 (fun t ht => by rw [h4] at ht; exact (Option.some.inj ht).symm) h
    | cons o os ih => intro a ⟨v, hy, h⟩; exact ⟨v, hy, ih _ h⟩
  exact key _ a h
end

end Go.Proofs.YtbdbmmdnidonjaaDoor
