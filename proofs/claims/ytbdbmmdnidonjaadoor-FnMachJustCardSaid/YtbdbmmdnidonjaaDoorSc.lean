/- A call of a function of the machine in spec: what its beginning makes. -/
import Derived.Test.YtbdbmmdnidonjaaDoorPe
import Derived.Test.YtbdbmmdnidonjaaDoorRu
import Derived.Test.YtbdbmmdnidonjaaDoorNd
import Derived.Test.YtbdbmmdnidonjaaDoorMok
import Derived.Laws.CopyOwn
import Derived.Deep.CutRange
set_option maxRecDepth 100000
namespace Go.Proofs.YtbdbmmdnidonjaaDoor
open Go.RowKit

def SNew (w : World) (slo : Nat) (p : Ps) (wx : World) : Prop :=
  Below w.heap.size w wx ∧ (∀ q, p.has q → w.heap.size ≤ q) ∧ p.Apart ∧ Blk wx p.p0 (mkSc p slo 0) ∧ Blk wx p.p1 (nats (List.replicate 8 0)) ∧ Blk wx p.p2 (nats (List.replicate slo 0)) ∧ Blk wx p.p3 (nats (List.replicate 3 0)) ∧ Blk wx p.p4 (nats (List.replicate 3 0))

theorem Blk.newAt {X : World} {p : Nat} {cs : Array Value} {t : TypeId} {xs : List Value} (h : p = X.heap.size) (hx : cs.toList = xs) : Blk (X.alloc (.cells cs t)) p xs := by
  subst h; subst hx; exact Blk.new _ _ _
theorem made_nats (n : Nat) : (madeCells (Value.int .i64 0).cells n).toList = nats (List.replicate n 0) := by rw [← nats_zeros]; exact toList_madeCells_one _ _
theorem Blk.setRow {w : World} {p : Nat} {xs : List Value} (h : Blk w p xs) (cs : Array Value) : Blk (w.setRow p cs) p cs.toList := by
  obtain ⟨cur, t, h, _⟩ := h
  exact ⟨cs, t, by simp [World.setRow, Array.getElem?_modify, h], rfl⟩
theorem Blk.otherRow {w : World} {p q : Nat} {xs : List Value} (h : Blk w p xs) (hq : p ≠ q) (cs : Array Value) : Blk (w.setRow q cs) p xs := h.same (setRow_other w q p cs hq)

def SRunPost (B pr cb : Nat) (mv : Value) (sv : Value) (r : Rs) (w : World) (e : Ending) (w' : World) : Prop :=
  match r with
  | .ret v s2 => ∃ sv', e = .returned (.int .i64 (v : Int)) ∧ RunAt B w' pr cb mv none s2 sv' ∧ Fr [pr, cb] sv w sv' w'
  | .stop en s2 => ∃ sv', e = .returned (.int .i64 0) ∧ RunAt B w' pr cb mv (some en) s2 sv' ∧ Fr [pr, cb] sv w sv' w'

/-- in the loop of a call: a run that goes on, or one that is over -/
def SRel (P : Pg) (R : Rs) (B pr cb : Nat) (mv : Value) (T k : Nat) (p : Ps) (par slo len : Nat) (sv0 : Value) (w2 : World) (g : Nat) (atv : Value) (wr : World) : Prop :=
  (∃ g' a l s sv, g' ≤ g ∧ atv = .int .i64 ((a : Nat) : Int) ∧ a < len ∧ loop P g' k a l s = R ∧ s.left < g' ∧ RunAt B wr pr cb mv none s sv ∧ SCall wr pr cb sv p par l ∧ LcOk par slo l ∧ CmOk s ∧ Fr ([pr, cb] ++ [p.p0, p.p1, p.p2, p.p3]) sv0 w2 sv wr ∧ s.said.length + s.left ≤ T) ∨
  (∃ a en s sv, atv = .int .i64 ((a : Nat) : Int) ∧ R = .stop en s ∧ RunAt B wr pr cb mv (some en) s sv ∧ Fr ([pr, cb] ++ [p.p0, p.p1, p.p2, p.p3]) sv0 w2 sv wr)

theorem sRunPost_of {B pr cb : Nat} {mv : Value} {sv sv' : Value} {w w2 wr : World} {p : Ps} {s : Cm} (hb : Below w.heap.size w w2) (hF : Fr ([pr, cb] ++ [p.p0, p.p1, p.p2, p.p3]) sv w2 sv' wr) (hp : ∀ q, p.has q → w.heap.size ≤ q) :
    (∀ v, RunAt B wr pr cb mv none s sv' → SRunPost B pr cb mv sv (.ret v s) w (.returned (.int .i64 (v : Int))) wr) ∧ (∀ en, RunAt B wr pr cb mv (some en) s sv' → SRunPost B pr cb mv sv (.stop en s) w (.returned (.int .i64 0)) wr) := by
  have hfr : Fr [pr, cb] sv w sv' wr := (Fr.below hb : Fr [pr, cb] sv w sv w2).transNew hF (fun x hx => hp x (by
    simp at hx
    rcases hx with h | h | h | h
    · exact .inl h
    · exact .inr (.inl h)
    · exact .inr (.inr (.inl h))
    · exact .inr (.inr (.inr (.inl h)))))
  exact ⟨fun v h => ⟨sv', rfl, h, hfr⟩, fun en h => ⟨sv', rfl, h, hfr⟩⟩

/-- the measure: the steps that are left, and one if the run is not over -/
def sleft (pr : Nat) (w : World) : Nat := (intOf ((w.cell? ⟨pr, 5, none⟩).getD (.int .i64 0))).toNat + (match w.cell? ⟨pr, 6, none⟩ with | some (.bool true) => 0 | _ => 1)
theorem sleft_at {B pr cb : Nat} {mv : Value} {en : Option Nat} {s : Cm} {sv : Value} {w : World} (h : RunAt B w pr cb mv en s sv) : sleft pr w = s.left + (if en.isSome then 0 else 1) := by
  obtain ⟨_, _, _, _, _, h5, h6, _⟩ := runCells h
  unfold sleft
  rw [h5, h6]
  cases en <;> simp [intOf]

end Go.Proofs.YtbdbmmdnidonjaaDoor
