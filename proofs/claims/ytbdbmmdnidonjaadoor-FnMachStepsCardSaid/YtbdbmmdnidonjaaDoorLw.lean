/- How a law closes: the call answers true and leaves what was there as it was. No conditions. -/
import Derived.Test.YtbdbmmdnidonjaaDoorRows
import Derived.WalkKit
import Derived.ProofKit
import Derived.OpenShut
import Derived.JoinedCond
namespace Go.Proofs.YtbdbmmdnidonjaaDoor.Lw
open Go.ChangeShapes Go.WideShapes Go.ChangeAt Go.RowKit

theorem trodAll_below {H : Type} {enc : TypeId × Value → H} {P : Program} (hl : laidOutB P = true) {W W' : World} (hb : Below W.heap.size W W') :
    ∀ (ts : List TypeId), (∀ t ∈ ts, P.readableRec t = true ∧ t < P.types.size) → ∀ (vs : List Value) (ds : List (DataW H)) (ps : List MemPlace),
    DataW.TrodAll enc P W 0 (fun _ => true) true ts vs ds ps → (∀ x ∈ ps, x.block < W.heap.size) →
    DataW.TrodAll enc P W' 0 (fun b => decide (b < W.heap.size)) true ts vs ds ps
  | [], _, [], [], _, h, _ => h
  | [], _, _ :: _, _, _, h, _ => by simp [DataW.TrodAll] at h
  | [], _, [], _ :: _, _, h, _ => by simp [DataW.TrodAll] at h
  | _ :: _, _, [], _, _, h, _ => by simp [DataW.TrodAll] at h
  | _ :: _, _, _ :: _, [], _, h, _ => by simp [DataW.TrodAll] at h
  | t :: ts, hr, v :: vs, d :: ds, ps, h, hlt => by
    obtain ⟨p, q, h1, h2, rfl⟩ := h
    refine ⟨p, q, ?_, trodAll_below hl hb ts (fun t ht => hr t (List.mem_cons_of_mem _ ht)) vs ds q h2 (fun x hx => hlt x (List.mem_append_right _ hx)), rfl⟩
    exact Below.trod hl (hr t (List.mem_cons_self ..)).1 (hr t (List.mem_cons_self ..)).2 h1 hb (fun x hx => hlt x (List.mem_append_left _ hx))

/-- The post of a law: one bool, true; the arguments as they were. -/
theorem law_post {H : Type} {enc : TypeId × Value → H} {P : Program} (hl : laidOutB P = true) {f : Func} {s : ChangeSpec} {W W' : World} {args : Array Value} {ds gs : List (DataW H)} {before : List MemPlace}
    (hv : s.vars = []) (hr : ∀ t ∈ f.params.toList, P.readableRec t = true ∧ t < P.types.size) {tb : TypeId} (hres : f.resultTypes = #[tb]) (htb : P.underlying tb = some .bool)
    (hs : s.fn H ds = { results := [.lit (.bool true)], args := ds })
    (hW : DataW.Whole enc P f.params.toList s.vars false W args.toList ds gs before) (hb : Below W.heap.size W W') :
    s.post enc P f false true false false W args (.bool true) W' := by
  have hW0 := hW
  obtain ⟨p, q, hA, hV, rfl, hz, hn⟩ := hW
  rw [hv] at hV
  obtain ⟨rfl, rfl⟩ := trodVars_none hV
  have hlt := hW0.lt
  simp only [List.append_nil] at hW0 hlt
  refine ⟨ds, [], p, [], p, [], by simpa using hW0, ?_, ?_, ?_, hb.frame _, fun h => by cases h⟩
  · rw [List.append_nil, hs, hres]
    exact ⟨[], [], shut_bool htb true, trodAll_mk0, rfl⟩
  · rw [List.append_nil, hs]
    exact trodAll_below hl hb _ hr _ _ _ hA hlt
  · rw [List.append_nil, hs, hv]
    rfl

end Go.Proofs.YtbdbmmdnidonjaaDoor.Lw
