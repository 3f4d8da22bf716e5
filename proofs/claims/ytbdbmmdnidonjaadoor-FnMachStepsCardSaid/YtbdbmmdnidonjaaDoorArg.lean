/- What the reading of an argument gives: []byte, []int. No conditions. -/
import Derived.Test.YtbdbmmdnidonjaaDoorRd
set_option maxRecDepth 100000
namespace Go.Proofs.YtbdbmmdnidonjaaDoor.Arg
open Go.ChangeShapes Go.WideShapes Go.ChangeAt Go.RowKit

theorem own : ownKnob Tryd.prog.godebug = none := by kernel_rfl
theorem laidOut : laidOutB Tryd.prog = true := by kernel_rfl

theorem add_eq (b off i : Nat) : (⟨b, off, none⟩ : Addr).add i = ⟨b, off + i, none⟩ := by
  simp only [Addr.add]
  split
  · rename_i h; subst h; rfl
  · rfl

/-- what the reading of a slice of integers gives -/
theorem open_nums {t e : TypeId} {k : IntKind} (ht : Tryd.prog.underlying t = some (.slice e)) (he : Tryd.prog.underlying e = some (.int k)) (hc1 : Tryd.prog.cellsOf e = 1)
    {H : Type} {enc : TypeId × Value → H} {W : World} {base : Nat} {v : Value} {d : DataW H} {p : List MemPlace} (hval : Value.okWide Tryd.prog W .any base t v)
    (h : DataW.Trod enc Tryd.prog W 0 (fun _ => true) true t v d p) :
    ∃ a n cap, ∃ xs : List Int, v = .slice a n cap ∧ n ≤ cap ∧ cap ≤ 9223372036854775807 ∧ xs.length = n ∧ (∀ x ∈ xs, (Lit.int k x).wf = true) ∧
      (n = 0 ∨ ∃ b off, a = some ⟨b, off, none⟩ ∧ b < W.heap.size ∧ ∀ i, i < n → W.cell? ⟨b, off + i, none⟩ = some (.int k (xs.getD i 0))) := by
  obtain ⟨a0, n, cap, rfl⟩ := okWide_slice ht hval
  obtain ⟨fuel, hf⟩ := h
  rcases open_ints ht he hc1 hf with ⟨hcs, _⟩ | ⟨a, len', cap', zs, hcs, _, hl, hm, hz, _, hcell, hwz⟩
  · simp [Value.cells] at hcs
    obtain ⟨rfl, rfl, rfl⟩ := hcs
    exact ⟨none, 0, 0, [], rfl, Nat.le_refl _, by omega, rfl, by simp, .inl rfl⟩
  · simp [Value.cells] at hcs
    obtain ⟨rfl, rfl, rfl⟩ := hcs
    simp only [if_true] at hz
    unfold maxLen at hm
    have hlen : (zs.take n).length = n := by simp; omega
    refine ⟨some a, n, cap, zs.take n, rfl, hl, hm, hlen, fun x hx => hwz x (List.mem_of_mem_take hx), ?_⟩
    by_cases hn : n = 0
    · exact .inl hn
    · refine .inr ?_
      have hget : ∀ i, i < n → (zs.take n).getD i 0 = zs.getD i 0 := fun i hi => by simp [List.getD_eq_getElem?_getD, hi]
      have hc0 := hcell 0 (by omega)
      obtain ⟨b, off, sp⟩ := a
      have hsp : sp = none := by
        cases sp with
        | none => rfl
        | some x =>
          exfalso
          simp only [World.cell?, Addr.add] at hc0
          split at hc0 <;> simp at hc0
      subst hsp
      have hbl : b < W.heap.size := World.block_lt_of_cell? W ⟨b, off + 0, none⟩ hc0
      refine ⟨b, off, rfl, hbl, fun i hi => ?_⟩
      rw [hget i hi]
      have := hcell i (by omega)
      rw [add_eq] at this
      exact this

theorem cells_u8 : Tryd.prog.cellsOf 5 = 1 := by kernel_rfl
theorem open_bytes {H : Type} {enc : TypeId × Value → H} {W : World} {base : Nat} {v : Value} {d : DataW H} {p : List MemPlace} (hval : Value.okWide Tryd.prog W .any base 22 v)
    (h : DataW.Trod enc Tryd.prog W 0 (fun _ => true) true 22 v d p) :
    ∃ a n cap xs, v = .slice a n cap ∧ n ≤ cap ∧ cap ≤ 9223372036854775807 ∧ xs.length = n ∧ Bytes W W.heap.size v xs := by
  obtain ⟨a, n, cap, xs, rfl, h1, h2, h3, h4, h5⟩ := open_nums Tryd.underlying22 Tryd.underlying5 cells_u8 hval h
  refine ⟨a, n, cap, xs, rfl, h1, h2, h3, fun i hi => ?_, ?_⟩
  · have hmem : xs.getD i 0 ∈ xs := by
      rw [List.getD_eq_getElem?_getD, List.getElem?_eq_getElem (by omega)]
      exact List.getElem_mem _
    have := h4 _ hmem
    generalize xs.getD i 0 = z at *
    simp [Lit.wf, IntKind.min, IntKind.max, IntKind.signed, IntKind.bits] at this
    omega
  · rcases h5 with rfl | ⟨b, off, rfl, hb, hc⟩
    · exact .inl ⟨by cases xs <;> simp_all, a, cap, rfl⟩
    · subst h3
      exact .inr ⟨b, off, cap, rfl, h1, hb, hb, hc⟩
end Go.Proofs.YtbdbmmdnidonjaaDoor.Arg
