/- FnOrderWord: the row. No conditions. -/
import Derived.Test.YtgmeobjcbgcofaaOwLaw
namespace Go.Proofs.Ytgmeobjcbgcofaa.OwFin
open Go.ChangeShapes Go.WideShapes Go.ChangeAt Go.RowKit

theorem own : ownKnob Try.prog.godebug = none := by kernel_rfl
theorem laidOut : laidOutB Try.prog = true := by kernel_rfl
theorem cells_u8 : Try.prog.cellsOf 5 = 1 := by kernel_rfl

/-- what the reading of a []byte gives -/
theorem open_bytes {H : Type} {enc : TypeId × Value → H} {W : World} {base : Nat} {v : Value} {d : DataW H} {p : List MemPlace} (hval : Value.okWide Try.prog W .any base 24 v)
    (h : DataW.Trod enc Try.prog W 0 (fun _ => true) true 24 v d p) :
    ∃ a n cap xs, v = .slice a n cap ∧ n ≤ cap ∧ cap ≤ 9223372036854775807 ∧ xs.length = n ∧ Bytes W W.heap.size v xs := by
  obtain ⟨a0, n, cap, rfl⟩ := okWide_slice Try.underlying24 hval
  obtain ⟨fuel, hf⟩ := h
  rcases open_ints Try.underlying24 Try.underlying5 cells_u8 hf with ⟨hcs, _⟩ | ⟨a, len', cap', zs, hcs, _, hl, hm, hz, _, hcell, hwz⟩
  · simp [Value.cells] at hcs
    obtain ⟨rfl, rfl, rfl⟩ := hcs
    exact ⟨none, 0, 0, [], rfl, Nat.le_refl _, by omega, rfl, fun i hi => by simp at hi, .inl ⟨rfl, none, 0, rfl⟩⟩
  · simp [Value.cells] at hcs
    obtain ⟨rfl, rfl, rfl⟩ := hcs
    simp only [if_true] at hz
    unfold maxLen at hm
    by_cases hn : n = 0
    · subst hn
      exact ⟨some a, 0, cap, [], rfl, hl, hm, rfl, fun i hi => by simp at hi, .inl ⟨rfl, some a, cap, rfl⟩⟩
    · have hlen : (zs.take n).length = n := by simp; omega
      have hget : ∀ i, i < n → (zs.take n).getD i 0 = zs.getD i 0 := fun i hi => by simp [List.getD_eq_getElem?_getD, hi]
      have hc0 := hcell 0 (by omega)
      obtain ⟨b, off, sp⟩ := a
      have hsp : sp = none := by
        cases sp with
        | none => rfl
        | some x =>
          exfalso
          simp only [World.cell?, Addr.add] at hc0
          split at hc0 <;> simp at hc0
      subst hsp
      have hbl : b < W.heap.size := World.block_lt_of_cell? W ⟨b, off + 0, none⟩ hc0
      refine ⟨_, n, cap, zs.take n, rfl, hl, hm, hlen, fun i hi => ?_, .inr ⟨b, off, cap, by rw [hlen], by omega, hbl, hbl, fun i hi => ?_⟩⟩
      · rw [hlen] at hi
        rw [hget i hi]
        have hmem : zs.getD i 0 ∈ zs := by
          rw [List.getD_eq_getElem?_getD, List.getElem?_eq_getElem (by omega)]
          exact List.getElem_mem _
        have := hwz _ hmem
        generalize zs.getD i 0 = z at *
        simp [Lit.wf, IntKind.min, IntKind.max, IntKind.signed, IntKind.bits] at this
        omega
      · rw [hlen] at hi
        rw [hget i hi]
        have := hcell i (by omega)
        have e : (⟨b, off, none⟩ : Addr).add i = ⟨b, off + i, none⟩ := by
          simp only [Addr.add]
          split
          · rename_i h; subst h; rfl
          · rfl
        rw [e] at this
        exact this

theorem law (a : Option Addr) (n cap : Nat) (xs : List Int) (w : World) (hn : n ≤ cap) (hc : cap ≤ 9223372036854775807) (hb : Bytes w w.heap.size (.slice a n cap) xs) :
    Calls Try.prog 4 #[.slice a n cap] w fun e w' => e = .returned (.bool true) ∧ Below w.heap.size w w' := by
  by_cases h : n ≤ 1048576
  · exact OwLaw.law_small _ n w xs ⟨a, cap, rfl⟩ h (fun _ _ _ h => by injection h with _ _ h; omega) hb
  · exact OwLaw.law_big a n cap w (by omega) (by omega)

set_option maxRecDepth 100000 in
theorem lifted (os : Os) (started : os.Started) (H : Type) (enc : TypeId × Value → H) :
    ReturnsInHanded {} Try.checked os 4 .any (Rows.fnOrderWordSpec.pre6 enc Try.prog Try.f4 Rows.fnOrderWordRow.domain false) (Rows.fnOrderWordSpec.post enc Try.prog Try.f4 false true false false) := by
  refine returnsInHanded_of_change (C := Try.checked) own started (by kernel_rfl) Try.func4
    (ChangeSpec.witness6 (enc := enc) (C := Try.checked) false ⟨#[], #[.slice none 0 0], []⟩ 8 (by kernel_rfl) (by kernel_rfl) (by kernel_rfl) (by kernel_rfl)) ?_
  intro W base args ds gs before hval0 hW _ _
  have hval : ∀ (j : Nat) t v, Try.f4.params[j]? = some t → args[j]? = some v → Value.okWide Try.prog W .any base t v := hval0
  have hW' := hW
  obtain ⟨p, q, hA0, hV, rfl, hfz, hnd⟩ := hW
  have hA : DataW.TrodAll enc Try.prog W 0 (fun _ => true) true Try.f4.params.toList args.toList ds p := hA0
  rw [Try.params4] at hA hval
  obtain ⟨v0, vs0, d0, ds0, p0, q0, hargs, rfl, rfl, h0, r0⟩ := trodAll_cons hA
  obtain ⟨rfl, rfl, rfl⟩ := trodAll_nil r0
  obtain rfl : args = #[v0] := by cases args; simp_all
  obtain ⟨a, n, cap, xs, rfl, hn, hc, _, hb⟩ := open_bytes (hval 0 24 v0 rfl rfl) h0
  refine (law a n cap xs W hn hc hb).mono fun e W' ⟨he, hg⟩ => ?_
  subst he
  exact ⟨_, rfl, Lw.law_post laidOut rfl (by rw [Try.params4]; decide +kernel) (tb := 4) rfl Try.underlying4 rfl hW' hg⟩

theorem holds : Rows.FnOrderWordSaid :=
  OpenClaim.holds_of_wide 4 Try.f4 rfl rfl rfl rfl rfl rfl rfl ⟨rfl, rfl, rfl, rfl, rfl⟩ rfl rfl rfl rfl rfl (by kernel_rfl) Try.func4 (by kernel_rfl)
    (of_decide_eq_true (by kernel_rfl)) (by unfold Func.isWrapper; first | (rw [if_pos (by decide +kernel)]; kernel_rfl) | (rw [if_neg (by decide +kernel)]; exact ⟨rfl, rfl⟩))
    (fun os started H enc _ => lifted os started H enc)

end Go.Proofs.Ytgmeobjcbgcofaa.OwFin
