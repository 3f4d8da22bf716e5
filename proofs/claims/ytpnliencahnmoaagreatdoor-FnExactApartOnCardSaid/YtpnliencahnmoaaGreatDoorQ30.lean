/- FnExactApartOn: the row and the card: it answers true for all two programs. No conditions beyond the row's own: the listed variables read as laid, which the card ties to the program's text. -/
import Derived.Test.YtpnliencahnmoaaGreatDoorCards
import Derived.Test.YtpnliencahnmoaaGreatDoorTie
import Derived.Test.YtpnliencahnmoaaGreatDoorQ28
import Derived.Test.YtpnliencahnmoaaGreatDoorQ29
import Derived.Test.YtpnliencahnmoaaGreatDoorQ1
import Derived.Deep.DeepHandedRow
import Derived.Deep.DeepWitnessRowRef
import Derived.Lib.LaidTab
set_option linter.unusedVariables false
set_option linter.unusedSimpArgs false
set_option maxRecDepth 100000
set_option linter.unusedVariables false
namespace Go.Proofs.YtpnliencahnmoaaGreatDoor.FinAp
open Go.ChangeShapes Go.WideShapes Go.ChangeAt Go.RowKit
theorem tab {W : World} (h : laidMetH Tryz.prog Rows.fnExactApartOnRow.laid W) : KS W ∧ TriesAt W := Lv.tables_of (show laidMet Tryz.prog Rows.fnExactApartOnRow.laid W from h)
theorem law (w : World) (va vb : Value) (fa fb : List Fx) (hA : FxsAt w va fa) (hB : FxsAt w vb fb) (hWa : FxsW fa) (hWb : FxsW fb) (ht : KS w ∧ TriesAt w) :
    Calls Tryz.prog 3 #[.agg #[va], .agg #[vb]] w fun e w' => e = .returned (.bool true) ∧ Below w.heap.size w w' := apartLaw w va vb fa fb ht.1 ht.2 hWa hWb hA hB
theorem contract (H : Type) (enc : TypeId × Value → H) (W : World) (base : Nat) (args : Array Value) (ds gs : List (DataW H)) (before : List MemPlace)
    (hval : ∀ (j : Nat) t v, Tryz.f3.params[j]? = some t → args[j]? = some v → Value.okWide Tryz.prog W .any base t v)
    (hW : DataW.Whole enc Tryz.prog Tryz.f3.params.toList Rows.fnExactApartOnSpec.vars false W args.toList ds gs before) (hL : laidMetH Tryz.prog Rows.fnExactApartOnRow.laid W) (hSh : W.ShapedOpen Tryz.prog)
    (hsz : (DataW.weightsEach Tryz.prog (Tryz.f3.params.toList ++ (OpenSpec.ofChange Rows.fnExactApartOnSpec).bare.plain.varTypes Tryz.prog) (ds ++ gs)).all (· ≤ reachBytes) = true) :
    Calls Tryz.prog 3 args W fun e W' => ∃ v, e = .returned v ∧ Rows.fnExactApartOnSpec.post enc Tryz.prog Tryz.f3 false true false false W args v W' := by
  have hW' := hW
  obtain ⟨p, q, hA0, hV, rfl, hfz, hnd⟩ := hW
  have hA : DataW.TrodAll enc Tryz.prog W 0 (fun _ => true) true Tryz.f3.params.toList args.toList ds p := hA0
  rw [Tryz.params3] at hA hval hsz
  obtain ⟨v0, vs0, d0, ds0, p0, q0, hargs0, rfl, rfl, h0, r0⟩ := trodAll_cons hA
  obtain ⟨v1, vs1, d1, ds1, p1, q1, hargs1, rfl, rfl, h1, r1⟩ := trodAll_cons r0
  obtain ⟨rfl, rfl, rfl⟩ := trodAll_nil r1
  obtain rfl : args = #[v0, v1] := by cases args; simp_all
  obtain ⟨c0, fa, rfl, hXa, hFa⟩ := Lv.open_prog (hval 0 24 v0 rfl rfl) h0 (Lv.ok_at hsz (j := 0) rfl rfl)
  obtain ⟨c1, fb, rfl, hXb, hFb⟩ := Lv.open_prog (hval 1 24 v1 rfl rfl) h1 (Lv.ok_at hsz (j := 1) rfl rfl)
  refine (law W c0 c1 fa fb hXa hXb hFa hFb (tab hL)).mono fun e W' ⟨he, hg⟩ => ?_
  subst he
  obtain ⟨dg0, dg1, dg2, rfl⟩ := Lv.gs_three hW'
  exact ⟨_, rfl, Lv.law_postv Arg.laidOut (by kernel_rfl) (by rw [Tryz.params3]; decide +kernel) (tb := 4) rfl Tryz.underlying4 rfl hW' hg⟩
def setVar (h : Array Obj) (g : Nat) (cs : Array Value) : Array Obj := h.modify g fun
  | .cells _ t frozen => .cells cs t frozen
  | o => o
noncomputable def low : Nat := (World.holding Tryz.prog default ⟨#[], #[], []⟩).heap.size
noncomputable def laidWorld (os : Os) : World :=
  { World.holding Tryz.prog os ⟨#[.map #[⟨.int .i64 3, .agg #[.string ⟨#[43]⟩, .int .i64 3], 0⟩, ⟨.int .i64 4, .agg #[.string ⟨#[45]⟩, .int .i64 3], 1⟩, ⟨.int .i64 5, .agg #[.string ⟨#[42]⟩, .int .i64 4], 2⟩, ⟨.int .i64 6, .agg #[.string ⟨#[47]⟩, .int .i64 4], 3⟩, ⟨.int .i64 7, .agg #[.string ⟨#[37]⟩, .int .i64 4], 4⟩, ⟨.int .i64 8, .agg #[.string ⟨#[60]⟩, .int .i64 2], 5⟩, ⟨.int .i64 9, .agg #[.string ⟨#[61]⟩, .int .i64 2], 6⟩, ⟨.int .i64 10, .agg #[.string ⟨#[38]⟩, .int .i64 1], 7⟩] 8], #[], []⟩ with heap := (setVar (setVar (setVar (World.holding Tryz.prog os ⟨#[.map #[⟨.int .i64 3, .agg #[.string ⟨#[43]⟩, .int .i64 3], 0⟩, ⟨.int .i64 4, .agg #[.string ⟨#[45]⟩, .int .i64 3], 1⟩, ⟨.int .i64 5, .agg #[.string ⟨#[42]⟩, .int .i64 4], 2⟩, ⟨.int .i64 6, .agg #[.string ⟨#[47]⟩, .int .i64 4], 3⟩, ⟨.int .i64 7, .agg #[.string ⟨#[37]⟩, .int .i64 4], 4⟩, ⟨.int .i64 8, .agg #[.string ⟨#[60]⟩, .int .i64 2], 5⟩, ⟨.int .i64 9, .agg #[.string ⟨#[61]⟩, .int .i64 2], 6⟩, ⟨.int .i64 10, .agg #[.string ⟨#[38]⟩, .int .i64 1], 7⟩] 8], #[], []⟩).heap 1 #[.string ⟨#[102, 110]⟩, .string ⟨#[108, 101, 116]⟩, .string ⟨#[115, 97, 121]⟩, .string ⟨#[112, 117, 116]⟩, .string ⟨#[105, 102]⟩, .string ⟨#[101, 108, 115, 101]⟩, .string ⟨#[108, 111, 111, 112]⟩, .string ⟨#[98, 97, 99, 107]⟩, .string ⟨#[100, 111]⟩]) 2 #[.map (some (low + 0))]) 0 #[.int .i64 0, .int .i64 0, .int .i64 0, .int .i64 1, .int .i64 2, .int .i64 3, .int .i64 255, .int .i64 16, .int .i64 7]) }
theorem laid_met (os : Os) : laidMet Tryz.prog Rows.fnExactApartOnRow.laid ((laidWorld os).forCall (fun _ _ => 0) ⟨#[], #[.agg #[.slice none 0 0], .agg #[.slice none 0 0]], []⟩).memory :=
  laidMet_of_run' 8 (by kernel_rfl) (by kernel_rfl)
theorem reads (os : Os) {H : Type} (enc : TypeId × Value → H) : ∃ places, DataW.whole enc Tryz.prog ((laidWorld os).forCall (fun _ _ => 0) ⟨#[], #[.agg #[.slice none 0 0], .agg #[.slice none 0 0]], []⟩).memory Tryz.f3.params.toList Rows.fnExactApartOnSpec.vars false (#[.agg #[.slice none 0 0], .agg #[.slice none 0 0]] : Array Value).toList 8 = some ([.agg [.nil], .agg [.nil]], [Rows.laid_loop_example_wholeway_impl_keys, Rows.laid_loop_example_wholeway_impl_opSign, Rows.laid_loop_example_wholeway_impl_tries], places) :=
  ⟨MemPlace.row ⟨1, 0, none⟩ 9 ++ MemPlace.row ⟨2, 0, none⟩ 1 ++ [MemPlace.map low] ++ MemPlace.row ⟨0, 0, none⟩ 9, by kernel_rfl⟩
set_option maxRecDepth 100000 in
theorem lifted (os : Os) (started : os.Started) (H : Type) (enc : TypeId × Value → H) (F : Stop.Interp) :
    ReturnsInHanded {} Tryz.checked os 3 .any ((OpenSpec.ofChange Rows.fnExactApartOnSpec).preRow enc Tryz.prog Tryz.f3 Rows.fnExactApartOnRow.domain false Rows.fnExactApartOnRow.laid) (((OpenSpec.ofChange Rows.fnExactApartOnSpec).at F).post enc Tryz.prog Tryz.f3 false true false false) := by
  obtain ⟨places, hx⟩ := reads os enc
  refine returnsInHanded_of_row (C := Tryz.checked) (s := OpenSpec.ofChange Rows.fnExactApartOnSpec) Arg.own started (by kernel_rfl) Tryz.func3
    (witness_row_atRef (enc := enc) (C := Tryz.checked) false (laidWorld os) #[.agg #[.slice none 0 0], .agg #[.slice none 0 0]] rfl (by kernel_rfl) (by kernel_rfl) (by kernel_rfl)
      (OpenSpec.preRow_of_cond 8 hx (by kernel_rfl) (fun k hk => by cases hk) (by kernel_rfl) (laid_met os))) ?_
  intro W base args ds gs before hval hW _ _ hsz hL hSh _
  exact contract H enc W base args ds gs before hval hW hL hSh hsz
theorem said : Rows.FnExactApartOnSaid :=
  OpenClaim.holds_of_cond 3 Tryz.f3 rfl rfl rfl rfl rfl rfl rfl ⟨rfl, rfl, rfl, rfl, rfl⟩ rfl rfl rfl rfl rfl (by kernel_rfl) Tryz.func3 (by kernel_rfl)
    (of_decide_eq_true (by kernel_rfl)) (by unfold Func.isWrapper; first | (rw [if_pos (by decide +kernel)]; kernel_rfl) | (rw [if_neg (by decide +kernel)]; exact ⟨rfl, rfl⟩))
    (fun os started H enc _ F => by rw [OpenClaim.pre_eq_preRow]; exact lifted os started H enc F)
theorem plain (f : FuncId) (fn : Func) (hf : Tryz.pinned.checked.prog.funcNamed "loop.example/wholeway/laws.FnExactApartOn" = some f) (hfn : Tryz.pinned.checked.prog.funcs[f]? = some fn) :
    true = Tryz.pinned.checked.prog.looks [] ∧ ∀ (j : Nat) t, fn.params[j]? = some t → Tryz.pinned.checked.prog.wantsStandIn t = false := by
  obtain rfl : f = 3 := Option.some.inj ((show Tryz.prog.funcNamed "loop.example/wholeway/laws.FnExactApartOn" = some 3 by kernel_rfl).symm.trans hf) |>.symm
  obtain rfl : fn = Tryz.f3 := (Option.some.inj (Tryz.func3.symm.trans hfn)).symm
  refine ⟨by kernel_rfl, fun j t ht => ?_⟩
  rw [Tryz.params3] at ht
  have hm := Array.mem_of_getElem? ht
  simp only [List.mem_toArray, List.mem_cons, List.not_mem_nil, or_false] at hm
  rcases hm with rfl | rfl
  · exact (show Tryz.prog.wantsStandIn 24 = false by kernel_rfl)
  · exact (show Tryz.prog.wantsStandIn 24 = false by kernel_rfl)
theorem card : Rows.FnExactApartOnCardSaid :=
  Claim7.holds_tied_plain_at .later [] _ _ _ _ said (fun _ h => by cases h) (by kernel_rfl) (fun _ h => by cases h) fnExactApartOn_row_tie rfl ⟨rfl, rfl⟩ (by kernel_rfl) rfl plain (by kernel_rfl)
end Go.Proofs.YtpnliencahnmoaaGreatDoor.FinAp
