/- FnMachJust: the row and the card: it answers true for every code. No conditions beyond the row's own: the listed variables read as laid, which the card ties to the program's text. -/
import Derived.Test.YtbdbmmdnidonjaaDoorCards
import Derived.Test.YtbdbmmdnidonjaaDoorTie
import Derived.Test.YtbdbmmdnidonjaaDoorGb
import Derived.Deep.DeepHandedRow
import Derived.Lib.LaidTab
set_option maxRecDepth 100000
set_option linter.unusedVariables false
namespace Go.Proofs.YtbdbmmdnidonjaaDoor.FinMj
open Go.ChangeShapes Go.WideShapes Go.ChangeAt Go.RowKit


theorem tab {W : World} (h : laidMetH Tryd.prog Rows.fnMachJustRow.laid W) : Forms W := by
  have h' : laidMet Tryd.prog Rows.fnMachJustRow.laid W := h
  obtain ⟨ps, hv, _⟩ := h'
  refine Lv.forms_of (fun i h1 h2 => ?_) hv
  have hc : i = 1 ∨ i = 2 ∨ i = 3 ∨ i = 4 ∨ i = 5 ∨ i = 6 ∨ i = 7 ∨ i = 8 ∨ i = 9 ∨ i = 10 ∨ i = 11 ∨ i = 12 ∨ i = 13 ∨ i = 14 ∨ i = 15 ∨ i = 16 ∨ i = 17 ∨ i = 18 ∨ i = 19 ∨ i = 20 ∨ i = 21 ∨ i = 22 := by omega
  rcases hc with h | h | h | h | h | h | h | h | h | h | h | h | h | h | h | h | h | h | h | h | h | h <;> (subst h; rfl)
theorem law (w : World) (a : Option Addr) (n c : Nat) (xs : List Int) (hn : n ≤ c) (hc : c ≤ 9223372036854775807) (hb : Bytes w w.heap.size (.slice a n c) xs) (ht : Forms w) :
    Calls Tryd.prog 3 #[.slice a n c] w fun e w' => e = .returned (.bool true) ∧ Below w.heap.size w w' := by
  by_cases h : n ≤ 1048576
  · exact MjLaw.just w _ xs a n c rfl h hc ht hb
  · exact MjLaw.bigJust a n c w (by omega) (by omega)


theorem contract (H : Type) (enc : TypeId × Value → H) (W : World) (base : Nat) (args : Array Value) (ds gs : List (DataW H)) (before : List MemPlace)
    (hval : ∀ (j : Nat) t v, Tryd.f3.params[j]? = some t → args[j]? = some v → Value.okWide Tryd.prog W .any base t v)
    (hW : DataW.Whole enc Tryd.prog Tryd.f3.params.toList Rows.fnMachJustSpec.vars false W args.toList ds gs before) (hL : laidMetH Tryd.prog Rows.fnMachJustRow.laid W) (hSh : W.ShapedOpen Tryd.prog)
    (hsz : (DataW.weightsEach Tryd.prog (Tryd.f3.params.toList ++ (OpenSpec.ofChange Rows.fnMachJustSpec).bare.plain.varTypes Tryd.prog) (ds ++ gs)).all (· ≤ reachBytes) = true) :
    Calls Tryd.prog 3 args W fun e W' => ∃ v, e = .returned v ∧ Rows.fnMachJustSpec.post enc Tryd.prog Tryd.f3 false true false false W args v W' := by
  have hW' := hW
  obtain ⟨p, q, hA0, hV, rfl, hfz, hnd⟩ := hW
  have hA : DataW.TrodAll enc Tryd.prog W 0 (fun _ => true) true Tryd.f3.params.toList args.toList ds p := hA0
  rw [Tryd.params3] at hA hval
  obtain ⟨v0, vs0, d0, ds0, p0, q0, hargs0, rfl, rfl, h0, r0⟩ := trodAll_cons hA
  obtain ⟨rfl, rfl, rfl⟩ := trodAll_nil r0
  obtain rfl : args = #[v0] := by cases args; simp_all
  obtain ⟨a0, n0, c0, xs0, rfl, hn0, hc0, hx0, hb0⟩ := Arg.open_bytes (hval 0 22 v0 rfl rfl) h0
  refine (law W a0 n0 c0 xs0 hn0 hc0 hb0 (tab hL)).mono fun e W' ⟨he, hg⟩ => ?_
  subst he
  obtain ⟨dg0, rfl⟩ := Lv.gs_one hW'
  exact ⟨_, rfl, Lv.law_postv Arg.laidOut (by kernel_rfl) (by rw [Tryd.params3]; decide +kernel) (tb := 4) rfl Tryd.underlying4 rfl hW' hg⟩

def litVal : DataW Unit → Value
  | .lit (.int k n) => .int k n
  | _ => undef
def aggVals : DataW Unit → Array Value
  | .agg l => (l.map litVal).toArray
  | _ => #[]
def setVar (h : Array Obj) (g : Nat) (cs : Array Value) : Array Obj := h.modify g fun
  | .cells _ t frozen => .cells cs t frozen
  | o => o

noncomputable def low : Nat := (World.holding Tryd.prog default ⟨#[], #[], []⟩).heap.size
noncomputable def laidWorld (os : Os) : World :=
  { World.holding Tryd.prog os ⟨#[], #[], []⟩ with heap := (setVar (World.holding Tryd.prog os ⟨#[], #[], []⟩).heap 1 #[.string ⟨#[]⟩, .int .i64 0, .string ⟨#[115, 101, 116]⟩, .int .i64 9, .string ⟨#[109, 111, 118, 101]⟩, .int .i64 3, .string ⟨#[97, 100, 100]⟩, .int .i64 7, .string ⟨#[115, 117, 98]⟩, .int .i64 7, .string ⟨#[109, 117, 108]⟩, .int .i64 7, .string ⟨#[100, 105, 118]⟩, .int .i64 7, .string ⟨#[114, 101, 109]⟩, .int .i64 7, .string ⟨#[108, 101, 115, 115]⟩, .int .i64 7, .string ⟨#[115, 97, 109, 101]⟩, .int .i64 7, .string ⟨#[110, 111, 116]⟩, .int .i64 3, .string ⟨#[108, 111, 97, 100]⟩, .int .i64 3, .string ⟨#[115, 116, 111, 114, 101]⟩, .int .i64 3, .string ⟨#[115, 97, 121]⟩, .int .i64 1, .string ⟨#[99, 97, 108, 108]⟩, .int .i64 8, .string ⟨#[107, 101, 101, 112]⟩, .int .i64 9, .string ⟨#[116, 97, 107, 101]⟩, .int .i64 9, .string ⟨#[103, 105, 118, 101]⟩, .int .i64 9, .string ⟨#[102, 101, 116, 99, 104]⟩, .int .i64 9, .string ⟨#[114, 101, 115, 117, 108, 116]⟩, .int .i64 1, .string ⟨#[106, 117, 109, 112]⟩, .int .i64 8, .string ⟨#[98, 114, 97, 110, 99, 104]⟩, .int .i64 9, .string ⟨#[98, 97, 99, 107]⟩, .int .i64 1]) }
theorem laid_met (os : Os) : laidMet Tryd.prog Rows.fnMachJustRow.laid ((laidWorld os).forCall (fun _ _ => 0) ⟨#[], #[.slice none 0 0], []⟩).memory :=
  laidMet_of_run' 8 (by kernel_rfl) (by kernel_rfl)
theorem reads (os : Os) {H : Type} (enc : TypeId × Value → H) : ∃ places, DataW.whole enc Tryd.prog ((laidWorld os).forCall (fun _ _ => 0) ⟨#[], #[.slice none 0 0], []⟩).memory Tryd.f3.params.toList Rows.fnMachJustSpec.vars false (#[.slice none 0 0] : Array Value).toList 8 = some ([.nil], [Rows.laid_loop_example_wholeway_impl_forms], places) :=
  ⟨MemPlace.row ⟨1, 0, none⟩ 46, by kernel_rfl⟩

set_option maxRecDepth 100000 in
theorem lifted (os : Os) (started : os.Started) (H : Type) (enc : TypeId × Value → H) (F : Stop.Interp) :
    ReturnsInHanded {} Tryd.checked os 3 .any ((OpenSpec.ofChange Rows.fnMachJustSpec).preRow enc Tryd.prog Tryd.f3 Rows.fnMachJustRow.domain false Rows.fnMachJustRow.laid) (((OpenSpec.ofChange Rows.fnMachJustSpec).at F).post enc Tryd.prog Tryd.f3 false true false false) := by
  obtain ⟨places, hx⟩ := reads os enc
  refine returnsInHanded_of_row (C := Tryd.checked) (s := OpenSpec.ofChange Rows.fnMachJustSpec) Arg.own started (by kernel_rfl) Tryd.func3
    (witness_row_at (enc := enc) (C := Tryd.checked) false (laidWorld os) #[.slice none 0 0] rfl (by kernel_rfl) (by kernel_rfl) (by kernel_rfl)
      (OpenSpec.preRow_of_cond 8 hx (by kernel_rfl) (fun k hk => by cases hk) (by kernel_rfl) (laid_met os))) ?_
  intro W base args ds gs before hval hW _ _ hsz hL hSh _
  exact contract H enc W base args ds gs before hval hW hL hSh hsz

theorem said : Rows.FnMachJustSaid :=
  OpenClaim.holds_of_cond 3 Tryd.f3 rfl rfl rfl rfl rfl rfl rfl ⟨rfl, rfl, rfl, rfl, rfl⟩ rfl rfl rfl rfl rfl (by kernel_rfl) Tryd.func3 (by kernel_rfl)
    (of_decide_eq_true (by kernel_rfl)) (by unfold Func.isWrapper; first | (rw [if_pos (by decide +kernel)]; kernel_rfl) | (rw [if_neg (by decide +kernel)]; exact ⟨rfl, rfl⟩))
    (fun os started H enc _ F => by rw [OpenClaim.pre_eq_preRow]; exact lifted os started H enc F)

theorem plain (f : FuncId) (fn : Func) (hf : Tryd.pinned.checked.prog.funcNamed "loop.example/wholeway/laws.FnMachJust" = some f) (hfn : Tryd.pinned.checked.prog.funcs[f]? = some fn) :
    true = Tryd.pinned.checked.prog.looks [] ∧ ∀ (j : Nat) t, fn.params[j]? = some t → Tryd.pinned.checked.prog.wantsStandIn t = false := by
  obtain rfl : f = 3 := Option.some.inj ((show Tryd.prog.funcNamed "loop.example/wholeway/laws.FnMachJust" = some 3 by kernel_rfl).symm.trans hf) |>.symm
  obtain rfl : fn = Tryd.f3 := (Option.some.inj (Tryd.func3.symm.trans hfn)).symm
  refine ⟨by kernel_rfl, fun j t ht => ?_⟩
  rw [Tryd.params3] at ht
  have hm := Array.mem_of_getElem? ht
  simp only [List.mem_toArray, List.mem_cons, List.not_mem_nil, or_false] at hm
  obtain rfl := hm
  exact (show Tryd.prog.wantsStandIn 22 = false by kernel_rfl)

theorem card : Rows.FnMachJustCardSaid :=
  Claim7.holds_tied_plain_at .later [] _ _ _ _ said (fun _ h => by cases h) (by kernel_rfl) (fun _ h => by cases h) fnMachJust_row_tie rfl ⟨rfl, rfl⟩ (by kernel_rfl) rfl plain (by kernel_rfl)

end Go.Proofs.YtbdbmmdnidonjaaDoor.FinMj
