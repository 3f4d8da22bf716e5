/- FnExactRunImage: the row and the card: it answers true for every row of bytes, all numbers, all steps. No conditions beyond the row's own: the listed variables read as laid, which the card ties to the program's text. -/
import Derived.Test.YtbdbmmdnidonjaaDoorCards
import Derived.Test.YtbdbmmdnidonjaaDoorTie
import Derived.Test.YtbdbmmdnidonjaaDoorUZm
import Derived.Test.YtbdbmmdnidonjaaDoorUJy
import Derived.Deep.DeepHandedRow
import Derived.Deep.DeepWitnessRowRef
import Derived.Lib.LaidTab
set_option maxRecDepth 100000
set_option linter.unusedVariables false
namespace Go.Proofs.YtbdbmmdnidonjaaDoor.FinIr
open Go.ChangeShapes Go.WideShapes Go.ChangeAt Go.RowKit
theorem cellsInt : Tryd.prog.cellsOf 3 = 1 := by kernel_rfl
theorem tab {W : World} (h : laidMetH Tryd.prog Rows.fnExactRunImageRow.laid W) : Forms W := by
 have h' : laidMet Tryd.prog Rows.fnExactRunImageRow.laid W := h
 obtain ⟨ps, hv, _⟩ := h'
 refine Lv.forms_of (fun i h1 h2 => ?_) hv
 have hc : i = 1 ∨ i = 2 ∨ i = 3 ∨ i = 4 ∨ i = 5 ∨ i = 6 ∨ i = 7 ∨ i = 8 ∨ i = 9 ∨ i = 10 ∨ i = 11 ∨ i = 12 ∨ i = 13 ∨ i = 14 ∨ i = 15 ∨ i = 16 ∨ i = 17 ∨ i = 18 ∨ i = 19 ∨ i = 20 ∨ i = 21 ∨ i = 22 := by omega
 rcases hc with h | h | h | h | h | h | h | h | h | h | h | h | h | h | h | h | h | h | h | h | h | h <;> (subst h; rfl)
theorem mag {W : World} (h : laidMetH Tryd.prog Rows.fnExactRunImageRow.laid W) : Magic W := by
 have h' : laidMet Tryd.prog Rows.fnExactRunImageRow.laid W := h
 obtain ⟨ps, hv, _⟩ := h'
 obtain ⟨_, _, _, _, _, _, _, _, _, _, h5, _⟩ := hv
 exact Lv.magic_of h5
theorem law (w : World) (a : Option Addr) (n cap : Nat) (zs : List Int) (ia : Option Addr) (m icap : Nat) (is : List Int) (steps : Int) (hn : n ≤ cap) (hc : cap ≤ 9223372036854775807) (hl : zs.length = n) (hwf : ∀ x ∈ zs, (Lit.int .u8 x).wf = true)
  (hcell : n = 0 ∨ ∃ b off, a = some ⟨b, off, none⟩ ∧ b < w.heap.size ∧ ∀ i, i < n → w.cell? ⟨b, off + i, none⟩ = some (.int .u8 (zs.getD i 0)))
  (hm : m ≤ icap) (hmc : icap ≤ 9223372036854775807) (hml : is.length = m)
  (hicell : m = 0 ∨ ∃ b off, ia = some ⟨b, off, none⟩ ∧ b < w.heap.size ∧ ∀ i, i < m → w.cell? ⟨b, off + i, none⟩ = some (.int .i64 (is.getD i 0))) (ht : Forms w) (hg : Magic w) :
  Calls Tryd.prog 11 #[.slice a n cap, .slice ia m icap, .int .i64 steps] w fun e w' => e = .returned (.bool true) ∧ Below w.heap.size w w' := by
 have hz : ∀ x ∈ zs, 0 ≤ x ∧ x < 256 := fun x hx => by
  have := hwf x hx
  simp [Lit.wf, IntKind.min, IntKind.max, IntKind.signed, IntKind.bits] at this
  omega
 by_cases h : n ≤ 1048576
 ·by_cases h2 : m ≤ 1048576
  ·refine runImageLaw w _ _ (zs.map Int.toNat) is steps ht hg ⟨a, cap, by simp [hl], fun x hx => ?_, fun i hi => ?_⟩ (by simp [hl]; exact h) ⟨ia, icap, by rw [hml], fun i hi => ?_⟩ (by omega)
   ·obtain ⟨y, hy, rfl⟩ := List.mem_map.1 hx
    have := hz y hy
    omega
   ·simp [hl] at hi
    rcases hcell with rfl | ⟨b, off, rfl, _, hcc⟩
    ·omega
    ·refine ⟨b, off, rfl, ?_⟩
     rw [hcc i hi]
     have hi2 : i < zs.length := by omega
     have := hz zs[i] (List.getElem_mem _)
     simp [byteN, List.getD_eq_getElem?_getD, hi2]
     omega
   ·rcases hicell with rfl | ⟨b, off, rfl, _, hcc⟩
    ·omega
    ·exact ⟨b, off, rfl, hcc i (by omega)⟩
  ·exact runImageBig w a ia n cap m icap steps (by omega) (by omega) (.inr ⟨h, by omega⟩)
 ·exact runImageBig w a ia n cap m icap steps (by omega) (by omega) (.inl (by omega))
theorem contract (H : Type) (enc : TypeId × Value → H) (W : World) (base : Nat) (args : Array Value) (ds gs : List (DataW H)) (before : List MemPlace)
  (hval : ∀ (j : Nat) t v, Tryd.f11.params[j]? = some t → args[j]? = some v → Value.okWide Tryd.prog W .any base t v)
  (hW : DataW.Whole enc Tryd.prog Tryd.f11.params.toList Rows.fnExactRunImageSpec.vars false W args.toList ds gs before) (hL : laidMetH Tryd.prog Rows.fnExactRunImageRow.laid W) (hSh : W.ShapedOpen Tryd.prog)
  (hsz : (DataW.weightsEach Tryd.prog (Tryd.f11.params.toList ++ (OpenSpec.ofChange Rows.fnExactRunImageSpec).bare.plain.varTypes Tryd.prog) (ds ++ gs)).all (· ≤ reachBytes) = true) :
  Calls Tryd.prog 11 args W fun e W' => ∃ v, e = .returned v ∧ Rows.fnExactRunImageSpec.post enc Tryd.prog Tryd.f11 false true false false W args v W' := by
 have hW' := hW
 obtain ⟨p, q, hA0, hV, rfl, hfz, hnd⟩ := hW
 have hA : DataW.TrodAll enc Tryd.prog W 0 (fun _ => true) true Tryd.f11.params.toList args.toList ds p := hA0
 rw [Tryd.params11] at hA hval
 obtain ⟨v0, vs0, d0, ds0, p0, q0, hargs0, rfl, rfl, h0, r0⟩ := trodAll_cons hA
 obtain ⟨v1, vs1, d1, ds1, p1, q1, hargs1, rfl, rfl, h1, r1⟩ := trodAll_cons r0
 obtain ⟨v2, vs2, d2, ds2, p2, q2, hargs2, rfl, rfl, h2, r2⟩ := trodAll_cons r1
 obtain ⟨rfl, rfl, rfl⟩ := trodAll_nil r2
 obtain rfl : args = #[v0, v1, v2] := by cases args; simp_all
 obtain ⟨a, n, cap, zs, rfl, hn, hc, hl, hwf, hcell⟩ := Arg.open_nums Tryd.underlying22 Tryd.underlying5 (by kernel_rfl) (hval 0 22 v0 rfl rfl) h0
 obtain ⟨ia, m, icap, is, rfl, hm, hmc, hml, _, hicell⟩ := Arg.open_nums Tryd.underlying26 Tryd.underlying3 cellsInt (hval 1 26 v1 rfl rfl) h1
 obtain ⟨steps, rfl, rfl, rfl, _⟩ := open_int Tryd.underlying3 (hval 2 3 v2 rfl rfl) h2
 refine (law W a n cap zs ia m icap is steps hn hc hl hwf hcell hm hmc hml hicell (tab hL) (mag hL)).mono fun e W' ⟨he, hg⟩ => ?_
 subst he
 obtain ⟨dg0, dg1, rfl⟩ := Lv.gs_two hW'
 exact ⟨_, rfl, Lv.law_postv Arg.laidOut (by kernel_rfl) (by rw [Tryd.params11]; decide +kernel) (tb := 4) rfl Tryd.underlying4 rfl hW' hg⟩
def setVar (h : Array Obj) (g : Nat) (cs : Array Value) : Array Obj := h.modify g fun
 |.cells _ t frozen => .cells cs t frozen
 |o => o
noncomputable def low : Nat := (World.holding Tryd.prog default ⟨#[], #[], []⟩).heap.size
noncomputable def laidWorld (os : Os) : World :=
 {World.holding Tryd.prog os ⟨#[.cells #[.int .u8 87, .int .u8 119] 5], #[], []⟩ with heap := (setVar (setVar (World.holding Tryd.prog os ⟨#[.cells #[.int .u8 87, .int .u8 119] 5], #[], []⟩).heap 1 #[.string ⟨#[]⟩, .int .i64 0, .string ⟨#[115, 101, 116]⟩, .int .i64 9, .string ⟨#[109, 111, 118, 101]⟩, .int .i64 3, .string ⟨#[97, 100, 100]⟩, .int .i64 7, .string ⟨#[115, 117, 98]⟩, .int .i64 7, .string ⟨#[109, 117, 108]⟩, .int .i64 7, .string ⟨#[100, 105, 118]⟩, .int .i64 7, .string ⟨#[114, 101, 109]⟩, .int .i64 7, .string ⟨#[108, 101, 115, 115]⟩, .int .i64 7, .string ⟨#[115, 97, 109, 101]⟩, .int .i64 7, .string ⟨#[110, 111, 116]⟩, .int .i64 3, .string ⟨#[108, 111, 97, 100]⟩, .int .i64 3, .string ⟨#[115, 116, 111, 114, 101]⟩, .int .i64 3, .string ⟨#[115, 97, 121]⟩, .int .i64 1, .string ⟨#[99, 97, 108, 108]⟩, .int .i64 8, .string ⟨#[107, 101, 101, 112]⟩, .int .i64 9, .string ⟨#[116, 97, 107, 101]⟩, .int .i64 9, .string ⟨#[103, 105, 118, 101]⟩, .int .i64 9, .string ⟨#[102, 101, 116, 99, 104]⟩, .int .i64 9, .string ⟨#[114, 101, 115, 117, 108, 116]⟩, .int .i64 1, .string ⟨#[106, 117, 109, 112]⟩, .int .i64 8, .string ⟨#[98, 114, 97, 110, 99, 104]⟩, .int .i64 9, .string ⟨#[98, 97, 99, 107]⟩, .int .i64 1]) 0 #[.slice (some ⟨low + 0, 0, none⟩) 2 2]) }
theorem laid_met (os : Os) : laidMet Tryd.prog Rows.fnExactRunImageRow.laid ((laidWorld os).forCall (fun _ _ => 0) ⟨#[], #[.slice none 0 0, .slice none 0 0, .int .i64 0], []⟩).memory :=
 laidMet_of_run' 8 (by kernel_rfl) (by kernel_rfl)
theorem reads (os : Os) {H : Type} (enc : TypeId × Value → H) : ∃ places, DataW.whole enc Tryd.prog ((laidWorld os).forCall (fun _ _ => 0) ⟨#[], #[.slice none 0 0, .slice none 0 0, .int .i64 0], []⟩).memory Tryd.f11.params.toList Rows.fnExactRunImageSpec.vars false (#[.slice none 0 0, .slice none 0 0, .int .i64 0] : Array Value).toList 8 = some ([.nil, .nil, .lit (.int .i64 0)], [Rows.laid_loop_example_wholeway_impl_magic, Rows.laid_loop_example_wholeway_impl_forms], places) :=
 ⟨MemPlace.row ⟨0, 0, none⟩ 1 ++ MemPlace.row ⟨low, 0, none⟩ 2 ++ MemPlace.row ⟨1, 0, none⟩ 46, by kernel_rfl⟩
set_option maxRecDepth 100000 in
theorem lifted (os : Os) (started : os.Started) (H : Type) (enc : TypeId × Value → H) (F : Stop.Interp) :
  ReturnsInHanded {} Tryd.checked os 11 .any ((OpenSpec.ofChange Rows.fnExactRunImageSpec).preRow enc Tryd.prog Tryd.f11 Rows.fnExactRunImageRow.domain false Rows.fnExactRunImageRow.laid) (((OpenSpec.ofChange Rows.fnExactRunImageSpec).at F).post enc Tryd.prog Tryd.f11 false true false false) := by
 obtain ⟨places, hx⟩ := reads os enc
 refine returnsInHanded_of_row (C := Tryd.checked) (s := OpenSpec.ofChange Rows.fnExactRunImageSpec) Arg.own started (by kernel_rfl) Tryd.func11
  (witness_row_atRef (enc := enc) (C := Tryd.checked) false (laidWorld os) #[.slice none 0 0, .slice none 0 0, .int .i64 0] rfl (by kernel_rfl) (by kernel_rfl) (by kernel_rfl)
   (OpenSpec.preRow_of_cond 8 hx (by kernel_rfl) (fun k hk => by cases hk) (by kernel_rfl) (laid_met os))) ?_
 intro W base args ds gs before hval hW _ _ hsz hL hSh _
 exact contract H enc W base args ds gs before hval hW hL hSh hsz
theorem said : Rows.FnExactRunImageSaid :=
 OpenClaim.holds_of_cond 11 Tryd.f11 rfl rfl rfl rfl rfl rfl rfl ⟨rfl, rfl, rfl, rfl, rfl⟩ rfl rfl rfl rfl rfl (by kernel_rfl) Tryd.func11 (by kernel_rfl)
  (of_decide_eq_true (by kernel_rfl)) (by unfold Func.isWrapper; first | (rw [if_pos (by decide +kernel)]; kernel_rfl) | (rw [if_neg (by decide +kernel)]; exact ⟨rfl, rfl⟩))
  (fun os started H enc _ F => by rw [OpenClaim.pre_eq_preRow]; exact lifted os started H enc F)
theorem plain (f : FuncId) (fn : Func) (hf : Tryd.pinned.checked.prog.funcNamed "loop.example/wholeway/laws.FnExactRunImage" = some f) (hfn : Tryd.pinned.checked.prog.funcs[f]? = some fn) :
  true = Tryd.pinned.checked.prog.looks [] ∧ ∀ (j : Nat) t, fn.params[j]? = some t → Tryd.pinned.checked.prog.wantsStandIn t = false := by
 obtain rfl : f = 11 := Option.some.inj ((show Tryd.prog.funcNamed "loop.example/wholeway/laws.FnExactRunImage" = some 11 by kernel_rfl).symm.trans hf) |>.symm
 obtain rfl : fn = Tryd.f11 := (Option.some.inj (Tryd.func11.symm.trans hfn)).symm
 refine ⟨by kernel_rfl, fun j t ht => ?_⟩
 rw [Tryd.params11] at ht
 have hm := Array.mem_of_getElem? ht
 simp only [List.mem_toArray, List.mem_cons, List.not_mem_nil, or_false] at hm
 rcases hm with rfl | rfl | rfl
 ·exact (show Tryd.prog.wantsStandIn 22 = false by kernel_rfl)
 ·exact (show Tryd.prog.wantsStandIn 26 = false by kernel_rfl)
 ·exact (show Tryd.prog.wantsStandIn 3 = false by kernel_rfl)
theorem card : Rows.FnExactRunImageCardSaid :=
 Claim7.holds_tied_plain_at .later [] _ _ _ _ said (fun _ h => by cases h) (by kernel_rfl) (fun _ h => by cases h) fnExactRunImage_row_tie rfl ⟨rfl, rfl⟩ (by kernel_rfl) rfl plain (by kernel_rfl)
end Go.Proofs.YtbdbmmdnidonjaaDoor.FinIr
