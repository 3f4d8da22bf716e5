/- What the row's list of variables gives: a table of integers anywhere in the list. -/
import Derived.Test.YtkpkgengdcleiaaDoorArg
import Derived.Lib.LaidTab
set_option maxRecDepth 100000
namespace Go.Proofs.YtkpkgengdcleiaaDoor
open Go.RowKit

theorem tabIs_at {P : Program} {W : World} {name : String} {k : IntKind} {zs : List Int} {g : Nat} {t e : TypeId} {n : Nat}
    (hg : P.globalNamed name = some g) (hty : (P.globals[g]?).map (·.type) = some t) (ht : P.underlying t = some (.array n e)) (he : P.underlying e = some (.int k)) (hce : P.cellsOf e = 1) (hct : P.cellsOf t = n) :
    ∀ (i : Nat) (laid : List (String × DataW Unit)) (ps : List MemPlace), DataW.LaidVars P W laid ps → laid[i]? = some (name, Lib.tabData k zs) → Lib.TabIs P W name k zs
  | _, [], _, _, hi => by simp at hi
  | 0, x :: rest, ps, h, hi => by
    obtain rfl : x = (name, Lib.tabData k zs) := by simpa using hi
    obtain ⟨g', t', cs, fuel, p, q, hg', ht', hvar, hd, _, _⟩ := h
    obtain rfl := Option.some.inj (hg.symm.trans hg')
    obtain rfl := Option.some.inj (hty.symm.trans ht')
    unfold Lib.TabIs
    rw [hvar, ← Lib.cells_of_tab ht he hce hct hd]
  | i + 1, x :: rest, ps, h, hi => by
    obtain ⟨g', t', cs, fuel, p, q, hg', ht', hvar, hd, hr, _⟩ := h
    exact tabIs_at hg hty ht he hce hct i rest q hr (by simpa using hi)

end Go.Proofs.YtkpkgengdcleiaaDoor
