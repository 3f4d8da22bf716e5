/- How a law closes whose row names variables of the program's own; what a program of the machine as an argument reads as; the table of forms. The two bytes ahead of an image, as the row lists them; two named variables. -/
import Derived.Test.YtbdbmmdnidonjaaDoorUJh
import Derived.Test.YtbdbmmdnidonjaaDoorUJb
import Derived.OpenVars
import Derived.OpenShut
import Derived.Deep.Slices
import Derived.Deep.Fields
import Derived.ChangeSame
import Derived.LaidLaws
import Derived.ChangeArms
import Derived.Test.YtbdbmmdnidonjaaDoorUJx
set_option linter.unusedVariables false
set_option linter.unusedSimpArgs false
set_option maxRecDepth 100000
namespace Go.Proofs.YtbdbmmdnidonjaaDoor.Lv
open Go.ChangeShapes Go.WideShapes Go.ChangeAt Go.RowKit Go.Deep
/-- The post of a law: one bool, true; the arguments and the named variables as they were. -/
theorem law_postv {H : Type} {enc : TypeId × Value → H} {P : Program} (hl : laidOutB P = true) {f : Func} {s : ChangeSpec} {W W' : World} {args : Array Value} {ds gs : List (DataW H)} {before : List MemPlace}
  (hvr : varsRowed P s.vars = true) (hr : ∀ t ∈ f.params.toList, P.readableRec t = true ∧ t < P.types.size) {tb : TypeId} (hres : f.resultTypes = #[tb]) (htb : P.underlying tb = some .bool)
  (hs : s.fn H (ds ++ gs) = { results := [.lit (.bool true)], args := ds, vars := gs })
  (hW : DataW.Whole enc P f.params.toList s.vars false W args.toList ds gs before) (hb : Below W.heap.size W W') :
  s.post enc P f false true false false W args (.bool true) W' := by
 have hW0 := hW
 obtain ⟨p, q, hA, hV, rfl, hz, hn⟩ := hW
 have hlt := hW0.lt
 refine ⟨ds, gs, p ++ q, [], p, q, hW0, ?_, ?_, ?_, hb.frame _, fun h => by cases h⟩
 ·rw [hs, hres]
  exact ⟨[], [], shut_bool htb true, trodAll_mk0, rfl⟩
 ·rw [hs]
  exact Lw.trodAll_below hl hb _ hr _ _ _ hA (fun x hx => hlt x (List.mem_append_left _ hx))
 ·rw [hs]
  exact Below.trodVars hl hb hvr hV
section
variable {H : Type} {enc : TypeId × Value → H} {P : Program} {w : World} {base : Nat} {spare : Nat → Bool} {held : Bool}
end
theorem none_sp {w : World} {a : Addr} {v : Value} (h : w.cell? (a.add 0) = some v) : a = ⟨a.block, a.off, none⟩ := by
 obtain ⟨b, off, sp⟩ := a
 cases sp with
 |none => rfl
 |some x =>
  exfalso
  simp only [World.cell?, Addr.add] at h
  split at h <;> simp at h
section
variable {H : Type} {enc : TypeId × Value → H} {w : World} {base : Nat} {spare : Nat → Bool} {held : Bool}
end
/-- the table of forms, as the row lists it -/
theorem forms_of {W : World} {l : List (DataW Unit)} {ps : List MemPlace} {rest : List (String × DataW Unit)} (hl : ∀ i : Nat, 1 ≤ i → i ≤ 22 → l[i]? = some (.agg [.lit (.string (nameOf i).data.toList), .lit (.int .i64 (fieldsOf i))]))
  (h : DataW.LaidVars Tryd.prog W (("loop.example/wholeway/impl.forms", .agg l) :: rest) ps) : Forms W := by
 obtain ⟨g, t, cs, fuel, p, q, hg, ht, hvar, hd, _, _⟩ := h
 obtain rfl : 1 = g := Option.some.inj ((show Tryd.prog.globalNamed "loop.example/wholeway/impl.forms" = some 1 by kernel_rfl).symm.trans hg)
 obtain rfl : 198 = t := Option.some.inj ((show (Tryd.prog.globals[1]?).map (·.type) = some 198 by kernel_rfl).symm.trans ht)
 have hcell : ∀ j, W.cell? ⟨1, j, none⟩ = cs[j]? := fun j => by
  unfold World.var? at hvar
  rw [hg] at hvar
  simp only [Option.bind_some] at hvar
  cases hh : W.heap[1]? with
  |none => rw [hh] at hvar; cases hvar
  |some o =>
   rw [hh] at hvar
   cases o with
   |cells c t f =>
    obtain rfl : c = cs := by simpa using hvar
    rw [cell_of_row W _ j c t f hh]
   |_ => simp at hvar
 obtain ⟨xs, m, _, hx, _, hlen, hel⟩ := DataW.trod_array Tryd.underlying198 hd
 have hc2 : Tryd.prog.cellsOf 161 = 2 := by kernel_rfl
 have hcs : Tryd.prog.cellsOf 9 = 1 := by kernel_rfl
 have hci : Tryd.prog.cellsOf 3 = 1 := by kernel_rfl
 intro i h1 h22
 have hi := hel i (by omega)
 rw [hc2] at hi
 rw [List.getElem?_eq_getElem (by omega)] at hi
 obtain ⟨y0, y1, n, hy, hlc, t0, t1⟩ := trod_struct2 Tryd.underlying161 hi
 have hxi : (xs[i]'(by omega)).1 = .agg [.lit (.string (nameOf i).data.toList), .lit (.int .i64 (fieldsOf i))] := by
  have hx1 : (.agg l : DataW Unit) = .agg (xs.map (·.1)) := congrArg Prod.fst hx
  injection hx1 with hx1
  have h2 := hl i h1 h22
  rw [hx1, List.getElem?_map, List.getElem?_eq_getElem (by omega)] at h2
  simpa using h2
 rw [hy] at hxi
 simp only [DataW.agg.injEq, List.cons.injEq, and_true] at hxi
 obtain ⟨e0, e1⟩ := hxi
 have hw : (cs.toList.drop (i * 2)).length ≥ 2 := by
  have : ((cs.toList.drop (i * 2)).take 2).length = Tryd.prog.cellsOf 161 := hlc
  rw [hc2] at this
  simp only [List.length_take] at this
  omega
 obtain ⟨s, es, ys, _⟩ := DataW.trod_string Tryd.underlying9 t0
 obtain ⟨z, ez, yz, _⟩ := DataW.trod_int Tryd.underlying3 t1
 rw [ys] at e0
 rw [yz] at e1
 simp only [DataW.lit.injEq, Lit.string.injEq, Lit.int.injEq, true_and] at e0 e1
 have es' : (((cs.toList.drop (i * 2)).take 2).drop 0).take (Tryd.prog.cellsOf 9) = [.string s] := es
 have ez' : (((cs.toList.drop (i * 2)).take 2).drop 1).take (Tryd.prog.cellsOf 3) = [.int .i64 z] := ez
 rw [hcs] at es'
 rw [hci] at ez'
 have c0 := congrArg (·[0]?) es'
 have c1 := congrArg (·[0]?) ez'
 simp only [List.getElem?_take, List.getElem?_drop] at c0 c1
 simp at c0 c1
 have hsn : s = nameOf i := by
  cases s with
  |mk a =>
   have : a = (nameOf i).data := Array.toList_inj.1 e0
   rw [this]
 rw [hcell, hcell, c0, c1, hsn, e1]
 exact ⟨rfl, rfl⟩
end Go.Proofs.YtbdbmmdnidonjaaDoor.Lv
set_option maxRecDepth 100000
namespace Go.Proofs.YtbdbmmdnidonjaaDoor.Lv
open Go.ChangeShapes Go.WideShapes Go.ChangeAt Go.RowKit Go.Deep
theorem gs_two {H : Type} {enc : TypeId × Value → H} {P : Program} {W : World} {ts : List TypeId} {n1 n2 : String} {vs : List Value} {ds gs : List (DataW H)} {before : List MemPlace} (hW : DataW.Whole enc P ts [n1, n2] false W vs ds gs before) : ∃ d1 d2, gs = [d1, d2] := by
 obtain ⟨p, q, hA, hV, _⟩ := hW
 match gs, hV with
 |[], h => simp [DataW.TrodVars] at h
 |[d], h => obtain ⟨_, _, _, _, _, _, _, _, _, _, h5, _⟩ := h; simp [DataW.TrodVars] at h5
 |[d1, d2], _ => exact ⟨_, _, rfl⟩
 |d1 :: d2 :: d3 :: r, h =>
  obtain ⟨_, _, _, _, _, _, _, _, _, _, h5, _⟩ := h
  obtain ⟨_, _, _, _, _, _, _, _, _, _, h6, _⟩ := h5
  simp [DataW.TrodVars] at h6
theorem two_of {zs : List Int} {len : Nat} (h1 : (Go.ChangeShapes.lits (H := Unit) .u8 (zs.take len)) = [.lit (.int .u8 87), .lit (.int .u8 119)]) (h2 : Go.ChangeShapes.lits (H := Unit) .u8 (zs.drop len) = []) : zs = [87, 119] := by
 rw [← List.take_append_drop len zs]
 generalize zs.take len = t at *
 generalize zs.drop len = r at *
 have hr : r = [] := by
  cases r with
  |nil => rfl
  |cons x r => simp [Go.ChangeShapes.lits] at h2
 subst hr
 rw [List.append_nil]
 match t, h1 with
 |[], h => simp [Go.ChangeShapes.lits] at h
 |[x], h => simp [Go.ChangeShapes.lits] at h
 |[x, y], h => simpa [Go.ChangeShapes.lits] using h
 |x :: y :: z :: r, h => simp [Go.ChangeShapes.lits] at h
theorem magic_of {W : World} {ps : List MemPlace} {rest : List (String × DataW Unit)}
  (h : DataW.LaidVars Tryd.prog W (("loop.example/wholeway/impl.magic", .slice [.lit (.int .u8 87), .lit (.int .u8 119)] []) :: rest) ps) : Magic W := by
 obtain ⟨g, t, cs, fuel, p, q, hg, ht, hvar, hd, _, _⟩ := h
 obtain rfl : 0 = g := Option.some.inj ((show Tryd.prog.globalNamed "loop.example/wholeway/impl.magic" = some 0 by kernel_rfl).symm.trans hg)
 obtain rfl : 22 = t := Option.some.inj ((show (Tryd.prog.globals[0]?).map (·.type) = some 22 by kernel_rfl).symm.trans ht)
 have hcell : ∀ j, W.cell? ⟨0, j, none⟩ = cs[j]? := fun j => by
  unfold World.var? at hvar
  rw [hg] at hvar
  simp only [Option.bind_some] at hvar
  cases hh : W.heap[0]? with
  |none => rw [hh] at hvar; cases hvar
  |some o =>
   rw [hh] at hvar
   cases o with
   |cells c t f =>
    obtain rfl : c = cs := by simpa using hvar
    rw [cell_of_row W _ j c t f hh]
   |_ => simp at hvar
 rcases open_ints Tryd.underlying22 Tryd.underlying5 (by kernel_rfl) hd with ⟨_, hx⟩ | ⟨a, len, cap, zs, hcs, _, hl, hm, hz, hx, hc, _⟩
 ·injection hx with hx; cases hx
 ·injection hx with hx _
  injection hx with e1 e2
  have hzs := two_of e1.symm e2.symm
  subst hzs
  have hlen : len = 2 := by
   have h2 := congrArg List.length e1
   have h3 := congrArg List.length e2
   simp [Go.ChangeShapes.lits] at h2 h3
   simp at hz
   omega
  subst hlen
  have c0 := hc 0 (by simp)
  have c1 := hc 1 (by simp)
  have ha := none_sp c0
  obtain ⟨b, o, sp⟩ := a
  injection ha with _ _ h3
  subst h3
  refine ⟨b, o, cap, ?_, ?_, ?_⟩
  ·rw [hcell 0]
   have : cs[0]? = cs.toList[0]? := by simp
   rw [this, hcs]; rfl
  ·rw [Arg.add_eq] at c0; simpa using c0
  ·rw [Arg.add_eq] at c1; simpa using c1
end Go.Proofs.YtbdbmmdnidonjaaDoor.Lv
