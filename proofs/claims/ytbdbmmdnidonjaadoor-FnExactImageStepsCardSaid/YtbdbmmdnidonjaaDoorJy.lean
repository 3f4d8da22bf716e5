/- How a law closes whose row names variables of the program's own; what a program of the machine as an argument reads as; the table of forms. The two bytes ahead of an image, as the row lists them; two named variables. -/
import Derived.Test.YtbdbmmdnidonjaaDoorJh
import Derived.Test.YtbdbmmdnidonjaaDoorJb
import Derived.OpenVars
import Derived.OpenShut
import Derived.Deep.Slices
import Derived.Deep.Fields
import Derived.ChangeSame
import Derived.LaidLaws
import Derived.ChangeArms
import Derived.Test.YtbdbmmdnidonjaaDoorJx
set_option linter.unusedVariables false
set_option linter.unusedSimpArgs false
set_option maxRecDepth 100000
namespace Go.Proofs.YtbdbmmdnidonjaaDoor.Lv
open Go.ChangeShapes Go.WideShapes Go.ChangeAt Go.RowKit Go.Deep

/-- The post of a law: one bool, true; the arguments and the named variables as they were. -/
theorem law_postv {H : Type} {enc : TypeId × Value → H} {P : Program} (hl : laidOutB P = true) {f : Func} {s : ChangeSpec} {W W' : World} {args : Array Value} {ds gs : List (DataW H)} {before : List MemPlace}
    (hvr : varsRowed P s.vars = true) (hr : ∀ t ∈ f.params.toList, P.readableRec t = true ∧ t < P.types.size) {tb : TypeId} (hres : f.resultTypes = #[tb]) (htb : P.underlying tb = some .bool)
    (hs : s.fn H (ds ++ gs) = { results := [.lit (.bool true)], args := ds, vars := gs })
    (hW : DataW.Whole enc P f.params.toList s.vars false W args.toList ds gs before) (hb : Below W.heap.size W W') :
    s.post enc P f false true false false W args (.bool true) W' := by
  have hW0 := hW
  obtain ⟨p, q, hA, hV, rfl, hz, hn⟩ := hW
  have hlt := hW0.lt
  refine ⟨ds, gs, p ++ q, [], p, q, hW0, ?_, ?_, ?_, hb.frame _, fun h => by cases h⟩
  · rw [hs, hres]
    exact ⟨[], [], shut_bool htb true, trodAll_mk0, rfl⟩
  · rw [hs]
    exact Lw.trodAll_below hl hb _ hr _ _ _ hA (fun x hx => hlt x (List.mem_append_left _ hx))
  · rw [hs]
    exact Below.trodVars hl hb hvr hV

theorem gs_one {H : Type} {enc : TypeId × Value → H} {P : Program} {W : World} {ts : List TypeId} {n : String} {vs : List Value} {ds gs : List (DataW H)} {before : List MemPlace} (hW : DataW.Whole enc P ts [n] false W vs ds gs before) : ∃ d, gs = [d] := by
  obtain ⟨p, q, hA, hV, _⟩ := hW
  obtain ⟨_, _, _, _, d, _, h, _⟩ := trodVars_one hV
  exact ⟨d, h⟩

theorem list_of {α : Type} {P : Nat → α → Prop} : ∀ (n : Nat), (∀ i, i < n → ∃ x, P i x) → ∃ xs : List α, xs.length = n ∧ ∀ i x, xs[i]? = some x → P i x
  | 0, _ => ⟨[], rfl, fun i x h => by simp at h⟩
  | n + 1, h => by
    obtain ⟨xs, hl, hx⟩ := list_of n (fun i hi => h i (by omega))
    obtain ⟨x, hp⟩ := h n (by omega)
    refine ⟨xs ++ [x], by simp [hl], fun i y hy => ?_⟩
    rcases Nat.lt_or_ge i n with hi | hi
    · rw [List.getElem?_append_left (by omega)] at hy
      exact hx i y hy
    · rw [List.getElem?_append_right (by omega), hl] at hy
      have h0 : i - n = 0 := by
        rcases Nat.eq_zero_or_pos (i - n) with h0 | h0
        · exact h0
        · rw [List.getElem?_eq_none (by simp; omega)] at hy; cases hy
      rw [h0] at hy
      obtain rfl : x = y := by simpa using hy
      obtain rfl : i = n := by omega
      exact hp

section
variable {H : Type} {enc : TypeId × Value → H} {P : Program} {w : World} {base : Nat} {spare : Nat → Bool} {held : Bool}
theorem open_slice_fields {t e : TypeId} {fs : Array Field} {fuel : Nat} {cs : List Value} {x : DataW H × List MemPlace} (ht : P.underlying t = some (.slice e)) (he : P.underlying e = some (.struct fs))
    (hone : oneCellFields P fs = true) (hC : P.cellsOf e = fs.size) (h : DataW.trod enc P w base spare held fuel t cs = some x) :
    (cs = [.slice none 0 0]) ∨
    ∃ (a : Addr) (len cap : Nat), cs = [.slice (some a) len cap] ∧ len ≤ cap ∧ cap ≤ maxLen ∧
      ∀ i, i < len → ∃ (n : Nat), ∀ (j : Nat) (f : Field), fs[j]? = some f → ∃ (v : Value) (y : DataW H × List MemPlace), w.cell? (a.add (i * fs.size + j)) = some v ∧ DataW.trod enc P w base spare held n f.type [v] = some y := by
  rcases open_slice ht h with h0 | ⟨a, len, cap, m, n, D, Pl, hcs, hb, hl, hm, hmm, hx, hi⟩
  · exact .inl h0.1
  · refine .inr ⟨a, len, cap, hcs, hl, hm, fun i hil => ?_⟩
    have him : i < m := by
      rw [hmm]; split <;> omega
    obtain ⟨cs', hc, ht'⟩ := hi i him
    rw [hC] at hc
    obtain ⟨ys, n', hn', hy, hlen, hyl, hf⟩ := DataW.trod_struct he ht'
    obtain ⟨_, hcl, hat⟩ := World.cells?_some hc
    refine ⟨n', fun j f hj => ?_⟩
    obtain ⟨ho, hk⟩ := hone_of hone j f hj
    have hjl : j < fs.size := (Array.getElem?_eq_some_iff.1 hj).1
    have hcell := hat j hjl
    have hv : cs'[j]? = some (cs'[j]'(by omega)) := List.getElem?_eq_getElem (by omega)
    have h1 := hf j f hj
    rw [ho, hk] at h1
    have hone' : (cs'.drop j).take 1 = [cs'[j]'(by omega)] := by
      rw [List.drop_eq_getElem_cons (by omega)]
      rfl
    rw [hone'] at h1
    have hys : ys[j]? = some (ys[j]'(by omega)) := List.getElem?_eq_getElem (by omega)
    refine ⟨_, _, ?_, h1.trans hys⟩
    rw [← Go.Deep.add_add, hcell, hv]
end

theorem none_sp {w : World} {a : Addr} {v : Value} (h : w.cell? (a.add 0) = some v) : a = ⟨a.block, a.off, none⟩ := by
  obtain ⟨b, off, sp⟩ := a
  cases sp with
  | none => rfl
  | some x =>
    exfalso
    simp only [World.cell?, Addr.add] at h
    split at h <;> simp at h

section
variable {H : Type} {enc : TypeId × Value → H} {w : World} {base : Nat} {spare : Nat → Bool} {held : Bool}
theorem open_mins {fuel : Nat} {v : Value} {x : DataW H × List MemPlace} (h : DataW.trod enc Tryd.prog w base spare held fuel 113 [v] = some x) : ∃ xs, MisAt w v xs ∧ xs.length ≤ 9223372036854775807 := by
  rcases open_slice_fields Tryd.underlying113 Tryd.underlying179 (by kernel_rfl) (by kernel_rfl) h with hc | ⟨a, len, cap, hc, hl, hm, hf⟩
  · obtain rfl : v = .slice none 0 0 := by simpa using hc
    exact ⟨[], ⟨none, 0, rfl, fun i x hi => by simp at hi⟩, by simp⟩
  · obtain rfl : v = .slice (some a) len cap := by simpa using hc
    unfold maxLen at hm
    have key : ∀ i, i < len → ∃ x : Mi, w.cell? (a.add (i * 5)) = some (.int .i64 x.op) ∧ w.cell? (a.add (i * 5 + 1)) = some (.int .i64 x.a) ∧ w.cell? (a.add (i * 5 + 2)) = some (.int .i64 x.b) ∧ w.cell? (a.add (i * 5 + 3)) = some (.int .i64 x.c) ∧ w.cell? (a.add (i * 5 + 4)) = some (.int .i64 x.n) := fun i hi => by
      obtain ⟨n, hj⟩ := hf i hi
      obtain ⟨v0, y0, c0, t0⟩ := hj 0 _ rfl
      obtain ⟨v1, y1, c1, t1⟩ := hj 1 _ rfl
      obtain ⟨v2, y2, c2, t2⟩ := hj 2 _ rfl
      obtain ⟨v3, y3, c3, t3⟩ := hj 3 _ rfl
      obtain ⟨v4, y4, c4, t4⟩ := hj 4 _ rfl
      obtain ⟨z0, e0, _⟩ := DataW.trod_int Tryd.underlying3 t0
      obtain ⟨z1, e1, _⟩ := DataW.trod_int Tryd.underlying3 t1
      obtain ⟨z2, e2, _⟩ := DataW.trod_int Tryd.underlying3 t2
      obtain ⟨z3, e3, _⟩ := DataW.trod_int Tryd.underlying3 t3
      obtain ⟨z4, e4, _⟩ := DataW.trod_int Tryd.underlying3 t4
      simp only [List.cons.injEq, and_true] at e0 e1 e2 e3 e4
      subst e0 e1 e2 e3 e4
      exact ⟨⟨z0, z1, z2, z3, z4⟩, c0, c1, c2, c3, c4⟩
    obtain ⟨xs, hxl, hx⟩ := list_of len key
    refine ⟨xs, ⟨some a, cap, by rw [hxl], fun i x hi => ?_⟩, by omega⟩
    have h0 := hx 0 (xs[0]'(by have := idx_lt hi; omega)) (List.getElem?_eq_getElem _)
    have ha := none_sp h0.1
    have h1 := hx i x hi
    rw [ha] at h1
    simp only [Arg.add_eq] at h1
    exact ⟨a.block, a.off, by rw [← ha], by simpa [Nat.add_assoc] using h1⟩

theorem open_mfns {fuel : Nat} {v : Value} {x : DataW H × List MemPlace} (h : DataW.trod enc Tryd.prog w base spare held fuel 36 [v] = some x) : ∃ fs, MfsAt w v fs ∧ fs.length ≤ 9223372036854775807 ∧ ∀ f ∈ fs, f.ins.length ≤ 9223372036854775807 := by
  rcases open_slice_fields Tryd.underlying36 Tryd.underlying115 (by kernel_rfl) (by kernel_rfl) h with hc | ⟨a, len, cap, hc, hl, hm, hf⟩
  · obtain rfl : v = .slice none 0 0 := by simpa using hc
    exact ⟨[], ⟨none, 0, rfl, fun i x hi => by simp at hi⟩, by simp, by simp⟩
  · obtain rfl : v = .slice (some a) len cap := by simpa using hc
    unfold maxLen at hm
    have key : ∀ i, i < len → ∃ f : Mf, f.ins.length ≤ 9223372036854775807 ∧ w.cell? (a.add (i * 3)) = some (.int .i64 f.params) ∧ w.cell? (a.add (i * 3 + 1)) = some (.int .i64 f.slots) ∧ ∃ iv, w.cell? (a.add (i * 3 + 2)) = some iv ∧ MisAt w iv f.ins := fun i hi => by
      obtain ⟨n, hj⟩ := hf i hi
      obtain ⟨v0, y0, c0, t0⟩ := hj 0 _ rfl
      obtain ⟨v1, y1, c1, t1⟩ := hj 1 _ rfl
      obtain ⟨v2, y2, c2, t2⟩ := hj 2 _ rfl
      obtain ⟨z0, e0, _⟩ := DataW.trod_int Tryd.underlying3 t0
      obtain ⟨z1, e1, _⟩ := DataW.trod_int Tryd.underlying3 t1
      obtain ⟨xs, hm, hl⟩ := open_mins t2
      simp only [List.cons.injEq, and_true] at e0 e1
      subst e0 e1
      exact ⟨⟨z0, z1, xs⟩, hl, c0, c1, v2, c2, hm⟩
    obtain ⟨fs, hfl, hx⟩ := list_of len key
    refine ⟨fs, ⟨some a, cap, by rw [hfl], fun i f hi => ?_⟩, by omega, fun f hm => ?_⟩
    · have h0 := hx 0 (fs[0]'(by have := idx_lt hi; omega)) (List.getElem?_eq_getElem _)
      have ha := none_sp h0.2.1
      obtain ⟨_, c0, c1, iv, c2, hmi⟩ := hx i f hi
      rw [ha] at c0 c1 c2
      simp only [Arg.add_eq] at c0 c1 c2
      exact ⟨a.block, a.off, iv, by rw [← ha], by simpa [Nat.add_assoc] using c0, by simpa [Nat.add_assoc] using c1, by simpa [Nat.add_assoc] using c2, hmi⟩
    · obtain ⟨i, hi⟩ := List.getElem?_of_mem hm
      exact (hx i f hi).1

/-- a program of the machine, as an argument -/
theorem open_mach {W : World} {r : Reach} {b0 : Nat} {v : Value} {d : DataW H} {p : List MemPlace} (hv : Value.okWide Tryd.prog W r b0 38 v) (h : DataW.Trod enc Tryd.prog W base spare held 38 v d p) :
    ∃ v0 fs, v = .agg #[v0] ∧ MfsAt W v0 fs ∧ fs.length ≤ 9223372036854775807 ∧ ∀ f ∈ fs, f.ins.length ≤ 9223372036854775807 := by
  obtain ⟨cs, rfl, hsz⟩ := okWide_struct Tryd.underlying38 hv
  obtain ⟨l⟩ := cs
  have hC : Tryd.prog.cellsOf 38 = 1 := by kernel_rfl
  match l, hsz.trans hC with
  | [c0], _ =>
    obtain ⟨fuel, hf⟩ := h
    obtain ⟨xs, n, _, _, _, hlen, hg⟩ := DataW.trod_struct Tryd.underlying38 hf
    have hk : Tryd.prog.cellsOf 36 = 1 := by kernel_rfl
    have h1 : DataW.trod enc Tryd.prog W base spare held n 36 ((([c0] : List Value).drop 0).take (Tryd.prog.cellsOf 36)) = xs[0]? := hg 0 _ rfl
    rw [hk] at h1
    have hys : ∃ y, xs[0]? = some y := ⟨_, List.getElem?_eq_getElem (by rw [hlen]; decide)⟩
    obtain ⟨y, hy⟩ := hys
    rw [hy] at h1
    obtain ⟨fs, h2, h3, h4⟩ := open_mfns h1
    exact ⟨c0, fs, rfl, h2, h3, h4⟩
end

/-- the table of forms, as the row lists it -/
theorem forms_of {W : World} {l : List (DataW Unit)} {ps : List MemPlace} {rest : List (String × DataW Unit)} (hl : ∀ i : Nat, 1 ≤ i → i ≤ 22 → l[i]? = some (.agg [.lit (.string (nameOf i).data.toList), .lit (.int .i64 (fieldsOf i))]))
    (h : DataW.LaidVars Tryd.prog W (("loop.example/wholeway/impl.forms", .agg l) :: rest) ps) : Forms W := by
  obtain ⟨g, t, cs, fuel, p, q, hg, ht, hvar, hd, _, _⟩ := h
  obtain rfl : 1 = g := Option.some.inj ((show Tryd.prog.globalNamed "loop.example/wholeway/impl.forms" = some 1 by kernel_rfl).symm.trans hg)
  obtain rfl : 198 = t := Option.some.inj ((show (Tryd.prog.globals[1]?).map (·.type) = some 198 by kernel_rfl).symm.trans ht)
  have hcell : ∀ j, W.cell? ⟨1, j, none⟩ = cs[j]? := fun j => by
    unfold World.var? at hvar
    rw [hg] at hvar
    simp only [Option.bind_some] at hvar
    cases hh : W.heap[1]? with
    | none => rw [hh] at hvar; cases hvar
    | some o =>
      rw [hh] at hvar
      cases o with
      | cells c t f =>
        obtain rfl : c = cs := by simpa using hvar
        rw [cell_of_row W _ j c t f hh]
      | _ => simp at hvar
  obtain ⟨xs, m, _, hx, _, hlen, hel⟩ := DataW.trod_array Tryd.underlying198 hd
  have hc2 : Tryd.prog.cellsOf 161 = 2 := by kernel_rfl
  have hcs : Tryd.prog.cellsOf 9 = 1 := by kernel_rfl
  have hci : Tryd.prog.cellsOf 3 = 1 := by kernel_rfl
  intro i h1 h22
  have hi := hel i (by omega)
  rw [hc2] at hi
  rw [List.getElem?_eq_getElem (by omega)] at hi
  obtain ⟨y0, y1, n, hy, hlc, t0, t1⟩ := trod_struct2 Tryd.underlying161 hi
  have hxi : (xs[i]'(by omega)).1 = .agg [.lit (.string (nameOf i).data.toList), .lit (.int .i64 (fieldsOf i))] := by
    have hx1 : (.agg l : DataW Unit) = .agg (xs.map (·.1)) := congrArg Prod.fst hx
    injection hx1 with hx1
    have h2 := hl i h1 h22
    rw [hx1, List.getElem?_map, List.getElem?_eq_getElem (by omega)] at h2
    simpa using h2
  rw [hy] at hxi
  simp only [DataW.agg.injEq, List.cons.injEq, and_true] at hxi
  obtain ⟨e0, e1⟩ := hxi
  have hw : (cs.toList.drop (i * 2)).length ≥ 2 := by
    have : ((cs.toList.drop (i * 2)).take 2).length = Tryd.prog.cellsOf 161 := hlc
    rw [hc2] at this
    simp only [List.length_take] at this
    omega
  obtain ⟨s, es, ys, _⟩ := DataW.trod_string Tryd.underlying9 t0
  obtain ⟨z, ez, yz, _⟩ := DataW.trod_int Tryd.underlying3 t1
  rw [ys] at e0
  rw [yz] at e1
  simp only [DataW.lit.injEq, Lit.string.injEq, Lit.int.injEq, true_and] at e0 e1
  have es' : (((cs.toList.drop (i * 2)).take 2).drop 0).take (Tryd.prog.cellsOf 9) = [.string s] := es
  have ez' : (((cs.toList.drop (i * 2)).take 2).drop 1).take (Tryd.prog.cellsOf 3) = [.int .i64 z] := ez
  rw [hcs] at es'
  rw [hci] at ez'
  have c0 := congrArg (·[0]?) es'
  have c1 := congrArg (·[0]?) ez'
  simp only [List.getElem?_take, List.getElem?_drop] at c0 c1
  simp at c0 c1
  have hsn : s = nameOf i := by
    cases s with
    | mk a =>
      have : a = (nameOf i).data := Array.toList_inj.1 e0
      rw [this]
  rw [hcell, hcell, c0, c1, hsn, e1]
  exact ⟨rfl, rfl⟩

end Go.Proofs.YtbdbmmdnidonjaaDoor.Lv

set_option maxRecDepth 100000
namespace Go.Proofs.YtbdbmmdnidonjaaDoor.Lv
open Go.ChangeShapes Go.WideShapes Go.ChangeAt Go.RowKit Go.Deep

theorem gs_two {H : Type} {enc : TypeId × Value → H} {P : Program} {W : World} {ts : List TypeId} {n1 n2 : String} {vs : List Value} {ds gs : List (DataW H)} {before : List MemPlace} (hW : DataW.Whole enc P ts [n1, n2] false W vs ds gs before) : ∃ d1 d2, gs = [d1, d2] := by
  obtain ⟨p, q, hA, hV, _⟩ := hW
  match gs, hV with
  | [], h => simp [DataW.TrodVars] at h
  | [d], h => obtain ⟨_, _, _, _, _, _, _, _, _, _, h5, _⟩ := h; simp [DataW.TrodVars] at h5
  | [d1, d2], _ => exact ⟨_, _, rfl⟩
  | d1 :: d2 :: d3 :: r, h =>
    obtain ⟨_, _, _, _, _, _, _, _, _, _, h5, _⟩ := h
    obtain ⟨_, _, _, _, _, _, _, _, _, _, h6, _⟩ := h5
    simp [DataW.TrodVars] at h6
theorem two_of {zs : List Int} {len : Nat} (h1 : (Go.ChangeShapes.lits (H := Unit) .u8 (zs.take len)) = [.lit (.int .u8 87), .lit (.int .u8 119)]) (h2 : Go.ChangeShapes.lits (H := Unit) .u8 (zs.drop len) = []) : zs = [87, 119] := by
  rw [← List.take_append_drop len zs]
  generalize zs.take len = t at *
  generalize zs.drop len = r at *
  have hr : r = [] := by
    cases r with
    | nil => rfl
    | cons x r => simp [Go.ChangeShapes.lits] at h2
  subst hr
  rw [List.append_nil]
  match t, h1 with
  | [], h => simp [Go.ChangeShapes.lits] at h
  | [x], h => simp [Go.ChangeShapes.lits] at h
  | [x, y], h => simpa [Go.ChangeShapes.lits] using h
  | x :: y :: z :: r, h => simp [Go.ChangeShapes.lits] at h
theorem magic_of {W : World} {ps : List MemPlace} {rest : List (String × DataW Unit)}
    (h : DataW.LaidVars Tryd.prog W (("loop.example/wholeway/impl.magic", .slice [.lit (.int .u8 87), .lit (.int .u8 119)] []) :: rest) ps) : Magic W := by
  obtain ⟨g, t, cs, fuel, p, q, hg, ht, hvar, hd, _, _⟩ := h
  obtain rfl : 0 = g := Option.some.inj ((show Tryd.prog.globalNamed "loop.example/wholeway/impl.magic" = some 0 by kernel_rfl).symm.trans hg)
  obtain rfl : 22 = t := Option.some.inj ((show (Tryd.prog.globals[0]?).map (·.type) = some 22 by kernel_rfl).symm.trans ht)
  have hcell : ∀ j, W.cell? ⟨0, j, none⟩ = cs[j]? := fun j => by
    unfold World.var? at hvar
    rw [hg] at hvar
    simp only [Option.bind_some] at hvar
    cases hh : W.heap[0]? with
    | none => rw [hh] at hvar; cases hvar
    | some o =>
      rw [hh] at hvar
      cases o with
      | cells c t f =>
        obtain rfl : c = cs := by simpa using hvar
        rw [cell_of_row W _ j c t f hh]
      | _ => simp at hvar
  rcases open_ints Tryd.underlying22 Tryd.underlying5 (by kernel_rfl) hd with ⟨_, hx⟩ | ⟨a, len, cap, zs, hcs, _, hl, hm, hz, hx, hc, _⟩
  · injection hx with hx; cases hx
  · injection hx with hx _
    injection hx with e1 e2
    have hzs := two_of e1.symm e2.symm
    subst hzs
    have hlen : len = 2 := by
      have h2 := congrArg List.length e1
      have h3 := congrArg List.length e2
      simp [Go.ChangeShapes.lits] at h2 h3
      simp at hz
      omega
    subst hlen
    have c0 := hc 0 (by simp)
    have c1 := hc 1 (by simp)
    have ha := none_sp c0
    obtain ⟨b, o, sp⟩ := a
    injection ha with _ _ h3
    subst h3
    refine ⟨b, o, cap, ?_, ?_, ?_⟩
    · rw [hcell 0]
      have : cs[0]? = cs.toList[0]? := by simp
      rw [this, hcs]; rfl
    · rw [Arg.add_eq] at c0; simpa using c0
    · rw [Arg.add_eq] at c1; simpa using c1

end Go.Proofs.YtbdbmmdnidonjaaDoor.Lv
