/- The tables of key words, operators and numbers that are tried, off the row's list. -/
import Derived.Test.YtpnliencahnmoaaGreatDoorQ28
import Derived.Test.YtpnliencahnmoaaGreatDoorQ24
set_option linter.unusedVariables false
set_option linter.unusedSimpArgs false
set_option linter.unusedVariables false
set_option linter.unusedSimpArgs false
set_option maxRecDepth 100000
namespace Go.Proofs.YtpnliencahnmoaaGreatDoor.Lv
open Go.ChangeShapes Go.WideShapes Go.ChangeAt Go.WideMaps Go.WideElems Go.RowKit Go.Deep
section
variable {H : Type} {enc : TypeId × Value → H} {P : Program} {w : World} {base : Nat} {spare : Nat → Bool} {held : Bool}
theorem bytes_of {s s' : ByteArray} (h : s.data.toList = s'.data.toList) : s = s' := by
  cases s; cases s'
  congr 1
  exact Array.toList_inj.1 h
theorem arr_strs {t e : TypeId} {n fuel : Nat} {cs : List Value} {p : List MemPlace} {l : List ByteArray} (ht : P.underlying t = some (.array n e)) (he : P.underlying e = some .string) (hC : P.cellsOf e = 1) (hCt : P.cellsOf t = n)
    (h : DataW.trod enc P w base spare held fuel t cs = some (.agg (l.map fun s => .lit (.string s.data.toList)), p)) : cs = l.map Value.string := by
  obtain ⟨xs, m, _, hx, hcl, hxl, hel⟩ := DataW.trod_array ht h
  have hx1 : (l.map fun s => (.lit (.string s.data.toList) : DataW H)) = xs.map (·.1) := by
    have h1 : (.agg (l.map fun s => .lit (.string s.data.toList)) : DataW H) = .agg (xs.map (·.1)) := congrArg Prod.fst hx
    injection h1
  have hll : l.length = n := by
    have := congrArg List.length hx1
    simpa [hxl] using this
  refine List.ext_getElem? fun i => ?_
  by_cases hi : i < n
  · have h1 := hel i hi
    rw [hC] at h1
    have hci : i < cs.length := by omega
    have hone : (cs.drop (i * 1)).take 1 = [cs[i]] := by
      rw [Nat.mul_one, List.drop_eq_getElem_cons hci]; rfl
    rw [hone] at h1
    have hxi : xs[i]? = some xs[i] := List.getElem?_eq_getElem (by omega)
    rw [hxi] at h1
    obtain ⟨s, e1, e2, _⟩ := DataW.trod_string he h1
    have h2 := congrArg (·[i]?) hx1
    simp only [List.getElem?_map] at h2
    rw [hxi, List.getElem?_eq_getElem (by omega)] at h2
    simp only [Option.map_some, Option.some.injEq] at h2
    rw [e2] at h2
    have h3 : l[i].data.toList = s.data.toList := by simpa using h2
    have h4 := bytes_of h3
    rw [List.getElem?_eq_getElem hci, List.getElem?_map, List.getElem?_eq_getElem (by omega)]
    have e1 : cs[i] = .string s := by simpa using e1
    rw [e1, ← h4]
    rfl
  · rw [List.getElem?_eq_none (by omega), List.getElem?_eq_none (by simp; omega)]
theorem arr_ints {t e : TypeId} {n fuel : Nat} {cs : List Value} {x : DataW H × List MemPlace} {l : List Int} (ht : P.underlying t = some (.array n e)) (he : P.underlying e = some (.int .i64)) (hC : P.cellsOf e = 1) (hCt : P.cellsOf t = n)
    (h : DataW.trod enc P w base spare held fuel t cs = some x) (hl : x.1 = .agg (l.map fun z => .lit (.int .i64 z))) : cs = l.map (Value.int .i64) := by
  obtain ⟨xs, m, _, hx, hcl, hxl, hel⟩ := DataW.trod_array ht h
  have hx1 : (l.map fun z => (.lit (.int .i64 z) : DataW H)) = xs.map (·.1) := by
    rw [hx] at hl
    injection hl with h1
    exact h1.symm
  have hll : l.length = n := by
    have := congrArg List.length hx1
    simpa [hxl] using this
  refine List.ext_getElem? fun i => ?_
  by_cases hi : i < n
  · have h1 := hel i hi
    rw [hC] at h1
    have hci : i < cs.length := by omega
    have hone : (cs.drop (i * 1)).take 1 = [cs[i]] := by
      rw [Nat.mul_one, List.drop_eq_getElem_cons hci]; rfl
    rw [hone] at h1
    have hxi : xs[i]? = some xs[i] := List.getElem?_eq_getElem (by omega)
    rw [hxi] at h1
    obtain ⟨z, e1, e2, _⟩ := DataW.trod_int he h1
    have h2 := congrArg (·[i]?) hx1
    simp only [List.getElem?_map] at h2
    rw [hxi, List.getElem?_eq_getElem (by omega)] at h2
    simp only [Option.map_some, Option.some.injEq] at h2
    rw [e2] at h2
    have h3 : l[i] = z := by simpa using h2
    rw [List.getElem?_eq_getElem hci, List.getElem?_map, List.getElem?_eq_getElem (by omega)]
    have e1 : cs[i] = .int .i64 z := by simpa using e1
    rw [e1, ← h3]
    rfl
  · rw [List.getElem?_eq_none (by omega), List.getElem?_eq_none (by simp; omega)]
theorem elemAt_si {e : TypeId} {f0 f1 : Field} {q1 : IntKind} (he : P.underlying e = some (.struct #[f0, f1])) (o0 : f0.offset = 0) (o1 : f1.offset = 1) (h0 : P.underlying f0.type = some .string) (h1 : P.underlying f1.type = some (.int q1)) (c0 : P.cellsOf f0.type = 1) (c1 : P.cellsOf f1.type = 1) (ce : P.cellsOf e = 2)
    {sp : Nat → Bool} {n : Nat} {v : Value} {z : DataW H × List MemPlace} (h : elemAt enc P w base sp held n e v = some z) :
    ∃ a b, v = .agg #[.string a, .int q1 b] ∧ z.1 = .agg [.lit (.string a.data.toList), .lit (.int q1 b)] := by
  unfold elemAt at h
  split at h
  · rename_i hf
    obtain ⟨y0, y1, m, rfl, hl, g0, g1⟩ := trod_struct2 he h
    obtain ⟨a, e0, rfl, wa⟩ := DataW.trod_string h0 g0
    obtain ⟨b, e1, rfl, wb⟩ := DataW.trod_int h1 g1
    cases v <;> simp [Value.formed, he] at hf
    rename_i cs
    obtain ⟨l⟩ := cs
    rw [ce] at hl
    simp [Value.cells] at hl e0 e1
    match l, hl with
    | [x0, x1], _ =>
      simp [c0, c1, o0, o1] at e0 e1
      subst e0 e1
      exact ⟨a, b, rfl, rfl⟩
  · cases h
end
/-- one listed variable: its cells, its block -/
theorem var_of {P : Program} {W : World} {n : String} {d : DataW Unit} {r : List (String × DataW Unit)} {ps : List MemPlace} {g : Nat} {t : TypeId} (hg : P.globalNamed n = some g) (ht : (P.globals[g]?).map (·.type) = some t) (h : DataW.LaidVars P W ((n, d) :: r) ps) :
    ∃ cs fuel p q, W.var? P n = some cs ∧ DataW.trod (fun _ => ()) P W 0 (fun _ => true) false fuel t cs.toList = some (d, p) ∧ DataW.LaidVars P W r q ∧ ps = MemPlace.row ⟨g, 0, none⟩ cs.size ++ p ++ q := by
  obtain ⟨g', t', cs, fuel, p, q, h1, h2, h3, h4, h5, h6⟩ := h
  obtain rfl : g = g' := Option.some.inj (hg.symm.trans h1)
  obtain rfl : t = t' := Option.some.inj (ht.symm.trans h2)
  exact ⟨cs, fuel, p, q, h3, h4, h5, h6⟩
theorem blk_of_var {P : Program} {W : World} {n : String} {cs : Array Value} {g : Nat} (hg : P.globalNamed n = some g) (hv : W.var? P n = some cs) (hc : ∃ c t, W.heap[g]? = some (.cells c t (0, 0))) : Blk W g cs.toList := by
  obtain ⟨c, t, hc⟩ := hc
  unfold World.var? at hv
  rw [hg] at hv
  simp only [Option.bind_some] at hv
  rw [hc] at hv
  obtain rfl : c = cs := by simpa using hv
  exact ⟨c, t, hc, rfl⟩
def keysD {H : Type} : DataW H := .agg (keyList.map fun s => .lit (.string s.data.toList))
def opsD {H : Type} : DataW H := .map [(.int .i64 3, .agg [.lit (.string [43]), .lit (.int .i64 3)]), (.int .i64 4, .agg [.lit (.string [45]), .lit (.int .i64 3)]), (.int .i64 5, .agg [.lit (.string [42]), .lit (.int .i64 4)]), (.int .i64 6, .agg [.lit (.string [47]), .lit (.int .i64 4)]), (.int .i64 7, .agg [.lit (.string [37]), .lit (.int .i64 4)]), (.int .i64 8, .agg [.lit (.string [60]), .lit (.int .i64 2)]), (.int .i64 9, .agg [.lit (.string [61]), .lit (.int .i64 2)]), (.int .i64 10, .agg [.lit (.string [38]), .lit (.int .i64 1)])]
def triesD {H : Type} : DataW H := .agg (([[0, 0, 0], [1, 2, 3], [255, 16, 7]] : List (List Int)).map fun l => .agg (l.map fun z => .lit (.int .i64 z)))
theorem opsD_at {op : Int} : (3 ≤ op ∧ op ≤ 10 → ∃ sg : List UInt8, ∀ zd : DataW Unit, opsD.atKey (.int .i64 op) zd = .agg [.lit (.string sg), .lit (.int .i64 (levN op))]) ∧ (¬ (3 ≤ op ∧ op ≤ 10) → ∀ zd : DataW Unit, opsD.atKey (.int .i64 op) zd = zd) := by
  refine ⟨fun h => ?_, fun h zd => ?_⟩
  · have hc : op = 3 ∨ op = 4 ∨ op = 5 ∨ op = 6 ∨ op = 7 ∨ op = 8 ∨ op = 9 ∨ op = 10 := by omega
    rcases hc with rfl | rfl | rfl | rfl | rfl | rfl | rfl | rfl <;> exact ⟨_, fun zd => rfl⟩
  · have e3 : ¬ (3 : Int) = op := by omega
    have e4 : ¬ (4 : Int) = op := by omega
    have e5 : ¬ (5 : Int) = op := by omega
    have e6 : ¬ (6 : Int) = op := by omega
    have e7 : ¬ (7 : Int) = op := by omega
    have e8 : ¬ (8 : Int) = op := by omega
    have e9 : ¬ (9 : Int) = op := by omega
    have e10 : ¬ (10 : Int) = op := by omega
    simp [opsD, DataW.atKey, Lit.sameKey, e3, e4, e5, e6, e7, e8, e9, e10]
theorem ops_of {W : World} {cs : Array Value} {fuel : Nat} {p : List MemPlace} (hv : W.var? Tryz.prog "loop.example/wholeway/impl.opSign" = some cs) (hd : DataW.trod (fun _ => ()) Tryz.prog W 0 (fun _ => true) false fuel 238 cs.toList = some (opsD, p)) : OpsAt W := by
  have hg : Tryz.prog.globalNamed "loop.example/wholeway/impl.opSign" = some 2 := by kernel_rfl
  rcases Go.WideElems.open_map Tryz.underlying238 hd with ⟨_, hx⟩ | ⟨bm, es, clock, m, rfl, hcs, hb, _, F, hx⟩
  · simp [opsD] at hx
  simp only [Prod.mk.injEq] at hx
  have hcell : W.cell? ⟨2, 0, none⟩ = some (.map (some bm)) := by
    have := World.var?_cell hg hv 0
    rw [Array.eq_one_of_toList hcs] at this
    simpa using this
  refine ⟨bm, hcell, (Array.getElem?_eq_some_iff.1 hb).1, fun w' hw' op hop => ?_⟩
  have hb' : w'.heap[bm]? = some (.map es clock) := by rw [hw']; exact hb
  have hkey : keyOf Tryz.prog 3 (.int .i64 op) = some (.int .i64 op) := Maps.keyOf_int_mk Tryz.underlying3 (by unfold I64 at hop; simp [Lit.wf, IntKind.min, IntKind.max, IntKind.signed, IntKind.bits]; omega)
  have zero : (zeroValue 237).run Tryz.prog w' = .ok (.agg #[.string ⟨#[]⟩, .int .i64 0]) w' := by kernel_rfl
  rcases Maps.fit_look false (w := w') (Maps.int_keyed Tryz.underlying3) Tryz.underlying238 zero hb' F hkey with ⟨hrun, _, hat⟩ | ⟨e0, y, _, _, hrun, hR, hat, _⟩
  · have h0 : ¬ (3 ≤ op ∧ op ≤ 10) := fun h => by
      obtain ⟨sg, hs⟩ := (opsD_at (op := op)).1 h
      have h1 := hat .nil
      rw [← hx.1, hs] at h1
      cases h1
    rw [levN_0 h0]
    exact ⟨_, hrun⟩
  · obtain ⟨a, b, he, hy⟩ := elemAt_si Tryz.underlying237 rfl rfl Tryz.underlying9 Tryz.underlying3 (by kernel_rfl) (by kernel_rfl) (by kernel_rfl) hR
    rw [he] at hrun
    by_cases h : 3 ≤ op ∧ op ≤ 10
    · obtain ⟨sg, hs⟩ := (opsD_at (op := op)).1 h
      have h1 := hat .nil
      rw [← hx.1, hs, hy] at h1
      have h2 : levN op = b := by simpa using (show _ ∧ _ by simpa using h1).2
      rw [h2]
      exact ⟨_, hrun⟩
    · have h1 := hat .nil
      rw [← hx.1, (opsD_at (op := op)).2 h, hy] at h1
      cases h1
theorem tables_of {W : World} (h : laidMet Tryz.prog [("loop.example/wholeway/impl.keys", keysD), ("loop.example/wholeway/impl.opSign", opsD), ("loop.example/wholeway/impl.tries", triesD)] W) : KS W ∧ TriesAt W := by
  obtain ⟨ps, hv, _, hfr⟩ := h
  have gk : Tryz.prog.globalNamed "loop.example/wholeway/impl.keys" = some 1 := by kernel_rfl
  have go : Tryz.prog.globalNamed "loop.example/wholeway/impl.opSign" = some 2 := by kernel_rfl
  have gt : Tryz.prog.globalNamed "loop.example/wholeway/impl.tries" = some 0 := by kernel_rfl
  obtain ⟨c1, f1, p1, q1, v1, d1, r1, rfl⟩ := var_of gk (t := 199) (by kernel_rfl) hv
  obtain ⟨c2, f2, p2, q2, v2, d2, r2, rfl⟩ := var_of go (t := 238) (by kernel_rfl) r1
  obtain ⟨c3, f3, p3, q3, v3, d3, r3, rfl⟩ := var_of gt (t := 120) (by kernel_rfl) r2
  have k1 : c1.toList = keyList.map Value.string := arr_strs Tryz.underlying199 Tryz.underlying9 (by kernel_rfl) (by kernel_rfl) d1
  have k3 : c3.toList = nats [0, 0, 0, 1, 2, 3, 255, 16, 7] := by
    obtain ⟨xs, m, _, hx, hcl, hxl, hel⟩ := DataW.trod_array Tryz.underlying120 d3
    have hC3 : Tryz.prog.cellsOf 120 = 9 := by kernel_rfl
    have hC : Tryz.prog.cellsOf 119 = 3 := by kernel_rfl
    rw [hC] at hel
    rw [hC3] at hcl
    have hx1 : (([[0, 0, 0], [1, 2, 3], [255, 16, 7]] : List (List Int)).map fun l => (.agg (l.map fun z => .lit (.int .i64 z)) : DataW Unit)) = xs.map (·.1) := by
      have h1 : (triesD : DataW Unit) = .agg (xs.map (·.1)) := congrArg Prod.fst hx
      unfold triesD at h1
      injection h1
    match xs, hxl, hx1, hel with
    | [x0, x1, x2], _, hx1, hel =>
      simp only [List.map_cons, List.map_nil, List.cons.injEq, and_true] at hx1
      obtain ⟨y0, y1, y2⟩ := hx1
      have a0 := arr_ints (l := [0, 0, 0]) Tryz.underlying119 Tryz.underlying3 (by kernel_rfl) (by kernel_rfl) (hel 0 (by decide)) y0.symm
      have a1 := arr_ints (l := [1, 2, 3]) Tryz.underlying119 Tryz.underlying3 (by kernel_rfl) (by kernel_rfl) (hel 1 (by decide)) y1.symm
      have a2 := arr_ints (l := [255, 16, 7]) Tryz.underlying119 Tryz.underlying3 (by kernel_rfl) (by kernel_rfl) (hel 2 (by decide)) y2.symm
      generalize c3.toList = L at *
      match L, hcl with
      | [b0, b1, b2, b3, b4, b5, b6, b7, b8], _ =>
        simp at a0 a1 a2
        simp [nats, a0, a1, a2]
  have s1 : 0 < c1.size := by rw [← Array.length_toList, k1]; decide
  have s3 : 0 < c3.size := by rw [← Array.length_toList, k3]; decide
  have b1 := blk_of_var gk v1 (hfr 1 0 (by simp only [List.mem_append]; exact .inl (.inl (MemPlace.mem_row.2 ⟨0, s1, rfl⟩)))).1
  have b3 := blk_of_var gt v3 (hfr 0 0 (by simp only [List.mem_append]; exact .inr (.inr (.inl (.inl (MemPlace.mem_row.2 ⟨0, s3, rfl⟩)))))).1
  rw [k1] at b1
  rw [k3] at b3
  exact ⟨⟨b1, ops_of v2 d2⟩, b3⟩
end Go.Proofs.YtpnliencahnmoaaGreatDoor.Lv
