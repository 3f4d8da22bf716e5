/- The reference's check of names: statements. -/
import Derived.Test.YtpnliencahnmoaaGreatDoorQ8
set_option linter.unusedVariables false
set_option linter.unusedSimpArgs false
set_option linter.unusedVariables false
set_option linter.unusedSimpArgs false
set_option maxRecDepth 100000
namespace Go.Proofs.YtpnliencahnmoaaGreatDoor
open Go.RowKit
theorem info_st : (Tryz.prog.info? 70).map (fun i => (i.zero, i.size, i.bytes)) = some (some (.agg #[.int .i64 0, .string .empty, .slice none 0 0, .slice none 0 0, .slice none 0 0]), 5, 96) := by kernel_rfl
/-- rows of different types are different rows -/
theorem rows_ne {B B' : Nat} {w : World} {iv fv : Value} {s s' n m : Nat} {ys zs : List Value} {t t' : TypeId} (ht : t ≠ t') (h : w.ownsRow B t s iv n ys) (k : w.ownsRow B' t' s' fv m zs) : ∀ q, iv.ownBlock = some q → fv.ownBlock ≠ some q := by
  intro q hq hq'
  rcases h.2 with ⟨rfl, _⟩ | ⟨g, cap, cur, rfl, _, hg, _⟩
  · simp [Value.ownBlock] at hq
  · rcases k.2 with ⟨rfl, _⟩ | ⟨g', cap', cur', rfl, _, hg', _⟩
    · simp [Value.ownBlock] at hq'
    · simp only [Value.ownBlock, Option.some.injEq] at hq hq'
      subst hq
      subst hq'
      rw [hg] at hg'
      simp at hg'
      exact ht hg'.2
theorem own_cap {w : World} {B : Nat} {e : TypeId} {size : Nat} {a : Option Addr} {n c : Nat} {xs : List Value} (h : w.ownsRow B e size (.slice a n c) n xs) : n ≤ c := by
  rcases h.2 with ⟨h2, h0⟩ | ⟨g, cap', cur, h2, hb, hg, hn, _⟩
  · omega
  · injection h2 with _ _ hc; omega
theorem innOf_foldl_snoc (inn : List ByteArray) (l : List St) (x : St) : (l ++ [x]).foldl innOf inn = innOf (l.foldl innOf inn) x := by simp
theorem chkL_snoc (f : List ByteArray → St → Bool) (inn : List ByteArray) (l : List St) (x : St) : chkL f inn (l ++ [x]) = (chkL f inn l && f (l.foldl innOf inn) x) := by
  induction l generalizing inn with
  | nil => simp [chkL]
  | cons y r ih => simp [chkL, ih, Bool.and_assoc]
theorem take_snoc' {α : Type} {l : List α} {k : Nat} {x : α} (h : l[k]? = some x) : l.take (k + 1) = l.take k ++ [x] := by
  rw [List.take_add_one, h]; rfl
theorem Known.snoc {vs : Vr} {s : ByteArray} {c b : Int} {x : ByteArray} : Known (vs ++ [(s, c, b)]) x ↔ x = s ∨ Known vs x := by
  constructor
  · rintro ⟨y, hy, e⟩
    rcases List.mem_append.1 hy with h | h
    · exact .inr ⟨y, h, e⟩
    · rw [List.mem_singleton] at h; subst h; exact .inl e.symm
  · rintro (rfl | ⟨y, hy, e⟩)
    · exact ⟨_, List.mem_append_right _ (List.mem_singleton.2 rfl), rfl⟩
    · exact ⟨y, List.mem_append_left _ hy, e⟩
theorem Dup.snoc {vs : Vr} {s : ByteArray} {c b : Int} {x : ByteArray} : Dup (vs ++ [(s, c, b)]) x b ↔ x = s ∨ Dup vs x b := by
  constructor
  · rintro ⟨i, y, hi, hy, hb, hm⟩
    by_cases hx : x = s
    · exact .inl hx
    · right
      rcases Nat.lt_or_ge i vs.length with hl | hl
      · rw [List.getElem?_append_left hl] at hi
        refine ⟨i, y, hi, hy, hb, fun j z hj hz => hm j z hj ?_⟩
        rw [List.getElem?_append_left (idx_lt hz)]; exact hz
      · have := idx_lt hi
        simp at this
        obtain rfl : i = vs.length := by omega
        simp at hi
        subst hi
        exact absurd hy.symm hx
  · rintro (rfl | ⟨i, y, hi, hy, hb, hm⟩)
    · refine ⟨vs.length, (x, c, b), by simp, rfl, rfl, fun j y hj hy => ?_⟩
      have := idx_lt hy
      simp at this
      omega
    · by_cases hx : x = s
      · subst hx
        refine ⟨vs.length, (x, c, b), by simp, rfl, rfl, fun j y hj hy => ?_⟩
        have := idx_lt hy
        simp at this
        omega
      · refine ⟨i, y, by rw [List.getElem?_append_left (idx_lt hi)]; exact hi, hy, hb, fun j z hj hz => ?_⟩
        rcases Nat.lt_or_ge j vs.length with hl | hl
        · rw [List.getElem?_append_left hl] at hz; exact hm j z hj hz
        · have := idx_lt hz
          simp at this
          obtain rfl : j = vs.length := by omega
          simp at hz
          subst hz
          exact fun e => hx e.symm
theorem Dup.over {vs : Vr} {b : Int} (h : ∀ y ∈ vs, y.2.2 ≤ b) {x : ByteArray} : ¬ Dup vs x (b + 1) := by
  rintro ⟨i, y, hi, _, hb, _⟩
  have := h y (List.mem_of_getElem? hi)
  omega
theorem Fr.reslice {fx : List Nat} {sv : Value} {w w' : World} {a : Option Addr} {n c m : Nat} (h : Fr fx sv w (.slice a n c) w') : Fr fx sv w (.slice a m c) w' := by
  refine ⟨h.only, ?_⟩
  have e : (Value.slice a m c).ownBlock = (Value.slice a n c).ownBlock := by cases a <;> rfl
  rw [e]; exact h.row
/-- how the variables stand: the block's own names, those around it -/
structure Sc (vs : Vr) (b : Int) (inn out : List ByteArray) (cnt : Int) (N : Nat) : Prop where
  known : ∀ x, Known vs x ↔ x ∈ inn ++ out
  dup : ∀ x, Dup vs x b ↔ x ∈ inn
  blk : ∀ y ∈ vs, y.2.2 ≤ b
  nums : ∀ x ∈ vs, 0 ≤ x.2.1 ∧ x.2.1 ≤ 1073741824
  cnt0 : 0 ≤ cnt
  cntN : cnt + N ≤ 1073741824
  lenN : vs.length + N ≤ 1073741824
theorem Sc.numsOk {vs : Vr} {b : Int} {inn out : List ByteArray} {cnt : Int} {N : Nat} (h : Sc vs b inn out cnt N) : NumsOk vs cnt := by
  have := h.cnt0; have := h.cntN; have := h.lenN
  exact ⟨h.cnt0, by omega, by omega, h.nums⟩
theorem Sc.put {vs : Vr} {b : Int} {inn out : List ByteArray} {cnt : Int} {N : Nat} (h : Sc vs b inn out cnt (N + 1)) (s : ByteArray) : Sc (vs ++ [(s, cnt, b)]) b (s :: inn) out (cnt + 1) N := by
  have h0 := h.cnt0; have h1 := h.cntN; have h2 := h.lenN
  refine ⟨fun x => ?_, fun x => ?_, fun y hy => ?_, fun y hy => ?_, by omega, by omega, by simp; omega⟩
  · rw [Known.snoc, h.known, List.cons_append, List.mem_cons]
  · rw [Dup.snoc, h.dup, List.mem_cons]
  · rcases List.mem_append.1 hy with hy | hy
    · exact h.blk y hy
    · rw [List.mem_singleton] at hy; subst hy; exact Int.le_refl _
  · rcases List.mem_append.1 hy with hy | hy
    · exact h.nums y hy
    · rw [List.mem_singleton] at hy; subst hy; simp only []; omega
theorem Sc.less {vs : Vr} {b : Int} {inn out : List ByteArray} {cnt cnt' : Int} {N N' : Nat} (h : Sc vs b inn out cnt N) (h0 : 0 ≤ cnt') (h1 : cnt' + N' ≤ cnt + N) (h2 : N' ≤ N) : Sc vs b inn out cnt' N' := by
  have a := h.cntN; have c := h.lenN
  exact ⟨h.known, h.dup, h.blk, h.nums, h0, by omega, by omega⟩
theorem Sc.inner {vs : Vr} {b : Int} {inn out : List ByteArray} {cnt : Int} {N : Nat} (h : Sc vs b inn out cnt N) : Sc vs (b + 1) [] (inn ++ out) cnt N :=
  ⟨fun x => by rw [List.nil_append]; exact h.known x, fun x => ⟨fun hd => absurd hd (Dup.over h.blk), fun hd => by cases hd⟩, fun y hy => by have := h.blk y hy; omega, h.nums, h.cnt0, h.cntN, h.lenN⟩
def StmtsP (fs : List Fx) (k d : Nat) (g : Nat) (fv : Value) (vv : Value) (vs : Vr) (cnt code b : Int) (inn out : List ByteArray) (ss : List St) (w : World) (e : Ending) (w' : World) : Prop :=
  ∃ (a : Option Addr) (l c : Nat) (vv' : Value) (vs' : Vr) (cnt' code' : Int), e = .returned (.slice a l c) ∧ (code' = 0 ↔ code = 0 ∧ chkL (fun i y => chkS fs k d i out y) inn ss = true) ∧ Wk w' g fv k vv' cnt' code' ∧ VsAt w' (g + 1) vv' vs' ∧ (0 < b → vs' = vs) ∧ Fr [g] vv w vv' w' ∧ cnt ≤ cnt' ∧ cnt' ≤ cnt + (ss.map (stCount d)).sum
theorem stOk_parts {d : Nat} {x : St} (h : stOk isNB d x = true) : ∃ d', d = d' + 1 ∧ x.args.all (exVal isNB) = true ∧ x.args.length ≤ 2 ∧ x.body.all (stOk isNB d') = true ∧ x.els.all (stOk isNB d') = true ∧ stCount d x = 1 + (x.body.map (stCount d')).sum + (x.els.map (stCount d')).sum := by
  cases d with
  | zero => simp [stOk] at h
  | succ d =>
    obtain ⟨op, name, args, body, els⟩ := x
    rw [stOk_eq] at h
    simp only [Bool.and_eq_true, decide_eq_true_eq] at h
    obtain ⟨⟨⟨⟨⟨⟨⟨_, hl⟩, _⟩, ha⟩, _⟩, _⟩, hb⟩, he⟩ := h
    refine ⟨d, rfl, ha, ?_, hb, he, rfl⟩
    show args.length ≤ 2
    split at hl <;> omega
theorem chkS_eq (fs : List Fx) (k d : Nat) (inn out : List ByteArray) (x : St) : chkS fs k (d + 1) inn out x = true ↔
    x.args.all (chkE fs k (inn ++ out) 6) = true ∧ (x.op = 1 → ¬ x.name ∈ inn) ∧ (x.op = 2 → x.name ∈ inn ++ out) ∧ chkL (fun i y => chkS fs k d i (innOf inn x ++ out) y) [] x.body = true ∧ chkL (fun i y => chkS fs k d i (innOf inn x ++ out) y) [] x.els = true := by
  have h1 : (if x.op = 1 then !memB inn x.name else true) = true ↔ (x.op = 1 → ¬ x.name ∈ inn) := by
    by_cases o : x.op = 1
    · rw [if_pos o, Bool.not_eq_true', ← Bool.not_eq_true, memB_iff]; exact ⟨fun h _ => h, fun h => h o⟩
    · rw [if_neg o]; exact ⟨fun _ h => absurd h o, fun _ => rfl⟩
  have h2 : (if x.op = 2 then memB (inn ++ out) x.name else true) = true ↔ (x.op = 2 → x.name ∈ inn ++ out) := by
    by_cases o : x.op = 2
    · rw [if_pos o, memB_iff]; exact ⟨fun h _ => h, fun h => h o⟩
    · rw [if_neg o]; exact ⟨fun _ h => absurd h o, fun _ => rfl⟩
  rw [chkS]
  simp only [Bool.and_eq_true, h1, h2, and_assoc]
theorem sum_one_le {α : Type} {f : α → Nat} {l : List α} (h : ∀ x ∈ l, 1 ≤ f x) : l.length ≤ (l.map f).sum := by
  induction l with
  | nil => simp
  | cons y r ih =>
    have a := h y List.mem_cons_self
    have b := ih (fun x hx => h x (List.mem_cons_of_mem _ hx))
    simp only [List.length_cons, List.map_cons, List.sum_cons]
    omega
theorem sum_drop {α : Type} (f : α → Nat) {l : List α} {k : Nat} {x : α} (h : l[k]? = some x) : ((l.drop k).map f).sum = f x + ((l.drop (k + 1)).map f).sum := by
  have hl := idx_lt h
  rw [List.getElem?_eq_getElem hl] at h
  injection h with h
  rw [← List.getElem_cons_drop hl, h]
  simp
/-- a statement on its way through l4Walk.stmts -/
structure MidS (g q : Nat) (fv : Value) (k : Int) (vvj : Value) (w1 : World) (code : Int) (box : List Value) (vv : Value) (vs : Vr) (cnt : Int) (P : Prop) (wx : World) : Prop where
  code : ∃ code', (code' = 0 ↔ code = 0 ∧ P) ∧ Wk wx g fv k vv cnt code'
  vs : VsAt wx (g + 1) vv vs
  box : Blk wx q box
  fr : Fr [g, q] vvj w1 vv wx
theorem MidS.ne {g q : Nat} {fv : Value} {k : Int} {vvj : Value} {w1 : World} {code : Int} {box : List Value} {vv : Value} {vs : Vr} {cnt : Int} {P : Prop} {wx : World} (h : MidS g q fv k vvj w1 code box vv vs cnt P wx) (hq : q < w1.heap.size) (hv : vvj.ownBlock ≠ some q) : vv.ownBlock ≠ some q := h.fr.ne hq hv
theorem MidS.step {g q : Nat} {fv : Value} {k : Int} {vvj : Value} {w1 : World} {code : Int} {box : List Value} {vv vv' : Value} {vs vs' : Vr} {cnt cnt' : Int} {P P' : Prop} {wx wy : World} (h : MidS g q fv k vvj w1 code box vv vs cnt P wx)
    (hq : q < w1.heap.size) (hgq : g < q) (hv : vvj.ownBlock ≠ some q) (hf : Fr [g] vv wx vv' wy) (hs : VsAt wy (g + 1) vv' vs') (hc : ∃ code', (code' = 0 ↔ code = 0 ∧ P') ∧ Wk wy g fv k vv' cnt' code') : MidS g q fv k vvj w1 code box vv' vs' cnt' P' wy :=
  ⟨hc, hs, hf.blk h.box (by simp; omega) (h.ne hq hv), h.fr.trans (hf.mono (fun x hx => by simp at hx; simp [hx]))⟩
theorem MidS.only {g q : Nat} {fv : Value} {k : Int} {vvj : Value} {w1 : World} {code : Int} {box : List Value} {vv : Value} {vs : Vr} {cnt : Int} {P P' : Prop} {wx wy : World} (h : MidS g q fv k vvj w1 code box vv vs cnt P wx)
    (hq : q < w1.heap.size) (hgq : g < q) (hv : vvj.ownBlock ≠ some q) (ho : Only [g] wx wy) (hc : ∃ code', (code' = 0 ↔ code = 0 ∧ P') ∧ Wk wy g fv k vv cnt code') : MidS g q fv k vvj w1 code box vv vs cnt P' wy :=
  h.step hq hgq hv (Fr.of_only ho) (ownsRow_only h.vs ho (fun b hb => by have := List.mem_singleton.1 hb; omega)) hc
theorem MidS.below {g q : Nat} {fv : Value} {k : Int} {vvj : Value} {w1 : World} {code : Int} {box : List Value} {vv : Value} {vs : Vr} {cnt : Int} {P : Prop} {wx wy : World} (h : MidS g q fv k vvj w1 code box vv vs cnt P wx) (hb : Below wx.heap.size wx wy) : MidS g q fv k vvj w1 code box vv vs cnt P wy := by
  obtain ⟨c, h1, h2⟩ := h.code
  exact ⟨⟨c, h1, h2.below hb⟩, ownsRow_below h.vs hb, h.box.below hb, h.fr.trans (Fr.below hb)⟩
theorem MidS.grown {g q : Nat} {fv : Value} {k : Int} {vvj : Value} {w1 : World} {code : Int} {box : List Value} {vv : Value} {vs : Vr} {cnt : Int} {P : Prop} {wx wy : World} {row : Option Nat} (h : MidS g q fv k vvj w1 code box vv vs cnt P wx) (hb : wx.grownBy wy row)
    (hg1 : g < w1.heap.size) (hq : q < w1.heap.size) (hr : ∀ z, row = some z → w1.heap.size ≤ z) (hv : ∀ z, row = some z → vv.ownBlock ≠ some z) : MidS g q fv k vvj w1 code box vv vs cnt P wy := by
  obtain ⟨c, h1, h2⟩ := h.code
  refine ⟨⟨c, h1, h2.grown hb (fun e => by have := hr _ e; omega)⟩, ownsRow_same h.vs (fun z hz => hb.block z (World.ownsRow.lt h.vs z hz).2 (fun e => hv z e.symm hz)), h.box.grown hb (fun e => by have := hr _ e; omega), ?_, ?_⟩
  · exact h.fr.only.grown hb (fun z hz => hr z hz)
  · exact h.fr.row
theorem MidS.set {g q : Nat} {fv : Value} {k : Int} {vvj : Value} {w1 : World} {code : Int} {box : List Value} {vv : Value} {vs : Vr} {cnt : Int} {P : Prop} {wx : World} (h : MidS g q fv k vvj w1 code box vv vs cnt P wx) (hq : q < w1.heap.size) (hgq : g < q) (hv : vvj.ownBlock ≠ some q) (j : Nat) (u : Value) :
    MidS g q fv k vvj w1 code (box.set j u) vv vs cnt P (wx.setCell ⟨q, j, none⟩ u) := by
  obtain ⟨c, h1, h2⟩ := h.code
  have hn := h.ne hq hv
  refine ⟨⟨c, h1, h2.other (by simp; omega) u⟩, ownsRow_same h.vs (fun z hz => Below.heap_setCell _ _ _ _ (fun e => hn (by rw [hz, e]))), h.box.set j u, h.fr.setIn (by simp) u⟩
theorem MidS.conv {g q : Nat} {fv : Value} {k : Int} {vvj : Value} {w1 : World} {code : Int} {box : List Value} {vv : Value} {vs : Vr} {cnt : Int} {P P' : Prop} {wx : World} (h : MidS g q fv k vvj w1 code box vv vs cnt P wx) (hp : P ↔ P') : MidS g q fv k vvj w1 code box vv vs cnt P' wx := by
  obtain ⟨c, h1, h2⟩ := h.code
  exact ⟨⟨c, by rw [h1, hp], h2⟩, h.vs, h.box, h.fr⟩
theorem Fr.drop_new {g Q : Nat} {sv sv1 sv2 : Value} {w w1 w2 : World} (h : Fr [g] sv w sv1 w1) (k : Fr [g, Q] sv1 w1 sv2 w2) (hQ : w.heap.size ≤ Q) : Fr [g] sv w sv2 w2 := by
  refine ⟨⟨k.only.os.trans h.only.os, k.only.tape.trans h.only.tape, k.only.output.trans h.only.output, Nat.le_trans h.only.size k.only.size, fun i hi hn => ?_⟩, ?_⟩
  · have hn1 : i ∉ [g] := fun hm => hn (List.mem_append_left _ hm)
    have hn2 : sv.ownBlock ≠ some i := fun e => hn (List.mem_append_right _ (by rw [e]; simp))
    rw [k.block (Nat.lt_of_lt_of_le hi h.only.size) (by simp at hn1 ⊢; omega) (h.ne hi hn2), h.block hi hn1 hn2]
  · rcases k.row with he | he
    · rw [he]; exact h.row
    · exact .inr fun i hi => Nat.le_trans h.only.size (he i hi)
theorem Fr.grownNew {fx : List Nat} {sv sv1 : Value} {w w1 w2 : World} {row : Option Nat} (h : Fr fx sv w sv1 w1) (hg : w1.grownBy w2 row) (hr : ∀ z, row = some z → w.heap.size ≤ z) : Fr fx sv w sv1 w2 := ⟨h.only.grown hg hr, h.row⟩
/-- between two statements -/
structure Btw (w : World) (g : Nat) (fv : Value) (k : Int) (vv : Value) (vs : Vr) (cnt code b : Int) (out : List ByteArray) (T N : Nat) (inn : List ByteArray) (P : Prop) (vv1 : Value) (vs1 : Vr) (cnt1 : Int) (wr : World) : Prop where
  code : ∃ code', (code' = 0 ↔ code = 0 ∧ P) ∧ Wk wr g fv k vv1 cnt1 code'
  va : VsAt wr (g + 1) vv1 vs1
  fr : Fr [g] vv w vv1 wr
  sc : Sc vs1 b inn out cnt1 N
  pre : ∃ l, vs1 = vs ++ l
  cnt0 : cnt ≤ cnt1
  cntT : cnt1 + N ≤ cnt + T
set_option maxHeartbeats 16000000 in
theorem l4stmts_any {w0 : World} {fs : List Fx} {fv : Value} (hfs : FxsAt w0 fv fs) {k g : Nat} (hg0 : w0.heap.size ≤ g) :
    ∀ (d : Nat) (ss : List St) (v : Value) (w : World) (vv : Value) (vs : Vr) (cnt code b : Int) (inn out : List ByteArray), ss.all (stOk isNB d) = true → StsAt w0 v ss → Below w0.heap.size w0 w → Wk w g fv k vv cnt code → VsAt w (g + 1) vv vs →
    Sc vs b inn out cnt (ss.map (stCount d)).sum → 0 ≤ b → b + d ≤ 100 →
    Calls Tryz.prog 152 #[.pointer (some ⟨g, 0, none⟩), v, .int .i64 b] w (StmtsP fs k d g fv vv vs cnt code b inn out ss w) := by
  intro d
  induction d using Nat.strongRecOn with
  | _ d ih =>
  intro ss v w vv vs cnt code b inn out hok hss hb0 hW hV hSc hbn hbd
  obtain ⟨a, cap, hform⟩ := hss.form
  subst hform
  rw [List.all_eq_true] at hok
  have hml : ss.length ≤ (ss.map (stCount d)).sum := sum_one_le (fun x hx => by obtain ⟨_, _, _, _, _, _, h⟩ := stOk_parts (hok x hx); omega)
  have hmN := hSc.cntN
  have hc0 := hSc.cnt0
  obtain ⟨m, hm⟩ : ∃ m, m = ss.length := ⟨_, rfl⟩
  rw [← hm] at hss hml ⊢
  have hm30 : m ≤ 1073741824 := by omega
  obtain ⟨va, vc, hvf⟩ := hV.form
  obtain ⟨vn, hvn⟩ : ∃ n, n = vs.length := ⟨_, rfl⟩
  have hvn30 : vn ≤ 1073741824 := by have := hSc.lenN; omega
  rw [← hvn] at hvf
  have HVF := Lib.hid hvf; have HVN := Lib.hid hvn; have HM := Lib.hid hm; have HS := Lib.hid hss; have HB0 := Lib.hid hb0; have HW := Lib.hid hW; have HV := Lib.hid hV; have HSC := Lib.hid hSc; have HOK := Lib.hid hok; have IH := Lib.hid ih; have HFS := Lib.hid hfs
  have hgl := hW.lt
  obtain ⟨_, _, c2, _, _⟩ := blkc5 hW
  rw [hvf] at c2
  obtain ⟨i0, hi, hz0, hz1, hz2⟩ := info_parts info_ex
  obtain ⟨j0, hj, hy0, hy1, hy2⟩ := info_parts info_st
  clear hok hss hb0 hW hV hSc ih hfs hvf hvn hm hml hmN hc0
  go_enter Tryz.func152, Tryz.ntmps152
  go_wp2_with (fail)
  clear c2
  go_loopw [7, 9] (fun ov i wr => ∃ (j : Nat) (xs : List Value) (vv1 : Value) (vs1 : Vr) (cnt1 : Int), j ≤ m ∧ i = .int .i64 j ∧ Hid (wr.ownsRow w.heap.size 70 5 ov j xs) ∧
    Hid (Btw w g fv k vv vs cnt code b out (ss.map (stCount d)).sum ((ss.drop j).map (stCount d)).sum ((ss.take j).foldl innOf inn) (chkL (fun i y => chkS fs k d i out y) inn (ss.take j) = true) vv1 vs1 cnt1 wr)) (fun _ i _ => m - (intOf i).toNat)
  case atStart => exact ⟨0, [], vv, vs, cnt, Nat.zero_le _, rfl, Lib.hid (ownsRow_empty w _ _), Lib.hid ⟨⟨code, by simp [chkL], HW.out.alloc _⟩, ownsRow_below HV.out (below1 _ _), Fr.below (below1 _ _), by simpa using HSC.out, ⟨[], by simp⟩, Int.le_refl _, by rw [List.drop_zero]; exact Int.le_refl _⟩⟩
  case round =>
  obtain ⟨j, xs, vvj, vsj, cntj, hjm, rfl, hR, hB⟩ := hrel
  obtain ⟨wo, rfl⟩ : ∃ wo : World, wo = wr := ⟨_, rfl⟩
  obtain ⟨on, oc, hof⟩ := rowForm hR.out
  subst hof
  have hgo : g < wo.heap.size := by obtain ⟨c, _, h⟩ := hB.out.code; exact h.lt
  have hwo := hB.out.fr.size
  by_cases hlt : j < m
  · have hkl : j < ss.length := by rw [← HM.out]; exact hlt
    obtain ⟨x, hx⟩ : ∃ x, x = ss[j] := ⟨_, rfl⟩
    have hxk : ss[j]? = some x := by rw [hx]; exact List.getElem?_eq_getElem hkl
    obtain ⟨bb, off, av, bv, ev, rfl, hbl, e0, e1, e2, e3, e4, hka, hkb, hke⟩ := HS.out.get hxk
    have hb1 : Below w0.heap.size w0 wo := hB.out.fr.only.below HB0.out HB0.out.size (fun z hz => by
      rcases List.mem_append.1 hz with hz | hz
      · have := List.mem_singleton.1 hz; omega
      · have hz : vv.ownBlock = some z := by simpa using hz
        have := ownBlock_of HV.out z hz; omega)
    have e0 := cellB hb1 e0; have e1 := cellB hb1 e1; have e2 := cellB hb1 e2; have e3 := cellB hb1 e3; have e4 := cellB hb1 e4
    obtain ⟨d', hd', hav, hal, hbok, heok, hcnt⟩ := stOk_parts (HOK.out x (List.mem_of_getElem? hxk))
    obtain ⟨aa, ac, haf⟩ := hka.form
    obtain ⟨ma, hma⟩ : ∃ n, n = x.args.length := ⟨_, rfl⟩
    rw [← hma] at haf hal
    rw [haf] at e2 hka
    obtain ⟨ba, bc, hbf⟩ := hkb.form
    obtain ⟨ea, ec, hef⟩ := hke.form
    obtain ⟨bl, hbl'⟩ : ∃ n, n = x.body.length := ⟨_, rfl⟩
    obtain ⟨el, hel'⟩ : ∃ n, n = x.els.length := ⟨_, rfl⟩
    rw [← hbl'] at hbf
    rw [← hel'] at hef
    subst hbf
    subst hef
    have HIH := Lib.hid (IH.out d' (by omega))
    have hsd := sum_drop (stCount d) hxk
    obtain ⟨Nb, hNb⟩ : ∃ n, n = (x.body.map (stCount d')).sum := ⟨_, rfl⟩
    obtain ⟨Ne, hNe⟩ : ∃ n, n = (x.els.map (stCount d')).sum := ⟨_, rfl⟩
    obtain ⟨Nr, hNr⟩ : ∃ n, n = ((ss.drop (j + 1)).map (stCount d)).sum := ⟨_, rfl⟩
    rw [hcnt, ← hNb, ← hNe, ← hNr] at hsd
    obtain ⟨innj, hinn⟩ : ∃ l, l = (ss.take j).foldl innOf inn := ⟨_, rfl⟩
    have HIN : Hid ((ss.take (j + 1)).foldl innOf inn = innOf innj x) := Lib.hid (by rw [take_snoc' hxk, innOf_foldl_snoc, hinn])
    obtain ⟨Pj, hPj⟩ : ∃ P : Prop, P = (chkL (fun i y => chkS fs k d i out y) inn (ss.take j) = true) := ⟨_, rfl⟩
    obtain ⟨PA, hPA⟩ : ∃ P : Prop, P = (x.args.all (chkE fs k (innj ++ out) 6) = true) := ⟨_, rfl⟩
    obtain ⟨P1, hP1⟩ : ∃ P : Prop, P = (x.op = 1 → ¬ x.name ∈ innj) := ⟨_, rfl⟩
    obtain ⟨P2, hP2⟩ : ∃ P : Prop, P = (x.op = 2 → x.name ∈ innj ++ out) := ⟨_, rfl⟩
    obtain ⟨PB, hPB⟩ : ∃ P : Prop, P = (chkL (fun i y => chkS fs k d' i (innOf innj x ++ out) y) [] x.body = true) := ⟨_, rfl⟩
    obtain ⟨PE, hPE⟩ : ∃ P : Prop, P = (chkL (fun i y => chkS fs k d' i (innOf innj x ++ out) y) [] x.els = true) := ⟨_, rfl⟩
    have HPJ : Hid ((chkL (fun i y => chkS fs k d i out y) inn (ss.take (j + 1)) = true) ↔ Pj ∧ PA ∧ P1 ∧ P2 ∧ PB ∧ PE) := Lib.hid (by
      rw [take_snoc' hxk, chkL_snoc, Bool.and_eq_true, ← hinn, hPj, hPA, hP1, hP2, hPB, hPE, hd', chkS_eq])
    rw [hsd, ← hinn, ← hPj] at hB
    have HPA := Lib.hid hPA; have HP1 := Lib.hid hP1; have HP2 := Lib.hid hP2
    have HKB := Lib.hid hkb; have HKE := Lib.hid hke; have HKA := Lib.hid hka; have HMA := Lib.hid hma; have HAV := Lib.hid hav
    have HBO := Lib.hid hbok; have HEO := Lib.hid heok; have HNB := Lib.hid hNb; have HNE := Lib.hid hNe; have HNR := Lib.hid hNr;
    have HPB := Lib.hid hPB; have HPE := Lib.hid hPE; have HDD := Lib.hid hd';
    obtain ⟨op, hop⟩ : ∃ o, o = x.op := ⟨_, rfl⟩
    obtain ⟨nm, hnm⟩ : ∃ o, o = x.name := ⟨_, rfl⟩
    rw [← hop] at e0
    rw [← hnm] at e1
    have HOP := Lib.hid hop; have HNM := Lib.hid hnm
    have k0 : (0 : Int) ≤ j := by omega
    have k1 : (j : Int) < m := by omega
    have hvq : vvj.ownBlock ≠ some wo.heap.size := fun e => by have := (World.ownsRow.lt hB.out.va _ e).2; omega
    clear hx hxk hb1 hka hkb hke hPj hPA hP1 hP2 hPB hPE hd' hav hbok heok hcnt haf hbl' hel' hma hsd hNb hNe hNr hinn hop hnm
    go_upto_region 7 with (fail)
    generalize hw1 : World.alloc _ _ = w1
    have HM1 : Hid (MidS g wo.heap.size fv k vvj w1 code [.int .i64 op, .string nm, .slice aa ma ac, .slice ba bl bc, .slice ea el ec] vvj vsj cntj Pj w1) := Lib.hid (by
      rw [← hw1]
      obtain ⟨c, h1, h2⟩ := hB.out.code
      exact ⟨⟨c, h1, h2.alloc _⟩, ownsRow_below hB.out.va (below1 _ _), Blk.new wo _ _, Fr.refl _ _ _⟩)
    have HR1 : Hid (w1.ownsRow w.heap.size 70 5 (.slice on j oc) j xs) := Lib.hid (by rw [← hw1]; exact hR.out.alloc _)
    have hs1 : wo.heap.size < w1.heap.size := by rw [← hw1]; simp
    have HFW1 : Hid (Fr [g] vv w vvj w1) := Lib.hid (by rw [← hw1]; exact hB.out.fr.alloc _)
    have HSCJ := Lib.hid hB.out.sc
    have HCT := Lib.hid hB.out.cntT
    have HC0 := Lib.hid hB.out.cnt0
    have HPRE := Lib.hid hB.out.pre
    have HRZ : Hid (∀ z, (Value.slice on j oc).ownBlock = some z → w.heap.size ≤ z ∧ z < wo.heap.size ∧ vvj.ownBlock ≠ some z) := Lib.hid (fun z hz => ⟨(World.ownsRow.lt hR.out z hz).1, (World.ownsRow.lt hR.out z hz).2, rows_ne (by decide) hR.out hB.out.va z hz⟩)
    clear hw1 hB hR e0 e1 e2 e3 e4
    have hgq : g < wo.heap.size := hgo
    obtain ⟨b0, b1, b2, b3, b4⟩ := blkc5 HM1.out.box
    go_wp2_with (fail)
    clear b0 b1 b2 b3 b4
    go_loopw [11, 12] (fun av' i wr => ∃ (t : Nat) (ys : List Value), t ≤ ma ∧ i = .int .i64 t ∧ Hid (wr.ownsRow w1.heap.size 67 4 av' t ys) ∧
      Hid (MidS g wo.heap.size fv k vvj w1 code [.int .i64 op, .string nm, .slice aa ma ac, .slice ba bl bc, .slice ea el ec] vvj vsj cntj (Pj ∧ (x.args.take t).all (chkE fs k (innj ++ out) 6) = true) wr)) (fun _ i _ => ma - (intOf i).toNat)
    case atStart => exact ⟨0, [], Nat.zero_le _, rfl, Lib.hid (ownsRow_empty w1 _ _), Lib.hid ((HM1.out.below (below1 _ _)).conv (by simp))⟩
    case round =>
    obtain ⟨t, ys, htm, rfl, hY, hE⟩ := hrel
    obtain ⟨wi, rfl⟩ : ∃ wi : World, wi = wr := ⟨_, rfl⟩
    obtain ⟨b0, b1, b2, b3, b4⟩ := blkc5 hE.out.box
    obtain ⟨yn, yc, hyf⟩ := rowForm hY.out
    subst hyf
    by_cases htl : t < ma
    · have hkl : t < x.args.length := by rw [← HMA.out]; exact htl
      obtain ⟨y, hy⟩ : ∃ y, y = x.args[t] := ⟨_, rfl⟩
      have hyk : x.args[t]? = some y := by rw [hy]; exact List.getElem?_eq_getElem hkl
      obtain ⟨b', off', kvy, rfl, hbl', e0, e1, e2, e3, hky⟩ := HKA.out.get hyk
      have hb1 : Below w0.heap.size w0 wi := (HFW1.out.drop_new hE.out.fr hwo).only.below HB0.out HB0.out.size (fun z hz => by
        rcases List.mem_append.1 hz with hz | hz
        · have := List.mem_singleton.1 hz; omega
        · have hz : vv.ownBlock = some z := by simpa using hz
          have := ownBlock_of HV.out z hz; omega)
      have e0 := cellB hb1 e0; have e1 := cellB hb1 e1; have e2 := cellB hb1 e2; have e3 := cellB hb1 e3
      obtain ⟨code1, hc1, hW1⟩ := hE.out.code
      have hval := List.all_eq_true.1 HAV.out y (List.mem_of_getElem? hyk)
      have HC := Lib.hid (l4expr_any HFS.out (names := innj ++ out) (fun z => by rw [memB_iff, HSCJ.out.known]) hg0 6 y kvy wi cntj code1 (by unfold exVal at hval; rw [Bool.and_eq_true] at hval; exact hval.1) (HKA.out.lens.2 t y hyk) hky hb1 hW1 hE.out.vs HSCJ.out.numsOk)
      have HC1 := Lib.hid hc1
      have HT := Lib.hid (all_take (chkE fs k (innj ++ out) 6) x.args t y hyk)
      have t0 : (0 : Int) ≤ t := by omega
      have t1 : (t : Int) < ma := by omega
      clear hy hyk hb1 hky hc1 hW1 hval
      go_wp2_with (fail)
      go_at_call 189
      refine HC.out.mono ?_
      rintro e w2 ⟨op', n', nm', a', l', c', rfl, ⟨code2, hc2, hW2⟩, hO⟩
      have HE2 : Hid (MidS g wo.heap.size fv k vvj w1 code [.int .i64 op, .string nm, .slice (some ⟨b', off', none⟩) ma ac, .slice ba bl bc, .slice ea el ec] vvj vsj cntj (Pj ∧ (x.args.take (t + 1)).all (chkE fs k (innj ++ out) 6) = true) w2) := Lib.hid (hE.out.only hs1 hgq hvq hO ⟨code2, by rw [hc2, HC1.out, HT.out, Bool.and_eq_true]; simp [and_assoc], hW2⟩)
      have HR2 := Lib.hid (ownsRow_only hY.out hO (fun b hb => by have := List.mem_singleton.1 hb; omega))
      have hlt3 : w1.heap.size ≤ w2.heap.size := HE2.out.fr.size
      clear hc2 hW2 hO HC hE hY b0 b1 b2 b3 b4 e0 e1 e2 e3
      go_wp2_with (first | (at_builtin; refine wpList_append_lies _ rfl (.tmp 37) (.tmp 45) 65 (by rfl) w1.heap.size 67 i0 _ 4 56 Tryz.underlying65 hi hz0 hz1 hz2 rfl (by decide) _ t ys (by rfl) (HR2.out.alloc _) ⟨w2.heap.size, 0, none⟩ 1 1 [.int .i64 op', .int .i64 n', .string nm', .slice a' l' c'] (by rfl) rfl (World.news_of_block (heap_alloc_new _ _)) (by simp [Value.oneCell']) (by decide) (by unfold maxLen; omega) (by omega) (by simp; omega) _ rfl ?_; intro g9 c9 w9 ho9 hg9 hat9 _; have HE9 := Lib.hid ((HE2.out.below (below1 w2 _)).grown hg9 (by omega) hs1 (fun q hq => ownBlock_of HR2.out q hq) (rows_ne (by decide) HR2.out HE2.out.vs)); have HO9 := Lib.hid ho9; clear ho9 hg9 hat9))
      go_roundw
      case rel => exact ⟨t + 1, _, by omega, by go_num, HO9, HE9⟩
      case measure => simp [intOf]; omega
    obtain rfl : ma = t := by omega
    have f2 := hE.out.box.frozen 2
    have HME := Lib.hid (hE.out.conv (P' := Pj ∧ PA) (by rw [HPA.out, show x.args.take ma = x.args by rw [HMA.out, List.take_length]]))
    clear hE hY htl htm
    go_upto_region 13 with (fail)
    generalize hw3 : wi.setCell _ _ = w3
    have HM3 : Hid (MidS g wo.heap.size fv k vvj w1 code [.int .i64 op, .string nm, .slice yn ma yc, .slice ba bl bc, .slice ea el ec] vvj vsj cntj (Pj ∧ PA) w3) := Lib.hid (by rw [← hw3]; exact HME.out.set hs1 hgq hvq 2 _)
    clear hw3 HME f2 b0 b1 b2 b3 b4
    obtain ⟨b0, b1, b2, b3, b4⟩ := blkc5 HM3.out.box
    have f1 := HM3.out.box.frozen 1
    go_upto_if 51 with (fail)
    go_cut [] from 52 to 57 (fun wx => ∃ (vv2 : Value) (vs2 : Vr) (cnt2 : Int) (nm2 : ByteArray), Hid (MidS g wo.heap.size fv k vvj w1 code [.int .i64 op, .string nm2, .slice yn ma yc, .slice ba bl bc, .slice ea el ec] vv2 vs2 cnt2 (Pj ∧ PA ∧ P1) wx) ∧
      Hid (Sc vs2 b (innOf innj x) out cnt2 (Nb + Ne + Nr) ∧ (∃ l, vs2 = vs ++ l) ∧ cnt ≤ cnt2 ∧ cnt2 + ((Nb + Ne + Nr : Nat) : Int) ≤ cnt + (ss.map (stCount d)).sum ∧ (op = 2 → nm2 = nm)))
    case first =>
      by_cases o1 : op = 1
      · subst o1
        obtain ⟨code3, hc3, hW3⟩ := HM3.out.code
        have HPU := Lib.hid (l4put_any w3 g fv k vvj cntj code3 vsj nm b hW3 HM3.out.vs HSCJ.out.numsOk)
        have HC3 := Lib.hid hc3
        clear hc3 hW3
        go_wp2_with (fail)
        go_at_call 151
        refine HPU.out.mono ?_
        rintro e w4 ⟨nm4, vv4, code4, rfl, hc4, hW4, hV4, hF4⟩
        have HM4 : Hid (MidS g wo.heap.size fv k vvj w1 code [.int .i64 1, .string nm, .slice yn ma yc, .slice ba bl bc, .slice ea el ec] vv4 (vsj ++ [(nm, cntj, b)]) (cntj + 1) (Pj ∧ PA ∧ P1) w4) := Lib.hid (HM3.out.step hs1 hgq hvq hF4 hV4 ⟨code4, by
          rw [hc4, HC3.out, HSCJ.out.dup, HP1.out, ← HOP.out, ← HNM.out]
          simp [and_assoc], hW4⟩)
        have f1 := HM4.out.box.frozen 1
        obtain ⟨b0, b1, b2, b3, b4⟩ := blkc5 HM4.out.box
        clear hc4 hW4 hV4 hF4
        go_wp2_with (fail)
        go_meet
        case rel =>
          refine ⟨vv4, _, _, nm4, Lib.hid (HM4.out.set hs1 hgq hvq 1 _), Lib.hid ⟨?_, ?_, by have := HC0.out; omega, by have := HCT.out; omega, fun h => absurd h (by decide)⟩⟩
          · have h1 : innOf innj x = nm :: innj := by unfold innOf; rw [if_pos HOP.out.symm, ← HNM.out]
            rw [h1]
            exact Sc.put (HSCJ.out.less HSCJ.out.cnt0 (by omega) (by omega)) nm
          · obtain ⟨l, hl⟩ := HPRE.out
            exact ⟨l ++ [(nm, cntj, b)], by rw [hl, List.append_assoc]⟩
      · have o1' := neI o1
        have HX := Lib.hid o1
        clear o1
        go_wp2_with (fail)
        go_meet
        case rel =>
          refine ⟨vvj, vsj, cntj, nm, Lib.hid (HM3.out.conv ?_), Lib.hid ⟨?_, HPRE.out, HC0.out, by have := HCT.out; omega, fun _ => rfl⟩⟩
          · rw [HP1.out, ← HOP.out]; simp [HX.out]
          · have h1 : innOf innj x = innj := by unfold innOf; rw [if_neg (by rw [← HOP.out]; exact HX.out)]
            rw [h1]
            exact HSCJ.out.less HSCJ.out.cnt0 (by omega) (by omega)
    case rest =>
    obtain ⟨vv2, vs2, cnt2, nm2, HM4, hp4⟩ := hcut
    obtain ⟨hsc2, hpre2, hc02, hct2, hnm2⟩ := hp4.out
    have HSC2 := Lib.hid hsc2; have HPRE2 := Lib.hid hpre2; have HC02 := Lib.hid hc02; have HCT2 := Lib.hid hct2; have HNM2 := Lib.hid hnm2
    clear hp4 hsc2 hpre2 hc02 hct2 hnm2 HM3 b0 b1 b2 b3 b4 f1
    obtain ⟨b0, b1, b2, b3, b4⟩ := blkc5 HM4.out.box
    have f1 := HM4.out.box.frozen 1
    go_upto_if 60 with (fail)
    go_cut [] from 61 to 65 (fun wx => ∃ nm3 : ByteArray, Hid (MidS g wo.heap.size fv k vvj w1 code [.int .i64 op, .string nm3, .slice yn ma yc, .slice ba bl bc, .slice ea el ec] vv2 vs2 cnt2 (Pj ∧ PA ∧ P1 ∧ P2) wx))
    case first =>
      by_cases o2 : op = 2
      · subst o2
        obtain rfl : nm2 = nm := HNM2.out rfl
        obtain ⟨code3, hc3, hW3⟩ := HM4.out.code
        have HU := Lib.hid (l4use_any wc g fv k vv2 cnt2 code3 _ vs2 nm2 hW3 HM4.out.vs HSC2.out.numsOk)
        have HC3 := Lib.hid hc3
        clear hc3 hW3
        go_wp2_with (fail)
        go_at_call 190
        refine HU.out.mono ?_
        rintro e w4 ⟨nm4, rfl, ⟨code4, hc4, hW4⟩, hO⟩
        have HM5 : Hid (MidS g wo.heap.size fv k vvj w1 code [.int .i64 2, .string nm2, .slice yn ma yc, .slice ba bl bc, .slice ea el ec] vv2 vs2 cnt2 (Pj ∧ PA ∧ P1 ∧ P2) w4) := Lib.hid (HM4.out.only hs1 hgq hvq hO ⟨code4, by
          have h1 : innOf innj x = innj := by unfold innOf; rw [if_neg (by rw [← HOP.out]; decide)]
          rw [hc4, HC3.out, HSC2.out.known, h1, HP2.out, ← HOP.out, ← HNM.out]
          simp [and_assoc], hW4⟩)
        have f1 := HM5.out.box.frozen 1
        obtain ⟨b0, b1, b2, b3, b4⟩ := blkc5 HM5.out.box
        clear hc4 hW4 hO
        go_wp2_with (fail)
        go_meet
        case rel => exact ⟨nm4, Lib.hid (HM5.out.set hs1 hgq hvq 1 _)⟩
      · have o2' := neI o2
        have HX := Lib.hid o2
        clear o2
        go_wp2_with (fail)
        go_meet
        case rel => exact ⟨nm2, Lib.hid (HM4.out.conv (by rw [HP2.out, ← HOP.out]; simp [HX.out]))⟩
    case rest =>
    obtain ⟨nm3, HM5⟩ := hcut
    clear HM4 b0 b1 b2 b3 b4 f1
    obtain ⟨b0, b1, b2, b3, b4⟩ := blkc5 HM5.out.box
    obtain ⟨code5, hc5, hW5⟩ := HM5.out.code
    have hb5 : Below w0.heap.size w0 wc := (HFW1.out.drop_new HM5.out.fr hwo).only.below HB0.out HB0.out.size (fun z hz => by
      rcases List.mem_append.1 hz with hz | hz
      · have := List.mem_singleton.1 hz; omega
      · have hz : vv.ownBlock = some z := by simpa using hz
        have := ownBlock_of HV.out z hz; omega)
    have HC5 := Lib.hid hc5
    have HCB := Lib.hid (HIH.out x.body _ wc vv2 vs2 cnt2 code5 (b + 1) [] (innOf innj x ++ out) HBO.out HKB.out hb5 hW5 HM5.out.vs (by rw [← HNB.out]; exact HSC2.out.inner.less HSC2.out.cnt0 (by omega) (by omega)) (by omega) (by have := HDD.out; omega))
    clear hc5 hW5 hb5
    go_wp2_with (fail)
    go_at_call 152
    refine HCB.out.mono ?_
    rintro e w5 ⟨ra, rl, rc, vv3, vs3, cnt3, code6, rfl, hc6, hW6, hV6, hvs6, hF6, hn6, hm6⟩
    obtain rfl := hvs6 (by omega)
    have HM6 : Hid (MidS g wo.heap.size fv k vvj w1 code [.int .i64 op, .string nm3, .slice yn ma yc, .slice ba bl bc, .slice ea el ec] vv3 vs3 cnt3 (Pj ∧ PA ∧ P1 ∧ P2 ∧ PB) w5) := Lib.hid (HM5.out.step hs1 hgq hvq hF6 hV6 ⟨code6, by rw [hc6, HC5.out, HPB.out]; simp [and_assoc], hW6⟩)
    rw [← HNB.out] at hm6
    have HSC6 := Lib.hid (HSC2.out.less (cnt' := cnt3) (N' := Ne + Nr) (by have := HSC2.out.cnt0; omega) (by omega) (by omega))
    have HC06 : Hid (cnt ≤ cnt3) := Lib.hid (by have := HC02.out; omega)
    have HCT6 : Hid (cnt3 + ((Ne + Nr : Nat) : Int) ≤ cnt + (ss.map (stCount d)).sum) := Lib.hid (by have := HCT2.out; omega)
    clear hc6 hW6 hV6 hvs6 hF6 hn6 hm6 HM5 HCB b0 b1 b2 b3 b4
    have fx := HM6.out.box.frozen 3
    obtain ⟨b0, b1, b2, b3, b4⟩ := blkc5 HM6.out.box
    go_upto_region 18 with (fail)
    generalize hwx : World.setCell _ _ _ = w6
    have HM7 : Hid (MidS g wo.heap.size fv k vvj w1 code [.int .i64 op, .string nm3, .slice yn ma yc, .slice ra rl rc, .slice ea el ec] vv3 vs3 cnt3 (Pj ∧ PA ∧ P1 ∧ P2 ∧ PB) w6) := Lib.hid (by rw [← hwx]; exact HM6.out.set hs1 hgq hvq 3 _)
    clear hwx HM6 fx b0 b1 b2 b3 b4
    obtain ⟨b0, b1, b2, b3, b4⟩ := blkc5 HM7.out.box
    obtain ⟨code7, hc7, hW7⟩ := HM7.out.code
    have hb7 : Below w0.heap.size w0 w6 := (HFW1.out.drop_new HM7.out.fr hwo).only.below HB0.out HB0.out.size (fun z hz => by
      rcases List.mem_append.1 hz with hz | hz
      · have := List.mem_singleton.1 hz; omega
      · have hz : vv.ownBlock = some z := by simpa using hz
        have := ownBlock_of HV.out z hz; omega)
    have HC7 := Lib.hid hc7
    have HCB := Lib.hid (HIH.out x.els _ w6 vv3 vs3 cnt3 code7 (b + 1) [] (innOf innj x ++ out) HEO.out HKE.out hb7 hW7 HM7.out.vs (by rw [← HNE.out]; exact HSC6.out.inner.less HSC6.out.cnt0 (by omega) (by omega)) (by omega) (by have := HDD.out; omega))
    clear hc7 hW7 hb7
    go_wp2_with (fail)
    go_at_call 152
    refine HCB.out.mono ?_
    rintro e w7 ⟨qa, ql, qc, vv4, vs4, cnt4, code8, rfl, hc8, hW8, hV8, hvs8, hF8, hn8, hm8⟩
    obtain rfl := hvs8 (by omega)
    have HM8 : Hid (MidS g wo.heap.size fv k vvj w1 code [.int .i64 op, .string nm3, .slice yn ma yc, .slice ra rl rc, .slice ea el ec] vv4 vs4 cnt4 (Pj ∧ PA ∧ P1 ∧ P2 ∧ PB ∧ PE) w7) := Lib.hid (HM7.out.step hs1 hgq hvq hF8 hV8 ⟨code8, by rw [hc8, HC7.out, HPE.out]; simp [and_assoc], hW8⟩)
    rw [← HNE.out] at hm8
    have HSC8 := Lib.hid (HSC6.out.less (cnt' := cnt4) (N' := Nr) (by have := HSC6.out.cnt0; omega) (by omega) (by omega))
    have HC08 : Hid (cnt ≤ cnt4) := Lib.hid (by have := HC06.out; omega)
    have HCT8 : Hid (cnt4 + ((Nr : Nat) : Int) ≤ cnt + (ss.map (stCount d)).sum) := Lib.hid (by have := HCT6.out; omega)
    clear hc8 hW8 hV8 hvs8 hF8 hn8 hm8 HM7 HCB b0 b1 b2 b3 b4
    have fx := HM8.out.box.frozen 4
    obtain ⟨b0, b1, b2, b3, b4⟩ := blkc5 HM8.out.box
    go_upto_region 19 with (fail)
    generalize hwx : World.setCell _ _ _ = w8
    have HM9 : Hid (MidS g wo.heap.size fv k vvj w1 code [.int .i64 op, .string nm3, .slice yn ma yc, .slice ra rl rc, .slice qa ql qc] vv4 vs4 cnt4 (Pj ∧ PA ∧ P1 ∧ P2 ∧ PB ∧ PE) w8) := Lib.hid (by rw [← hwx]; exact HM8.out.set hs1 hgq hvq 4 _)
    clear hwx HM8 fx b0 b1 b2 b3 b4
    obtain ⟨b0, b1, b2, b3, b4⟩ := blkc5 HM9.out.box
    have HRW : Hid (w8.ownsRow w.heap.size 70 5 (.slice on j oc) j xs) := Lib.hid (ownsRow_same HR1.out (fun z hz => by
      obtain ⟨h1, h2, h3⟩ := HRZ.out z hz
      exact HM9.out.fr.block (by omega) (by simp; omega) h3))
    have hs8 : w.heap.size ≤ w8.heap.size := by have := HM9.out.fr.size; omega
    have hj30 : j ≤ 1073741824 := by omega
    go_wp2_with (first | (at_builtin; refine wpList_append_lies _ rfl (.tmp 80) (.tmp 82) 62 (by rfl) w.heap.size 70 j0 _ 5 96 Tryz.underlying62 hj hy0 hy1 hy2 rfl (by decide) _ j xs (by rfl) (HRW.out.alloc _) ⟨w8.heap.size, 0, none⟩ 1 1 [.int .i64 op, .string nm3, .slice yn ma yc, .slice ra rl rc, .slice qa ql qc] (by rfl) rfl (World.news_of_block (heap_alloc_new _ _)) (by simp [Value.oneCell']) (by decide) (by unfold maxLen; omega) (by omega) (by simp; omega) _ rfl ?_; intro g9 c9 w9 ho9 hg9 hat9 _; have HG9 := Lib.hid hg9; have HO9 := Lib.hid ho9; clear ho9 hg9 hat9))
    go_roundw
    case rel =>
      refine ⟨j + 1, _, vv4, vs4, cnt4, by omega, by go_num, HO9, Lib.hid ?_⟩
      have hz : ∀ z, (Value.slice on j oc).ownBlock = some z → w.heap.size ≤ z := fun z hz => (HRZ.out z hz).1
      obtain ⟨c, h1, h2⟩ := HM9.out.code
      rw [← HNR.out, HIN.out]
      refine ⟨⟨c, by rw [h1, HPJ.out], (h2.alloc _).grown HG9.out (fun e => by have := hz _ e; omega)⟩, ?_, ((HFW1.out.drop_new HM9.out.fr hwo).alloc _).grownNew HG9.out hz, HSC8.out, HPRE2.out, HC08.out, HCT8.out⟩
      have hne := rows_ne (by decide) HRW.out HM9.out.vs
      exact ownsRow_same (ownsRow_below HM9.out.vs (below1 _ _)) (fun z hz' => HG9.out.block z (by have := (World.ownsRow.lt HM9.out.vs z hz').2; simp; omega) (fun e => hne z e.symm hz'))
    case measure => simp [intOf]; omega
  · obtain rfl : m = j := by omega
    obtain ⟨code1, hc1, hW1⟩ := hB.out.code
    have htk : ss.take m = ss := by rw [HM.out, List.take_length]
    rw [htk] at hc1
    obtain ⟨va1, vc1, hvf1⟩ := hB.out.va.form
    obtain ⟨n1, hn1⟩ : ∃ n, n = vsj.length := ⟨_, rfl⟩
    rw [← hn1] at hvf1
    subst hvf1
    obtain ⟨_, _, c2, _, _⟩ := blkc5 hW1
    have f2 := hW1.frozen 2
    have HB := Lib.hid hB.out
    have HC1 := Lib.hid hc1; have HW1 := Lib.hid hW1; have HN1 := Lib.hid hn1
    have hvn1 : vn ≤ n1 := by obtain ⟨l, hl⟩ := hB.out.pre; rw [hn1, hl, HVN.out]; simp
    have hn130 : n1 ≤ 1073741824 := by have := hB.out.sc.lenN; omega
    have hcT : cntj ≤ cnt + (ss.map (stCount d)).sum := by have := hB.out.cntT; omega
    have HCTF := Lib.hid hcT
    have hcap : n1 ≤ vc1 := own_cap (by have := HB.out.va; unfold VsAt at this; rw [← HN1.out] at this; exact this)
    clear hc1 hW1 hB hR htk hn1 hcT
    by_cases hb0 : 0 < b
    · have hcap2 : vn ≤ vc1 := by omega
      go_wp2_with (fail)
      go_ret
      have hvt : vsj.take vn = vs := by obtain ⟨l, hl⟩ := HB.out.pre; rw [hl, HVN.out, List.take_left]
      refine ⟨on, m, oc, .slice va1 vn vc1, vs, cntj, code1, rfl, HC1.out, HW1.out.set 2 _, ?_, fun _ => rfl, ?_, HB.out.cnt0, HCTF.out⟩
      · have h1 := HB.out.va.take HN1.out hvn1
        rw [hvt] at h1
        exact ownsRow_only h1 ((Only.refl [g] wo).setCell (p := ⟨g, 2, none⟩) (by simp) _) (fun b hb => by have := List.mem_singleton.1 hb; omega)
      · exact (HB.out.fr.reslice).setIn (a := ⟨g, 2, none⟩) (by simp) _
    · go_wp2_with (fail)
      go_ret
      exact ⟨on, m, oc, _, vsj, cntj, code1, rfl, HC1.out, HW1.out, HB.out.va, fun h => by omega, HB.out.fr, HB.out.cnt0, HCTF.out⟩
end Go.Proofs.YtpnliencahnmoaaGreatDoor
