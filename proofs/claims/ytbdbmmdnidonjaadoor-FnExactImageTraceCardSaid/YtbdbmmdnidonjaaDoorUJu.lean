/- How a function lies in bytes, on impl's side: layoutOf. The bytes of a function, on impl's side: EncodeFn. -/
import Derived.Test.YtbdbmmdnidonjaaDoorUJs
import Derived.Test.YtbdbmmdnidonjaaDoorUJp
import Derived.Test.YtbdbmmdnidonjaaDoorUJd
import Derived.Test.YtbdbmmdnidonjaaDoorUCe
import Derived.Deep.AppendLies
set_option linter.unusedVariables false
set_option linter.unusedSimpArgs false
set_option maxRecDepth 100000
namespace Go.Proofs.YtbdbmmdnidonjaaDoor
open Go.RowKit
/-- a layout: its block, which jumps are long, sizes, places -/
structure LayR (f : Mf) (B : Nat) (w : World) (pl lb : Nat) (iv sv pv : Value) : Prop where
 blk : Blk w pl [.int .i64 f.params, .int .i64 f.slots, iv, .slice (some ⟨lb, 0, none⟩) f.ins.length f.ins.length, sv, pv, .int .i64 ((totN (nisOf f) (longN (nisOf f)) : Nat) : Int)]
 lng : Blk w lb (bools (longN (nisOf f)))
 siz : w.ownsRow B 3 1 sv f.ins.length (nats (sizs (nisOf f) (longN (nisOf f)) f.ins.length))
 plc : w.ownsRow B 3 1 pv f.ins.length (nats (plcs (nisOf f) (longN (nisOf f)) f.ins.length))
def LayP (f : Mf) (iv : Value) (w : World) (e : Ending) (w' : World) : Prop :=
 ∃ v, e = .returned v ∧ Below w.heap.size w w' ∧ ((¬ CanS f ∧ v = .pointer none) ∨ (CanS f ∧ ∃ pl lb sv pv, v = .pointer (some ⟨pl, 0, none⟩) ∧ LayR f w.heap.size w' pl lb iv sv pv))
theorem row_ne_heap {w : World} {B q k n : Nat} {e t : TypeId} {v : Value} {ys : List Value} {cs : Array Value} {fr : Nat × Nat} (h : w.ownsRow B e k v n ys) (hq : w.heap[q]? = some (.cells cs t fr)) (ht : t ≠ e) : v.ownBlock ≠ some q := by
 rcases h.2 with ⟨rfl, _⟩ | ⟨g, cap, cur, rfl, _, hg, _⟩
 ·simp [Value.ownBlock]
 ·simp only [Value.ownBlock, ne_eq, Option.some.injEq]
  intro e
  subst e
  rw [hq] at hg
  simp only [Option.some.injEq, Obj.cells.injEq] at hg
  exact ht hg.2.1
/-- the row of functions -/
def GoodRow (B : Nat) (p s : Int) (iv : Value) (M : Nat) (fv : Value) (w : World) : Prop :=
 ∃ q1, OwnIns B w (.slice (some ⟨q1, 0, none⟩) 1 1) [⟨22, 0, 0, 0, 0⟩] ∧ w.ownsRow B 105 3 fv (M + 1) (alike (.slice (some ⟨q1, 0, none⟩) 1 1) M ++ [.int .i64 p, .int .i64 s, iv])
theorem GoodRow.below {B : Nat} {p s : Int} {iv : Value} {M : Nat} {fv : Value} {w w' : World} (h : GoodRow B p s iv M fv w) (hb : Below w.heap.size w w') : GoodRow B p s iv M fv w' := by
 obtain ⟨q1, h1, h2⟩ := h
 exact ⟨q1, h1.only (Only.of_below hb []) (by simp), ownsRow_below h2 hb⟩
theorem GoodRow.mfs {B : Nat} {p s : Int} {iv : Value} {M : Nat} {fv : Value} {w : World} {xs : List Mi} (h : GoodRow B p s iv M fv w) (hi : MisAt w iv xs) : MfsAt w fv (List.replicate M backF ++ [⟨p, s, xs⟩]) := by
 obtain ⟨q1, h1, h2⟩ := h
 have := MfsAt.last (fs := List.replicate M backF) (by rw [List.length_replicate]; exact h2) (by rw [alike_len, List.length_replicate]) (fun i f hi => by
  have hil := idx_lt hi
  rw [List.length_replicate] at hil
  obtain rfl : f = backF := by rw [List.getElem?_replicate] at hi; simp [hil] at hi; exact hi.symm
  obtain ⟨a0, a1, a2⟩ := alike_get (iv := .slice (some ⟨q1, 0, none⟩) 1 1) hil
  exact ⟨a0, a1, _, a2, h1⟩) hi
 exact this
/-- the program around the function, as it is made: what holds, by what has come up (region 8) -/
structure RF (w1 : World) (p s : Int) (iv : Value) (M : Nat) (d : Nat → Bool) (vs : Nat → Value) (w : World) : Prop where
 bel : Below w1.heap.size w1 w
 f0 : d 0 = true → vs 0 = .agg #[.int .i64 22, .int .i64 0, .int .i64 0, .int .i64 0, .int .i64 0]
 f1 : d 1 = true → ∃ q, vs 1 = .slice (some ⟨q, 0, none⟩) 1 1 ∧ OwnIns w1.heap.size w (.slice (some ⟨q, 0, none⟩) 1 1) [⟨22, 0, 0, 0, 0⟩]
 f2 : d 2 = true → ∃ q, vs 2 = .agg #[.int .i64 0, .int .i64 0, .slice (some ⟨q, 0, none⟩) 1 1] ∧ OwnIns w1.heap.size w (.slice (some ⟨q, 0, none⟩) 1 1) [⟨22, 0, 0, 0, 0⟩]
 f3 : d 3 = true → d 5 = false → ∃ q3 q, vs 3 = .slice (some ⟨q3, 0, none⟩) 1 1 ∧ Blk w q3 [.int .i64 0, .int .i64 0, .slice (some ⟨q, 0, none⟩) 1 1] ∧ OwnIns w1.heap.size w (.slice (some ⟨q, 0, none⟩) 1 1) [⟨22, 0, 0, 0, 0⟩]
 f4 : d 4 = true → vs 4 = .int .i64 (M : Int)
 f5 : d 5 = true → d 8 = false → ∃ g q, vs 5 = .slice (some ⟨g, 0, none⟩) M M ∧ w.ownsRow w1.heap.size 105 3 (.slice (some ⟨g, 0, none⟩) M M) M (alike (.slice (some ⟨q, 0, none⟩) 1 1) M) ∧ OwnIns w1.heap.size w (.slice (some ⟨q, 0, none⟩) 1 1) [⟨22, 0, 0, 0, 0⟩]
 f6 : d 6 = true → vs 6 = .agg #[.int .i64 p, .int .i64 s, iv]
 f7 : d 7 = true → d 8 = false → ∃ q, vs 7 = .slice (some ⟨q, 0, none⟩) 1 1 ∧ Blk w q [.int .i64 p, .int .i64 s, iv]
 f8 : d 8 = true → GoodRow w1.heap.size p s iv M (vs 8) w ∧ (vs 8).oneCell' = true
 f9 : d 9 = true → ∃ v8, vs 9 = .agg #[v8] ∧ GoodRow w1.heap.size p s iv M v8 w ∧ v8.oneCell' = true
 f10 : d 10 = true → ∃ q x, vs 10 = .pointer (some ⟨q, 0, none⟩) ∧ w1.heap.size ≤ q ∧ w.heap[q]? = some (.cells #[x] 25 (0, 0)) ∧ (d 11 = true → GoodRow w1.heap.size p s iv M x w)
 g9 : d 9 = true → d 8 = true
 g11 : d 11 = true → d 8 = true ∧ d 10 = true
theorem RF.below {w1 : World} {p s : Int} {iv : Value} {M : Nat} {d : Nat → Bool} {vs : Nat → Value} {w w' : World} (h : RF w1 p s iv M d vs w) (hb : Below w.heap.size w w') : RF w1 p s iv M d vs w' := by
 have ho : ∀ {v xs}, OwnIns w1.heap.size w v xs → OwnIns w1.heap.size w' v xs := fun h => h.only (Only.of_below hb []) (by simp)
 refine ⟨h.bel.trans (hb.mono h.bel.size), h.f0, fun k => ?_, fun k => ?_, fun k k' => ?_, h.f4, fun k k' => ?_, h.f6, fun k k' => ?_, fun k => ⟨(h.f8 k).1.below hb, (h.f8 k).2⟩, fun k => ?_, fun k => ?_, h.g9, h.g11⟩
 ·obtain ⟨q, h1, h2⟩ := h.f1 k
  exact ⟨q, h1, ho h2⟩
 ·obtain ⟨q, h1, h2⟩ := h.f2 k
  exact ⟨q, h1, ho h2⟩
 ·obtain ⟨q3, q, h1, h2, h3⟩ := h.f3 k k'
  exact ⟨q3, q, h1, h2.below hb, ho h3⟩
 ·obtain ⟨g, q, h1, h2, h3⟩ := h.f5 k k'
  exact ⟨g, q, h1, ownsRow_below h2 hb, ho h3⟩
 ·obtain ⟨q, h1, h2⟩ := h.f7 k k'
  exact ⟨q, h1, h2.below hb⟩
 ·obtain ⟨v8, h1, h2, h3⟩ := h.f9 k
  exact ⟨v8, h1, h2.below hb, h3⟩
 ·obtain ⟨q, x, h1, h2, h3, h4⟩ := h.f10 k
  exact ⟨q, x, h1, h2, by rw [hb.block q (Array.getElem?_eq_some_iff.1 h3).1]; exact h3, fun k => (h4 k).below hb⟩
set_option maxHeartbeats 8000000 in
theorem layout_any (w : World) (p s : Int) (iv : Value) (xs : List Mi) (hF : Forms w) (hm : MisAt w iv xs) (hn : xs.length ≤ 1048576) (hr : ∀ x ∈ xs, -9223372036854775808 ≤ x.n) :
  Calls Tryd.prog 146 #[.agg #[.int .i64 p, .int .i64 s, iv]] w (LayP ⟨p, s, xs⟩ iv w) := by
 obtain ⟨j0, hj, hw0, hw1, hw2⟩ := info_parts info_mf
 obtain ⟨f, hf⟩ : ∃ f : Mf, f = ⟨p, s, xs⟩ := ⟨_, rfl⟩
 obtain ⟨n, hnn⟩ : ∃ n, n = xs.length := ⟨_, rfl⟩
 have HMI := Lib.hid hm
 have HFO := Lib.hid hF
 obtain ⟨la, lc, rfl, hc⟩ := hm
 rw [← hnn] at hn HMI ⊢
 have HC : Hid (∀ i, i < n → ∃ b off, la = some ⟨b, off, none⟩ ∧ w.cell? ⟨b, off + i * 5, none⟩ = some (.int .i64 (miD xs i).op) ∧ w.cell? ⟨b, off + i * 5 + 1, none⟩ = some (.int .i64 (miD xs i).a) ∧ w.cell? ⟨b, off + i * 5 + 2, none⟩ = some (.int .i64 (miD xs i).b) ∧ w.cell? ⟨b, off + i * 5 + 3, none⟩ = some (.int .i64 (miD xs i).c) ∧ w.cell? ⟨b, off + i * 5 + 4, none⟩ = some (.int .i64 (miD xs i).n)) := Lib.hid (fun i hi => by
  have he : xs[i]? = some (miD xs i) := by simp [miD, List.getD_eq_getElem?_getD, ← hnn, hi]
  obtain ⟨b, off, h1, h2, h3, h4, h5, h6⟩ := hc i _ he
  exact ⟨b, off, h1, h2, h3, h4, h5, h6⟩)
 have HR : Hid (∀ i, i < n → -9223372036854775808 ≤ (miD xs i).n) := Lib.hid (fun i hi => by
  have he : xs[i]? = some (miD xs i) := by simp [miD, List.getD_eq_getElem?_getD, ← hnn, hi]
  exact hr _ (List.mem_of_getElem? he))
 obtain ⟨Q, hQ⟩ : ∃ Q, Q = LayP ⟨p, s, xs⟩ (.slice la n lc) w := ⟨_, rfl⟩
 have HNO : Hid (∀ w', ¬ CanS f → Below w.heap.size w w' → Q (.returned (.pointer none)) w') := Lib.hid (fun w' h hb => by
  rw [hQ, ← hf]; exact ⟨_, rfl, hb, .inl ⟨h, rfl⟩⟩)
 have HYES : Hid (∀ w' pl lb sv pv, CanS f → Below w.heap.size w w' → LayR f w.heap.size w' pl lb (.slice la n lc) sv pv → Q (.returned (.pointer (some ⟨pl, 0, none⟩))) w') := Lib.hid (fun w' pl lb sv pv h hb hl => by
  rw [hQ, ← hf]; exact ⟨_, rfl, hb, .inr ⟨h, _, _, _, _, rfl, hl⟩⟩)
 rw [← hQ]
 have HFE := Lib.hid hf
 have HNN := Lib.hid hnn
 clear hc hQ hf hnn hF hr
 go_enter Tryd.func146, Tryd.ntmps146
 go_wp2_with (fail)
 generalize hwa : w.alloc _ = w1
 have hsz1 : w1.heap.size = w.heap.size + 1 := by rw [← hwa]; simp
 have hX1 : Blk w1 w.heap.size [.int .i64 p, .int .i64 s, .slice la n lc] := by rw [← hwa]; exact Blk.new _ _ _
 have hb1 : Below w.heap.size w w1 := by rw [← hwa]; exact below1 _ _
 have HX1 := Lib.hid hX1; have HB1 := Lib.hid hb1; have HSZ := Lib.hid hsz1
 have x2 := (c3_of hX1).2.2
 clear hwa hX1 hb1 hsz1
 go_wp2_with (fail)
 clear x2
 go_loopw [3, 14] (fun m i wr => ∃ k : Nat, k ≤ n ∧ i = .int .i64 k ∧ m = .int .i64 ((earlK xs k : Nat) : Int) ∧ Hid (Below w1.heap.size w1 wr)) (fun _ i _ => n - (intOf i).toNat)
 case atStart => exact ⟨0, Nat.zero_le _, rfl, rfl, Lib.hid (Below.refl _ _)⟩
 case round =>
  obtain ⟨k, hk, rfl, rfl, HB⟩ := hrel
  obtain ⟨wo, rfl⟩ : ∃ wo : World, wo = wr := ⟨_, rfl⟩
  by_cases hlt : k < n
  ·have k0 : (0 : Int) ≤ k := by omega
   have k1 : (k : Int) < n := by omega
   obtain ⟨b, off, rfl, c0, c1, c2, c3, c4⟩ := HC.out k hlt
   have hN := HR.out k hlt
   have hst := earlK_step xs k
   have hle := earlK_le xs k
   have hle1 := earlK_le xs (k + 1)
   obtain ⟨x, hx⟩ : ∃ x, x = miD xs k := ⟨_, rfl⟩
   rw [← hx] at c0 c1 c2 c3 c4 hst hN
   obtain ⟨op, xa, xb, xc, N⟩ := x
   simp only at c0 c1 c2 c3 c4 hst hN
   obtain ⟨M, hM⟩ : ∃ M, M = earlK xs k := ⟨_, rfl⟩
   obtain ⟨M', hM'⟩ : ∃ M', M' = earlK xs (k + 1) := ⟨_, rfl⟩
   rw [← hM] at hst hle ⊢
   rw [← hM'] at hst hle1
   have hb := HB1.out.trans (HB.out.mono HB1.out.size)
   have t0 := cellB hb c0; have t1 := cellB hb c1; have t2 := cellB hb c2; have t3 := cellB hb c3; have t4 := cellB hb c4
   have HM' := Lib.hid hM'
   clear hb c0 c1 c2 c3 c4 hx hM hM'
   go_upto_if 20 with (fail)
   generalize hwx : wo.alloc _ = wx
   obtain ⟨hbx, e0, e1, e2, e3, e4⟩ := box5 hwx
   have HBX := Lib.hid (HB.out.trans (hbx.mono HB.out.size))
   clear hwx hbx t0 t1 t2 t3 t4 e1 e2 e3 HB
   by_cases hop : op = 14
   ·subst hop
    rw [if_pos rfl] at hst
    have hmin : ∀ (ts : Array TypeId) (t : TypeId) (W : World), (Builtin.min_ ts t #[.int .i64 N, .int .i64 4]).run Tryd.prog W = .ok (.int .i64 (min N 4)) W := fun ts t W => by
     rw [run_min_int2]
     congr 2
     split <;> omega
    have hmax : ∀ (ts : Array TypeId) (t : TypeId) (W : World), (Builtin.max_ ts t #[.int .i64 (M : Int), .int .i64 (min N 4 + 1)]).run Tryd.prog W = .ok (.int .i64 (M' : Int)) W := fun ts t W => by
     rw [run_max_int2, hst]
     congr 2
     split <;> omega
    have hs : IntKind.i64.wrap (min N 4 + 1) = min N 4 + 1 := IntWalk.i64_in _ (by omega)
    clear hst
    generalize min N 4 = mn at *
    go_wp2_with (fail)
    go_roundw
    case rel => exact ⟨k + 1, by omega, by go_num, by rw [← HM'.out], HBX⟩
    case measure => simp [intOf]; omega
   ·rw [if_neg hop] at hst
    have hMM : M' = M := by omega
    have hb14 : (op == 14) = false := by simpa using hop
    have hbn14 : (op != 14) = true := by simpa using hop
    clear hst hop
    go_wp2_with (fail)
    go_roundw
    case rel => exact ⟨k + 1, by omega, by go_num, by rw [← HM'.out, hMM], HBX⟩
    case measure => simp [intOf]; omega
  ·obtain rfl : n = k := by omega
   obtain ⟨M, hM⟩ : ∃ M, M = earlK xs n := ⟨_, rfl⟩
   have hM5 := earlK_le xs n
   rw [← hM] at hM5 ⊢
   have HM := Lib.hid hM
   have HXO := Lib.hid (HX1.out.below HB.out)
   obtain ⟨q0, q1, q2⟩ := c3_of HXO.out
   clear hM
   go_wp2_with (fail)
   go_cut [6] from 28 to 37 (fun mv wy => ∃ (fv : Value) (q : Nat), mv = .pointer (some ⟨q, 0, none⟩) ∧ Hid (MfsAt wy fv (aloneI f)) ∧ Hid (Below w1.heap.size w1 wy) ∧ Hid (wy.cell? ⟨q, 0, none⟩ = some fv))
   case first =>
    refine wp_region_facts (RF w1 p s (.slice la n lc) M) (by kernel_rfl) (by kernel_rfl) ?_ ?_ ?_ ?_
    ·intro vs
     exact ⟨HB.out.drew, (fun h => by cases h), (fun h => by cases h), (fun h => by cases h), (fun h => by cases h), (fun h => by cases h), (fun h => by cases h), (fun h => by cases h), (fun h => by cases h), (fun h => by cases h), (fun h => by cases h), (fun h => by cases h), (fun h => by cases h), (fun h => by cases h)⟩
    ·refine ⟨?_, ?_, ?_, ?_, ?_, ?_, ?_, ?_, ?_, ?_, ?_, ?_, trivial⟩
     ·-- 0
      intro d vs w' hF hdi hw K hK
      rw [frameOf_base (by kernel_rfl)] at hK ⊢
      simp only [frameB, oldV_lit, oldV_none, Act.put, List.setIfInBounds_toArray, List.set_cons_zero, List.set_cons_succ, List.getD_cons_zero, List.getD_cons_succ, Nat.zero_add, Nat.reduceAdd] at hK ⊢
      go_simp
      exact hK _ _ ⟨hF.bel, fun _ => rfl, hF.f1, hF.f2, hF.f3, hF.f4, hF.f5, hF.f6, hF.f7, hF.f8, hF.f9, hF.f10, hF.g9, hF.g11⟩
     ·-- 1
      intro d vs w' hF hdi hw K hK
      rw [frameOf_base (by kernel_rfl)] at hK ⊢
      simp only [frameB, oldV_lit, oldV_none, Act.put, List.setIfInBounds_toArray, List.set_cons_zero, List.set_cons_succ, List.getD_cons_zero, List.getD_cons_succ, Nat.zero_add, Nat.reduceAdd] at hK ⊢
      have d0 := hw.at 0 (by kernel_rfl)
      have e0 := hF.f0 d0
      simp only [d0, e0, cond_true] at hK ⊢
      go_simp
      have hG := hF.below (below1 w' (.cells #[.int .i64 22, .int .i64 0, .int .i64 0, .int .i64 0, .int .i64 0] 124))
      have hsz := hF.bel.size
      exact hK _ _ ⟨hG.bel, hG.f0, fun _ => ⟨_, rfl, backIns _ _ rfl hsz⟩, hG.f2, hG.f3, hG.f4, hG.f5, hG.f6, hG.f7, hG.f8, hG.f9, hG.f10, hG.g9, hG.g11⟩
     ·-- 2
      intro d vs w' hF hdi hw K hK
      rw [frameOf_base (by kernel_rfl)] at hK ⊢
      simp only [frameB, oldV_lit, oldV_none, Act.put, List.setIfInBounds_toArray, List.set_cons_zero, List.set_cons_succ, List.getD_cons_zero, List.getD_cons_succ, Nat.zero_add, Nat.reduceAdd] at hK ⊢
      have d1 := hw.at 1 (by kernel_rfl)
      obtain ⟨q1, e1, h1⟩ := hF.f1 d1
      simp only [d1, e1, cond_true] at hK ⊢
      go_simp
      exact hK _ _ ⟨hF.bel, hF.f0, hF.f1, fun _ => ⟨_, rfl, h1⟩, hF.f3, hF.f4, hF.f5, hF.f6, hF.f7, hF.f8, hF.f9, hF.f10, hF.g9, hF.g11⟩
     ·-- 3
      intro d vs w' hF hdi hw K hK
      rw [frameOf_base (by kernel_rfl)] at hK ⊢
      simp only [frameB, oldV_lit, oldV_none, Act.put, List.setIfInBounds_toArray, List.set_cons_zero, List.set_cons_succ, List.getD_cons_zero, List.getD_cons_succ, Nat.zero_add, Nat.reduceAdd] at hK ⊢
      have d2 := hw.at 2 (by kernel_rfl)
      obtain ⟨q1, e2, h1⟩ := hF.f2 d2
      simp only [d2, e2, cond_true] at hK ⊢
      go_simp
      have hb3 := below1 w' (.cells #[.int .i64 0, .int .i64 0, .slice (some ⟨q1, 0, none⟩) 1 1] 105)
      have hG := hF.below hb3
      exact hK _ _ ⟨hG.bel, hG.f0, hG.f1, hG.f2, fun _ _ => ⟨_, _, rfl, Blk.new _ _ _, h1.only (Only.of_below hb3 []) (by simp)⟩, hG.f4, hG.f5, hG.f6, hG.f7, hG.f8, hG.f9, hG.f10, hG.g9, hG.g11⟩
     ·-- 4
      intro d vs w' hF hdi hw K hK
      rw [frameOf_base (by kernel_rfl)] at hK ⊢
      simp only [frameB, oldV_lit, oldV_none, Act.put, List.setIfInBounds_toArray, List.set_cons_zero, List.set_cons_succ, List.getD_cons_zero, List.getD_cons_succ, Nat.zero_add, Nat.reduceAdd] at hK ⊢
      go_simp
      exact hK _ _ ⟨hF.bel, hF.f0, hF.f1, hF.f2, hF.f3, fun _ => rfl, hF.f5, hF.f6, hF.f7, hF.f8, hF.f9, hF.f10, hF.g9, hF.g11⟩
     ·-- 5
      intro d vs w' hF hdi hw K hK
      rw [frameOf_base (by kernel_rfl)] at hK ⊢
      simp only [frameB, oldV_lit, oldV_none, Act.put, List.setIfInBounds_toArray, List.set_cons_zero, List.set_cons_succ, List.getD_cons_zero, List.getD_cons_succ, Nat.zero_add, Nat.reduceAdd] at hK ⊢
      have d3 := hw.at 3 (by kernel_rfl)
      have d4 := hw.at 4 (by kernel_rfl)
      obtain ⟨q3, q1, e3, hb3, h1⟩ := hF.f3 d3 hdi
      have e4 := hF.f4 d4
      simp only [d3, d4, e3, e4, cond_true] at hK ⊢
      have HRE := repeat_any w' q3 M (.slice (some ⟨q1, 0, none⟩) 1 1) hM5 hb3 rfl
      go_simp
      refine HRE.mono ?_
      rintro e w5 ⟨g, rfl, hrow, hb5⟩
      have hG := hF.below hb5
      have hsz := hF.bel.size
      exact hK _ _ ⟨hG.bel, hG.f0, hG.f1, hG.f2, (fun _ h => by cases h), hG.f4, fun _ _ => ⟨_, _, rfl, ownsRow_mono hrow hsz, h1.only (Only.of_below hb5 []) (by simp)⟩, hG.f6, hG.f7, hG.f8, hG.f9, hG.f10, hG.g9, hG.g11⟩
     ·-- 6
      intro d vs w' hF hdi hw K hK
      rw [frameOf_base (by kernel_rfl)] at hK ⊢
      simp only [frameB, oldV_lit, oldV_none, Act.put, List.setIfInBounds_toArray, List.set_cons_zero, List.set_cons_succ, List.getD_cons_zero, List.getD_cons_succ, Nat.zero_add, Nat.reduceAdd] at hK ⊢
      obtain ⟨y0, y1, y2⟩ := c3_of (HX1.out.below hF.bel)
      go_simp
      exact hK _ _ ⟨hF.bel, hF.f0, hF.f1, hF.f2, hF.f3, hF.f4, hF.f5, fun _ => rfl, hF.f7, hF.f8, hF.f9, hF.f10, hF.g9, hF.g11⟩
     ·-- 7
      intro d vs w' hF hdi hw K hK
      rw [frameOf_base (by kernel_rfl)] at hK ⊢
      simp only [frameB, oldV_lit, oldV_none, Act.put, List.setIfInBounds_toArray, List.set_cons_zero, List.set_cons_succ, List.getD_cons_zero, List.getD_cons_succ, Nat.zero_add, Nat.reduceAdd] at hK ⊢
      have d6 := hw.at 6 (by kernel_rfl)
      have e6 := hF.f6 d6
      simp only [d6, e6, cond_true] at hK ⊢
      go_simp
      have hG := hF.below (below1 w' (.cells #[.int .i64 p, .int .i64 s, .slice la n lc] 105))
      exact hK _ _ ⟨hG.bel, hG.f0, hG.f1, hG.f2, hG.f3, hG.f4, hG.f5, hG.f6, fun _ _ => ⟨_, rfl, Blk.new _ _ _⟩, hG.f8, hG.f9, hG.f10, hG.g9, hG.g11⟩
     ·-- 8
      intro d vs w' hF hdi hw K hK
      rw [frameOf_base (by kernel_rfl)] at hK ⊢
      simp only [frameB, oldV_lit, oldV_none, Act.put, List.setIfInBounds_toArray, List.set_cons_zero, List.set_cons_succ, List.getD_cons_zero, List.getD_cons_succ, Nat.zero_add, Nat.reduceAdd] at hK ⊢
      have d5 := hw.at 5 (by kernel_rfl)
      have d7 := hw.at 7 (by kernel_rfl)
      obtain ⟨g, q1, e5, hrow, h1⟩ := hF.f5 d5 hdi
      obtain ⟨q7, e7, hb7⟩ := hF.f7 d7 hdi
      simp only [d5, d7, e5, e7, cond_true] at hK ⊢
      have hsz := hF.bel.size
      refine lies_wp rfl ?_
      refine step_append_lies (E := False) _ rfl _ _ 23 (by rfl) w1.heap.size 105 j0 _ 3 40 Tryd.underlying23 hj hw0 hw1 hw2 rfl (by decide) (.slice (some ⟨g, 0, none⟩) M M) M _ (by rfl) hrow ⟨q7, 0, none⟩ 1 1 [.int .i64 p, .int .i64 s, .slice la n lc] (by rfl) rfl (news_blk1 hb7) (by simp [Value.oneCell']) (by omega) (by unfold maxLen; omega) (by omega) hsz _ rfl ?_
      intro g8 c8 w8 ho8 hg8 _ _
      have hne : ∀ {t : TypeId} {cs : Array Value} {q : Nat}, w'.heap[q]? = some (.cells cs t (0, 0)) → t ≠ 105 → w8.heap[q]? = some (.cells cs t (0, 0)) := fun {t cs q} hq ht => by
        rw [hg8.block q (Array.getElem?_eq_some_iff.1 hq).1 (fun e => ?_)]
        ·exact hq
        ·have hgg := (row_full hrow).1
         simp only [Value.ownBlock, Option.some.injEq] at e
         subst e
         rw [hq] at hgg
         simp only [Option.some.injEq, Obj.cells.injEq] at hgg
         exact ht hgg.2.1
      have hoi : ∀ {q : Nat}, OwnIns w1.heap.size w' (.slice (some ⟨q, 0, none⟩) 1 1) [⟨22, 0, 0, 0, 0⟩] → OwnIns w1.heap.size w8 (.slice (some ⟨q, 0, none⟩) 1 1) [⟨22, 0, 0, 0, 0⟩] := fun {q} h => by
        obtain ⟨ys, hy, hx⟩ := h
        exact ⟨ys, hy.kept hg8 (ins_ne hy hrow), hx⟩
      have hG8 : GoodRow w1.heap.size p s (.slice la n lc) M (.slice (some ⟨g8, 0, none⟩) (M + 1) c8) w8 := ⟨q1, hoi h1, ho8⟩
      refine hK _ _ ⟨hF.bel.grown hg8 hsz (fun q hq => (World.ownsRow.lt hrow q hq).1), hF.f0, fun k => ?_, fun k => ?_, fun k k' => ?_, hF.f4, fun _ h => (by cases h), hF.f6, fun _ h => (by cases h), fun _ => ⟨hG8, rfl⟩, fun k => ?_, fun k => ?_, ?_, ?_⟩
      ·obtain ⟨q, a1, a2⟩ := hF.f1 k
       exact ⟨q, a1, hoi a2⟩
      ·obtain ⟨q, a1, a2⟩ := hF.f2 k
       exact ⟨q, a1, hoi a2⟩
      ·exact absurd (show d 5 = false from k') (by rw [d5]; decide)
      ·exact absurd (hF.g9 k) (by rw [hdi]; decide)
      ·obtain ⟨q, x, a1, a2, a3, a4⟩ := hF.f10 k
       exact ⟨q, x, a1, a2, hne a3 (by decide), fun k => absurd (hF.g11 k).1 (by rw [hdi]; decide)⟩
      ·exact fun _ => rfl
      ·exact fun k => ⟨rfl, (hF.g11 k).2⟩
     ·-- 9
      intro d vs w' hF hdi hw K hK
      rw [frameOf_base (by kernel_rfl)] at hK ⊢
      simp only [frameB, oldV_lit, oldV_none, Act.put, List.setIfInBounds_toArray, List.set_cons_zero, List.set_cons_succ, List.getD_cons_zero, List.getD_cons_succ, Nat.zero_add, Nat.reduceAdd] at hK ⊢
      have d8 := hw.at 8 (by kernel_rfl)
      obtain ⟨⟨q1, ho1, hr1⟩, _⟩ := hF.f8 d8
      obtain ⟨g8, c8, e8⟩ := own_form hr1 (by omega)
      rw [e8] at hr1
      simp only [d8, e8, cond_true] at hK ⊢
      go_simp
      exact hK _ _ ⟨hF.bel, hF.f0, hF.f1, hF.f2, hF.f3, hF.f4, hF.f5, hF.f6, hF.f7, hF.f8, fun _ => ⟨_, rfl, ⟨q1, ho1, hr1⟩, rfl⟩, hF.f10, fun _ => d8, hF.g11⟩
     ·-- 10
      intro d vs w' hF hdi hw K hK
      rw [frameOf_base (by kernel_rfl)] at hK ⊢
      simp only [frameB, oldV_lit, oldV_none, Act.put, List.setIfInBounds_toArray, List.set_cons_zero, List.set_cons_succ, List.getD_cons_zero, List.getD_cons_succ, Nat.zero_add, Nat.reduceAdd] at hK ⊢
      have hsz := hF.bel.size
      go_simp
      have hG := hF.below (below1 w' (.cells #[.slice none 0 0] 25))
      exact hK _ _ ⟨hG.bel, hG.f0, hG.f1, hG.f2, hG.f3, hG.f4, hG.f5, hG.f6, hG.f7, hG.f8, hG.f9, fun _ => ⟨_, _, rfl, hsz, heap_alloc_new w' _, fun h => absurd (hF.g11 h).2 (by rw [hdi]; decide)⟩, hG.g9, fun k => ⟨(hF.g11 k).1, rfl⟩⟩
     ·-- 11
      intro d vs w' hF hdi hw K hK
      rw [frameOf_base (by kernel_rfl)] at hK ⊢
      simp only [frameB, oldV_lit, oldV_none, Act.put, List.setIfInBounds_toArray, List.set_cons_zero, List.set_cons_succ, List.getD_cons_zero, List.getD_cons_succ, Nat.zero_add, Nat.reduceAdd] at hK ⊢
      have d10 := hw.at 10 (by kernel_rfl)
      have d9 := hw.at 9 (by kernel_rfl)
      have d8 := hw.at 8 (by kernel_rfl)
      have d5 := hw.at 5 (by kernel_rfl)
      obtain ⟨q, x, e10, hq, hx, _⟩ := hF.f10 d10
      obtain ⟨v8, e9, hgr, h81⟩ := hF.f9 d9
      obtain ⟨q1, ho1, hr1⟩ := hgr
      obtain ⟨g8, c8, rfl⟩ := own_form hr1 (by omega)
      simp only [d10, d9, d8, d5, e10, e9, cond_true] at hK ⊢
      have c0 : w'.cell? ⟨q, 0, none⟩ = some x := by rw [cell_of_row w' q 0 _ _ _ hx]; rfl
      have cf : w'.frozen? ⟨q, 0, none⟩ = false := frozen_of_row w' q 0 _ _ hx
      go_simp
      have ho : ∀ {v xs}, OwnIns w1.heap.size w' v xs → OwnIns w1.heap.size (w'.setCell ⟨q, 0, none⟩ (.slice (some ⟨g8, 0, none⟩) (M + 1) c8)) v xs := fun {v xs} h => by
        obtain ⟨ys, hy, hx'⟩ := h
        exact ⟨ys, ownsRow_same hy (fun k hk => Below.heap_setCell _ _ _ _ (fun e => row_ne_heap hy hx (by decide) (by rw [hk, e]))), hx'⟩
      have hr : ∀ {v n ys}, w'.ownsRow w1.heap.size 105 3 v n ys → (w'.setCell ⟨q, 0, none⟩ (.slice (some ⟨g8, 0, none⟩) (M + 1) c8)).ownsRow w1.heap.size 105 3 v n ys := fun {v n ys} h => ownsRow_same h (fun k hk => Below.heap_setCell _ _ _ _ (fun e => row_ne_heap h hx (by decide) (by rw [hk, e])))
      have hgo : ∀ {v}, GoodRow w1.heap.size p s (.slice la n lc) M v w' → GoodRow w1.heap.size p s (.slice la n lc) M v (w'.setCell ⟨q, 0, none⟩ (.slice (some ⟨g8, 0, none⟩) (M + 1) c8)) := fun {v} ⟨q2, a1, a2⟩ => ⟨q2, ho a1, hr a2⟩
      refine hK undef _ ⟨hF.bel.setCell (p := ⟨q, 0, none⟩) hq _, hF.f0, fun k => ?_, fun k => ?_, fun _ k' => ?_, hF.f4, fun _ k' => ?_, hF.f6, fun _ k' => ?_, fun k => ⟨hgo (hF.f8 k).1, (hF.f8 k).2⟩, fun k => ?_, fun k => ?_, hF.g9, fun _ => ⟨d8, d10⟩⟩
      ·obtain ⟨q, a1, a2⟩ := hF.f1 k
       exact ⟨q, a1, ho a2⟩
      ·obtain ⟨q, a1, a2⟩ := hF.f2 k
       exact ⟨q, a1, ho a2⟩
      ·exact absurd (show d 5 = false from k') (by rw [d5]; decide)
      ·exact absurd (show d 8 = false from k') (by rw [d8]; decide)
      ·exact absurd (show d 8 = false from k') (by rw [d8]; decide)
      ·obtain ⟨v, a1, a2, a3⟩ := hF.f9 k
       exact ⟨v, a1, hgo a2, a3⟩
      ·exact ⟨q, _, e10, hq, heap_setCell_same w' q 0 _ _ _ hx, fun _ => hgo ⟨q1, ho1, hr1⟩⟩
    ·intro vs w' hF
     rw [frameOf_base (by kernel_rfl)]
     obtain ⟨q, x, e10, hq, hx, hg⟩ := hF.f10 rfl
     have hgr := hg rfl
     have hc0 : w'.cell? ⟨q, 0, none⟩ = some x := by rw [cell_of_row w' q 0 _ _ _ hx]; rfl
     have hmf := hgr.mfs (HMI.out.below (HB1.out.trans (hF.bel.mono HB1.out.size)))
     have hal : aloneI f = List.replicate M backF ++ [⟨p, s, xs⟩] := by rw [HFE.out]; unfold aloneI; simp only []; rw [← HNN.out, ← HM.out]
     rw [← hal] at hmf
     have HMF := Lib.hid hmf; have HBW := Lib.hid hF.bel; have HC0 := Lib.hid hc0
     simp only [frameB, oldV_lit, oldV_none, Act.put, List.setIfInBounds_toArray, List.set_cons_zero, List.set_cons_succ, List.getD_cons_zero, List.getD_cons_succ, Nat.zero_add, Nat.reduceAdd, cond_true, e10]
     clear hF hq hx hg hgr hc0 hmf hal e10
     go_wp2_with (fail)
     go_meet
     exact ⟨x, q, rfl, HMF, HBW, HC0⟩
    ·intro d vs w' hd hF
     refine ⟨hF.bel, fun _ => hF.f0 (hd 0 (by decide)), fun _ => hF.f1 (hd 1 (by decide)), fun _ => hF.f2 (hd 2 (by decide)), (fun _ h => by cases h), fun _ => hF.f4 (hd 4 (by decide)), (fun _ h => by cases h), fun _ => hF.f6 (hd 6 (by decide)), (fun _ h => by cases h), fun _ => hF.f8 (hd 8 (by decide)), fun _ => hF.f9 (hd 9 (by decide)), fun _ => ?_, fun _ => rfl, fun _ => ⟨rfl, rfl⟩⟩
     obtain ⟨q, x, a1, a2, a3, a4⟩ := hF.f10 (hd 10 (by decide))
     exact ⟨q, x, a1, a2, a3, fun _ => a4 (hd 11 (by decide))⟩
   case rest =>
    obtain ⟨fv, q, rfl, HMF, HBW, HC0⟩ := hcut
    have hc0 := HC0.out
    have HVA := Lib.hid (machValid_any wc fv (aloneI f) (HFO.out.below (HB1.out.trans (HBW.out.mono HB1.out.size))) HMF.out (aloneI_le (by rw [HFE.out]; simp only []; rw [← HNN.out]; exact hn)))
    clear q0 q1 q2 hlt
    go_wp2_with (fail)
    go_at_call 74
    refine HVA.out.mono ?_
    rintro e w5 ⟨ok, rfl, hok, hb5⟩
    have HB5 := Lib.hid (HB1.out.trans ((HBW.out.trans (hb5.mono HBW.out.size)).mono HB1.out.size))
    have HX5 := Lib.hid ((HX1.out.below HBW.out).below hb5)
    have HOK := Lib.hid hok
    clear hb5 hok hc0 HVA HMF HBW HC0 HX1 HXO HB HM hM5
    cases ok with
    |false =>
     have HNC : Hid (¬ CanS f) := Lib.hid (fun h => by have := HOK.out.2 ((alone_ok f).2 h.1); cases this)
     go_wp2_with (fail)
     exact HNO.out _ HNC.out HB5.out
    |true =>
     have HMO : Hid (MachOk (aloneS f)) := Lib.hid ((alone_ok f).1 (HOK.out.1 rfl))
     have hFB := CanS.fn HMO.out
     have HFL : Hid (f.ins = xs) := Lib.hid (by rw [HFE.out])
     have hn2 : n ≤ 2000 := by have := hFB.len; rw [HFL.out, ← HNN.out] at this; exact this
     have hn0 : 0 < n := by have := hFB.pos; rw [HFL.out, ← HNN.out] at this; exact this
     obtain ⟨ib, io, rfl, hc0, _⟩ := HC.out 0 hn0
     have hibl := World.block_lt_of_cell? w _ hc0
     simp only at hibl
     obtain ⟨ns, hns⟩ : ∃ ns, ns = nisOf f := ⟨_, rfl⟩
     have hnl : ns.length = n := by rw [hns, nisOf_len, HFL.out, ← HNN.out]
     have hnia : NisAt w (.slice (some ⟨ib, io, none⟩) n lc) ns := by
      refine NisAt.of ?_
      rw [hns, hFB.mi, HFL.out]; exact HMI.out
     have HCN : Hid (∀ i, i < n → w.cell? ⟨ib, io + i * 5, none⟩ = some (.int .i64 ((niAt ns i).op : Int)) ∧ w.cell? ⟨ib, io + i * 5 + 1, none⟩ = some (.int .i64 ((niAt ns i).a : Int)) ∧ w.cell? ⟨ib, io + i * 5 + 2, none⟩ = some (.int .i64 ((niAt ns i).b : Int)) ∧ w.cell? ⟨ib, io + i * 5 + 3, none⟩ = some (.int .i64 ((niAt ns i).c : Int)) ∧ w.cell? ⟨ib, io + i * 5 + 4, none⟩ = some (.int .i64 ((niAt ns i).n : Int))) := Lib.hid (by
      obtain ⟨a, cap, hv, hc⟩ := hnia
      injection hv with e1 e2 e3
      intro i hi
      obtain ⟨b, off, ha, h0, h1, h2, h3, h4⟩ := hc i (by omega)
      rw [ha] at e1
      injection e1 with e1; injection e1 with e4 e5 e6; subst e4 e5
      exact ⟨h0, h1, h2, h3, h4⟩)
     have HNI := Lib.hid hnia
     have HBK : Hid (∀ i, i < n → BOk (niAt ns i)) := Lib.hid (by rw [hns]; rw [hns] at hnl; rw [← hnl]; exact hFB.ok)
     have HJP : Hid (∀ i, i < n → jmpN (niAt ns i).op = true → (niAt ns i).n < n) := Lib.hid (by rw [hns]; rw [hns] at hnl; rw [← hnl]; exact hFB.jmp)
     have HNS := Lib.hid hns; have HNL := Lib.hid hnl
     have HST : Hid (∀ lg, lg.length = n → longF ns (n + 1) lg = if (List.range n).any (needN ns lg) then longF ns (n + 1) (nextN ns lg) else lg) := Lib.hid (by rw [← hnl]; exact fun lg h => longN_step h)
     have HL0 : Hid (longF ns (n + 1) (List.replicate n false) = longN ns) := Lib.hid (by rw [← hnl]; rfl)
     have HSN : Hid (∀ lg, lg.length = n → (List.range n).any (needN ns lg) = true → shortN (nextN ns lg) < shortN lg) := Lib.hid (by rw [← hnl]; exact fun lg h => short_next h)
     have HSM : Hid (∀ lg, lg.length = n → (List.range n).any (needN ns lg) = false → nextN ns lg = lg) := Lib.hid (by rw [← hnl]; exact fun lg h => nextN_same h)
     have HZ0 : Hid (∀ lg, lg.length = n → nextK ns lg 0 = lg) := Lib.hid (by rw [← hnl]; exact fun lg h => nextK_zero h)
     have HZA : Hid (∀ lg, nextK ns lg n = nextN ns lg) := Lib.hid (by rw [← hnl]; exact fun lg => nextK_all ns lg)
     have HKL : Hid (∀ lg k, (nextK ns lg k).length = n) := Lib.hid (by rw [← hnl]; exact fun lg k => nextK_len ns lg k)
     have HNN2 : Hid (∀ lg, (nextN ns lg).length = n) := Lib.hid (by rw [← hnl]; exact fun lg => nextN_len ns lg)
     have HPN : Hid (∀ lg k, k ≤ n → plcN ns lg k ≤ 8000) := Lib.hid (fun lg k hk => by have := plcN_le ns lg k; omega)
     clear hns hnl hnia hc0 hFB HOK HC HR
     obtain ⟨y0, y1, y2⟩ := c3_of HX5.out
     obtain ⟨i0, hi, hz0, hz1, hz2⟩ := info_parts info_bool
     have hmk : ∀ w : World, (Instr.makeSlice 183 (.int .i64 (n : Int)) (.int .i64 (n : Int))).run Tryd.prog w = .ok (.slice (some ⟨w.heap.size, 0, none⟩) n n) (w.alloc (.cells (madeCells (Value.bool false).cells n) 4)) := fun w => by
      have h := run_make (P := Tryd.prog) w 183 4 i0 (.bool false) Tryd.underlying183 hi hz0 .i64 .i64 (n : Int) (n : Int) (by omega) (by omega) (by rw [hz2]; omega) (by omega)
      rw [hz1, Nat.mul_one] at h
      simpa using h
     go_wp2_with (fail)
     go_region_held3 (fun W => W.cell? ⟨w.heap.size, 0, none⟩ = some (.int .i64 p) ∧ W.cell? ⟨w.heap.size, 1, none⟩ = some (.int .i64 s) ∧ W.cell? ⟨w.heap.size, 2, none⟩ = some (.slice (some ⟨ib, io, none⟩) n lc)) (first | assumption | exact ⟨y0, y1, y2⟩ | go_keep) (first | (fail))
     have HMK : Hid (∀ w' pl lb sv pv, Blk w' pl [.int .i64 p, .int .i64 s, .slice (some ⟨ib, io, none⟩) n lc, .slice (some ⟨lb, 0, none⟩) n n, sv, pv, .int .i64 ((totN ns (longN ns) : Nat) : Int)] → Blk w' lb (bools (longN ns)) → w'.ownsRow w.heap.size 3 1 sv n (nats (sizs ns (longN ns) n)) → w'.ownsRow w.heap.size 3 1 pv n (nats (plcs ns (longN ns) n)) → LayR f w.heap.size w' pl lb (.slice (some ⟨ib, io, none⟩) n lc) sv pv) := Lib.hid (fun w' pl lb sv pv a1 a2 a3 a4 => by
      have e1 : f.params = p := by rw [HFE.out]
      have e2 : f.slots = s := by rw [HFE.out]
      have e3 : f.ins.length = n := by rw [HFL.out, ← HNN.out]
      refine ⟨?_, ?_, ?_, ?_⟩
      ·rw [e1, e2, e3, ← HNS.out]; exact a1
      ·rw [← HNS.out]; exact a2
      ·rw [e3, ← HNS.out]; exact a3
      ·rw [e3, ← HNS.out]; exact a4)
     have HCA : Hid (CanS f ↔ totN ns (longN ns) ≤ 8000) := Lib.hid (by unfold CanS; rw [← HNS.out]; exact ⟨fun h => h.2, fun h => ⟨HMO.out, h⟩⟩)
     clear y0 y1 y2 hmk
     obtain ⟨lb, hlb⟩ : ∃ lb, lb = w5.heap.size := ⟨_, rfl⟩
     have hbw := HB5.out.size
     have hro := own_made (B := w.heap.size) w5 w5.heap.size n rfl hbw hn2
     rw [show (Value.bool false).cells = #[Value.bool false] from rfl] at hro
     have hs6 : (w5.alloc (.cells (madeCells #[Value.bool false] n) 4)).heap.size = w5.heap.size + 1 := by simp
     have hb6 : Below w5.heap.size w5 (w5.alloc (.cells (madeCells #[Value.bool false] n) 4)) := below1 _ _
     generalize w5.alloc (.cells (madeCells #[Value.bool false] n) 4) = w6 at *
     have hb7 : Below w6.heap.size w6 (w6.alloc (.cells #[.int .i64 p, .int .i64 s, .slice (some ⟨ib, io, none⟩) n lc, .slice (some ⟨w5.heap.size, 0, none⟩) n n, .slice none 0 0, .slice none 0 0, .int .i64 0] 197)).drew := (below1 _ _).drew
     have hp7 : Blk (w6.alloc (.cells #[.int .i64 p, .int .i64 s, .slice (some ⟨ib, io, none⟩) n lc, .slice (some ⟨w5.heap.size, 0, none⟩) n n, .slice none 0 0, .slice none 0 0, .int .i64 0] 197)).drew w6.heap.size [.int .i64 p, .int .i64 s, .slice (some ⟨ib, io, none⟩) n lc, .slice (some ⟨w5.heap.size, 0, none⟩) n n, .slice none 0 0, .slice none 0 0, .int .i64 0] := Blk.new _ _ _
     generalize World.drew _ = w7 at *
     rw [hs6] at hp7
     have hr7 := ownsRow_below hro hb7
     have hxlt := HX5.out.lt
     have hb57 := hb6.trans (hb7.mono hb6.size)
     have HB7 := Lib.hid (HB5.out.trans (hb57.mono hbw))
     have HX7 := Lib.hid (HX5.out.below hb57)
     rw [← hlb] at hr7 hp7 ⊢
     obtain ⟨pl, hpl⟩ : ∃ pl, pl = lb + 1 := ⟨_, rfl⟩
     rw [← hpl] at hp7 ⊢
     have HR7 := Lib.hid hr7; have HP7 := Lib.hid hp7
     have hwl : w.heap.size < lb := by omega
     have hw7 := hr7
     have hl7 := (World.ownsRow.lt hr7 lb rfl).2
     have hp7l := hp7.lt
     have hlpl : lb ≠ pl := by omega
     have hibp : ib ≠ pl := by omega
     have hible : ib ≠ lb := by omega
     have hwpl : w.heap.size < pl := by omega
     clear hlb hpl hro hs6 hb6 hb7 hp7 hr7 hw7 hb57 hbw HB5 HX5 hxlt
     go_wp2_with (fail)
     go_loopw [8] (fun av wr => ∃ (lg : List Bool) (a : Bool) (sv pv : Value) (z : Int), av = .bool a ∧ Hid (lg.length = n) ∧ Hid (wr.ownsRow w.heap.size 4 1 (.slice (some ⟨lb, 0, none⟩) n n) n (bools lg)) ∧ Hid (Blk wr pl [.int .i64 p, .int .i64 s, .slice (some ⟨ib, io, none⟩) n lc, .slice (some ⟨lb, 0, none⟩) n n, sv, pv, .int .i64 z]) ∧ Hid (Only [lb, pl] w7 wr) ∧ Hid (a = true → longF ns (n + 1) lg = longN ns) ∧ Hid (a = false → lg = longN ns ∧ z = ((totN ns lg : Nat) : Int) ∧ wr.ownsRow w.heap.size 3 1 sv n (nats (sizs ns lg n)) ∧ wr.ownsRow w.heap.size 3 1 pv n (nats (plcs ns lg n)))) (fun av wr => if isTr av then shortN (readL wr (.slice (some ⟨lb, 0, none⟩) n n)) + 1 else 0)
     case atStart => exact ⟨List.replicate n false, true, _, _, 0, rfl, Lib.hid (by simp), HR7, HP7, Lib.hid (Only.refl _ _), Lib.hid (fun _ => HL0.out), Lib.hid (fun h => by cases h)⟩
     case round =>
      obtain ⟨lg, a, sv, pv, z, rfl, HLG, HRL, HPL, HON, HAT, HAF⟩ := hrel
      obtain ⟨wo, rfl⟩ : ∃ wo : World, wo = wr := ⟨_, rfl⟩
      have hso := HON.out.size
      have HBO : Hid (Below w.heap.size w wo) := Lib.hid (Only.below HB7.out HON.out HB7.out.size (fun b hb => by simp only [List.mem_cons, List.not_mem_nil, or_false] at hb; omega))
      have HXO : Hid (Blk wo w.heap.size [.int .i64 p, .int .i64 s, .slice (some ⟨ib, io, none⟩) n lc]) := Lib.hid (HX7.out.same (HON.out.block _ HX7.out.lt (by simp; omega)))
      cases a with
      |false =>
       obtain ⟨rfl, rfl, hsz, hpz⟩ := HAF.out rfl
       have HSZ2 := Lib.hid hsz; have HPZ2 := Lib.hid hpz
       have hc6 := HPL.out.cell 6
       simp only [List.getElem?_cons_zero, List.getElem?_cons_succ] at hc6
       obtain ⟨T, hT⟩ : ∃ T, T = totN ns (longN ns) := ⟨_, rfl⟩
       have HT := Lib.hid hT
       rw [← hT] at hc6
       clear hsz hpz hT
       by_cases hbig : T ≤ 8000
       ·have hg : decide ((8000 : Int) < T) = false := by simp; omega
        have hL := HMK.out wo pl lb sv pv HPL.out (Blk.of_row HRL.out).1 HSZ2.out HPZ2.out
        have HL := Lib.hid hL
        have HC := Lib.hid (HCA.out.2 (by rw [← HT.out]; exact hbig))
        clear hL hbig
        go_wp2_with (fail)
        exact HYES.out _ _ _ _ _ HC.out HBO.out HL.out
       ·have hg : (8000 : Int) < T := by omega
        have HC : Hid (¬ CanS f) := Lib.hid (fun h => hbig (by rw [HT.out]; exact HCA.out.1 h))
        clear hbig
        go_wp2_with (fail)
        exact HNO.out _ HC.out HBO.out
      |true =>
       have HSE := Lib.hid (settle_any wo pl ib io lc lb 0 n n p s sv pv z ns lg HNL.out.symm HPL.out (HNI.out.below HBO.out) (fun i hi => by
        rw [Nat.zero_add, own_cell1 HRL.out hi]; exact bools_get (by rw [HLG.out]; exact hi)) hn2 HBK.out hibp (fun h => hlpl h))
       have HAT2 : Hid (longF ns (n + 1) lg = longN ns) := Lib.hid (HAT.out rfl)
       have HROL : Hid (readL wo (.slice (some ⟨lb, 0, none⟩) n n) = lg) := Lib.hid (readL_of HLG.out HRL.out)
       have hx2 := (c3_of HXO.out).2.2
       clear HAT HAF
       go_wp2_with (fail)
       go_at_call 152
       refine HSE.out.mono ?_
       rintro e w8 ⟨sv2, pv2, rfl, hls⟩
       rw [HNL.out] at hls
       have hon8 := hls.only
       have HRL8 : Hid (w8.ownsRow w.heap.size 4 1 (.slice (some ⟨lb, 0, none⟩) n n) n (bools lg)) := Lib.hid (ownsRow_same HRL.out (fun k hk => by
        obtain rfl : lb = k := by simpa [Value.ownBlock] using hk
        exact hon8.block _ (World.ownsRow.lt HRL.out lb rfl).2 (by simpa using hlpl)))
       have HX8 : Hid (Blk w8 w.heap.size [.int .i64 p, .int .i64 s, .slice (some ⟨ib, io, none⟩) n lc]) := Lib.hid (HXO.out.same (hon8.block _ HXO.out.lt (by simp; omega)))
       have HP8 := Lib.hid hls.blk
       have HS8 := Lib.hid hls.siz; have HC8 := Lib.hid hls.plc
       rw [sizs_len] at HS8
       rw [plcs_len] at HC8
       have HON8 : Hid (Only [lb, pl] w7 w8) := Lib.hid (HON.out.trans (hon8.mono (by simp)))
       have hs8 := HON8.out.size
       have HB8 : Hid (Below w.heap.size w w8) := Lib.hid (Only.below HB7.out HON8.out HB7.out.size (fun b hb => by simp only [List.mem_cons, List.not_mem_nil, or_false] at hb; omega))
       have hwo := HBO.out.size
       clear hls hon8 hx2 HSE HRL HPL HON HXO HBO
       have hx2 := (c3_of HX8.out).2.2
       go_wp2_with (fail)
       clear hx2
       go_loopw [8, 54] (fun ag iv wr => ∃ k : Nat, k ≤ n ∧ iv = .int .i64 (k : Int) ∧ ag = .bool ((List.range k).any (needN ns lg)) ∧ Hid (wr.ownsRow w.heap.size 4 1 (.slice (some ⟨lb, 0, none⟩) n n) n (bools (nextK ns lg k))) ∧ Hid (Only [lb] w8 wr)) (fun _ iv _ => n - (intOf iv).toNat)
       case atStart => exact ⟨0, Nat.zero_le _, rfl, rfl, by rw [HZ0.out lg HLG.out]; exact HRL8, Lib.hid (Only.refl _ _)⟩
       case round =>
        obtain ⟨k, hk, rfl, rfl, HRK, HOK⟩ := hrel
        obtain ⟨wi, rfl⟩ : ∃ wi : World, wi = wr := ⟨_, rfl⟩
        have HOI : Hid (Only [lb, pl] w7 wi) := Lib.hid (HON8.out.trans (HOK.out.mono (by simp)))
        have hsi := HOK.out.size
        obtain ⟨AG, hAG⟩ : ∃ AG, AG = (List.range k).any (needN ns lg) := ⟨_, rfl⟩
        rw [← hAG]
        have HAG := Lib.hid hAG
        clear hAG
        by_cases hkn : k < n
        ·have k0 : (0 : Int) ≤ k := by omega
         have k1 : (k : Int) < n := by omega
         have HBI : Hid (Below w.heap.size w wi) := Lib.hid (Only.below HB7.out HOI.out HB7.out.size (fun b hb => by simp only [List.mem_cons, List.not_mem_nil, or_false] at hb; omega))
         obtain ⟨h0, h1, h2, h3, h4⟩ := HCN.out k hkn
         have t0 := cellB HBI.out h0; have t1 := cellB HBI.out h1; have t2 := cellB HBI.out h2; have t3 := cellB HBI.out h3; have t4 := cellB HBI.out h4
         obtain ⟨x, hxe⟩ : ∃ x, x = niAt ns k := ⟨_, rfl⟩
         obtain ⟨L, hLe⟩ : ∃ L, L = lg.getD k false := ⟨_, rfl⟩
         obtain ⟨jp, hjp⟩ : ∃ jp, jp = jmpN x.op := ⟨_, rfl⟩
         have hneed : needN ns lg k = (jp && !L && !(decide (-128 ≤ offN ns lg k) && decide (offN ns lg k ≤ 127))) := by unfold needN; rw [← hxe, ← hjp, ← hLe]
         have hjn := HJP.out k hkn
         rw [← hxe, ← hjp] at hjn
         rw [← hxe] at t0 t1 t2 t3 t4 h4
         have HNT := Lib.hid h4
         have HJM := Lib.hid (fun w' => jump_any w' x.op)
         rw [← hjp] at HJM
         have HLC : Hid (wi.cell? ⟨lb, k, none⟩ = some (.bool L)) := Lib.hid (by
          rw [own_cell1 HRK.out hkn, bools_get (by rw [HKL.out]; exact hkn)]
          rw [hLe]; congr 2
          have hkl : k < ns.length := by rw [HNL.out]; exact hkn
          simp [nextK, List.getD_eq_getElem?_getD, hkl])
         have HND := Lib.hid hneed; have HJN := Lib.hid hjn; have HXE := Lib.hid hxe; have HLE := Lib.hid hLe
         obtain ⟨op, xa, xb, xc, N⟩ := x
         simp only at t0 t1 t2 t3 t4 HJM HNT HJN
         clear h0 h1 h2 h3 h4 hneed hjn hxe hLe hjp
         go_wp2_with (fail)
         go_at_call 120
         refine (HJM.out _).mono ?_
         rintro e _ ⟨rfl, rfl⟩
         generalize hwx : wi.alloc _ = wx
         obtain ⟨hbx, e0, e1, e2, e3, e4⟩ := box5 hwx
         have HONX : Hid (Only [lb] w8 wx) := Lib.hid (HOK.out.trans (Only.of_below hbx _))
         have HRX := Lib.hid (ownsRow_below HRK.out hbx)
         have HBX := Lib.hid (HBI.out.trans (hbx.mono HBI.out.size))
         have HLX := Lib.hid (cellB hbx HLC.out)
         have HPX : Hid (Blk wx pl [.int .i64 p, .int .i64 s, .slice (some ⟨ib, io, none⟩) n lc, .slice (some ⟨lb, 0, none⟩) n n, sv2, pv2, .int .i64 ((totN ns lg : Nat) : Int)]) := Lib.hid (HP8.out.same (HONX.out.block _ HP8.out.lt (by simpa using fun h => hlpl h.symm)))
         clear hwx hbx t0 t1 t2 t3 t4 e0 e1 e2 e3 e4 HLC HRK HOK HBI HOI HJM
         cases jp with
         |false =>
          have HNO2 : Hid (needN ns lg k = false) := Lib.hid (by rw [HND.out]; simp)
          go_wp2_with (fail)
          go_roundw
          case rel => exact ⟨k + 1, by omega, by go_num, by rw [any_succ, HNO2.out, Bool.or_false, HAG.out], Lib.hid (by rw [nextK_no HNO2.out]; exact HRX.out), HONX⟩
          case measure => simp [intOf]; omega
         |true =>
          have hp3 := HPX.out.cell 3
          simp only [List.getElem?_cons_zero, List.getElem?_cons_succ] at hp3
          have hlx := HLX.out
          cases L with
          |true =>
           have HNO2 : Hid (needN ns lg k = false) := Lib.hid (by rw [HND.out]; simp)
           go_wp2_with (fail)
           go_roundw
           case rel => exact ⟨k + 1, by omega, by go_num, by rw [any_succ, HNO2.out, Bool.or_false, HAG.out], Lib.hid (by rw [nextK_no HNO2.out]; exact HRX.out), HONX⟩
           case measure => simp [intOf]; omega
          |false =>
           have hNn : N < n := HJN.out (by first | rfl | trivial)
           have hrow : ∀ {v ys}, w8.ownsRow wo.heap.size 3 1 v n ys → wx.ownsRow wo.heap.size 3 1 v n ys := fun {v ys} h => ownsRow_same h (fun q hq => HONX.out.block q (World.ownsRow.lt h q hq).2 (by
            rcases rows_ne h HRL8.out (by decide) with e | e
            ·rw [e] at hq; cases hq
            ·rw [hq] at e
             simpa [Value.ownBlock] using e))
           have hsg : (sizs ns lg n).getD k 0 = sizN (niAt ns k) (lg.getD k false) := by simp [sizs, List.getD_eq_getElem?_getD, hkn]
           have hpg : ∀ i, i < n → (plcs ns lg n).getD i 0 = plcN ns lg i := fun i hi => by simp [plcs, List.getD_eq_getElem?_getD, hi]
           have hsl := (sizN_le (niAt ns k) (lg.getD k false)).2
           have hpN := HPN.out lg N (by omega)
           have hpk := HPN.out lg k (by omega)
           have hxn : (niAt ns k).n = N := by rw [← HXE.out]
           have HOFC := offset_any wx wo.heap.size pl ib io lc n k N p s ((totN ns lg : Nat) : Int) (.slice (some ⟨lb, 0, none⟩) n n) sv2 pv2 (sizs ns lg n) (plcs ns lg n) HPX.out (cellB HBX.out HNT.out) (hrow HS8.out) (hrow HC8.out) hkn hNn (sizs_len _ _ _) (plcs_len _ _ _) (by omega) (by rw [hpg k hkn]; omega) (by rw [hpg N hNn]; omega)
           rw [hsg, hpg k hkn, hpg N hNn] at HOFC
           obtain ⟨D, hD⟩ : ∃ D, D = offN ns lg k := ⟨_, rfl⟩
           have hDe : ((plcN ns lg N : Nat) : Int) - (plcN ns lg k : Nat) - (sizN (niAt ns k) (lg.getD k false) : Nat) = D := by rw [hD]; unfold offN; rw [hxn]
           rw [hDe] at HOFC
           have HOFF := Lib.hid HOFC
           obtain ⟨q, hq⟩ : ∃ q, inR (-128) 127 D = q := ⟨_, rfl⟩
           have HNE : Hid (needN ns lg k = !q) := Lib.hid (by rw [HND.out, ← hD, ← hq]; simp [inR])
           have HIN := Lib.hid (fun w' => within_named D (-128) 127 q hq w')
           clear hrow hsg hpg hsl hpN hpk hxn HOFC hD hDe hq
           go_wp2_with (fail)
           go_at_call 148
           refine HOFF.out.mono ?_
           rintro e w10 ⟨rfl, hb10⟩
           have HON10 : Hid (Only [lb] w8 w10) := Lib.hid (HONX.out.trans (Only.of_below hb10 _))
           have HR10 := Lib.hid (ownsRow_below HRX.out hb10)
           have HP10 := Lib.hid (HPX.out.below hb10)
           have hl10 := cellB hb10 HLX.out
           have hf10 := HR10.out.frozenAt k
           clear hb10 hlx hp3 HRX HPX HLX HONX HBX
           have hp3 := HP10.out.cell 3
           simp only [List.getElem?_cons_zero, List.getElem?_cons_succ] at hp3
           go_wp2_with (fail)
           go_at_call 52
           refine (HIN.out _).mono ?_
           rintro e _ ⟨rfl, rfl⟩
           cases q with
           |true =>
            have HNO2 : Hid (needN ns lg k = false) := Lib.hid (by rw [HNE.out]; rfl)
            go_wp2_with (fail)
            go_roundw
            case rel => exact ⟨k + 1, by omega, by go_num, by rw [any_succ, HNO2.out, Bool.or_false, HAG.out], Lib.hid (by rw [nextK_no HNO2.out]; exact HR10.out), HON10⟩
            case measure => simp [intOf]; omega
           |false =>
            have HYE : Hid (needN ns lg k = true) := Lib.hid (by rw [HNE.out]; rfl)
            have HSTO := Lib.hid (HR10.out.stored k (.bool true)).1
            have HONS : Hid (Only [lb] w8 (w10.setCell ⟨lb, k, none⟩ (.bool true))) := Lib.hid (HON10.out.setCell (p := ⟨lb, k, none⟩) (by simp) _)
            go_wp2_with (fail)
            go_roundw
            case rel => exact ⟨k + 1, by omega, by go_num, by rw [any_succ, HYE.out, Bool.or_true], Lib.hid (by rw [nextK_yes HYE.out, ← bools_set]; exact HSTO.out), HONS⟩
            case measure => simp [intOf]; omega
        ·obtain rfl : n = k := by omega
         have HRN : Hid (wi.ownsRow w.heap.size 4 1 (.slice (some ⟨lb, 0, none⟩) n n) n (bools (nextN ns lg))) := Lib.hid (by rw [← HZA.out]; exact HRK.out)
         have HPI : Hid (Blk wi pl [.int .i64 p, .int .i64 s, .slice (some ⟨ib, io, none⟩) n lc, .slice (some ⟨lb, 0, none⟩) n n, sv2, pv2, .int .i64 ((totN ns lg : Nat) : Int)]) := Lib.hid (HP8.out.same (HOK.out.block _ HP8.out.lt (by simpa using fun h => hlpl h.symm)))
         have hrow : ∀ {v ys}, w8.ownsRow wo.heap.size 3 1 v n ys → wi.ownsRow w.heap.size 3 1 v n ys := fun {v ys} h => ownsRow_mono (ownsRow_same h (fun q hq => HOK.out.block q (World.ownsRow.lt h q hq).2 (by
          rcases rows_ne h HRL8.out (by decide) with e | e
          ·rw [e] at hq; cases hq
          ·rw [hq] at e
           simpa [Value.ownBlock] using e))) hwo
         have HSI := Lib.hid (hrow HS8.out)
         have HCI := Lib.hid (hrow HC8.out)
         have HRO := HRL8
         have HSTP := Lib.hid (HST.out lg HLG.out)
         have HMS : Hid (readL wo (.slice (some ⟨lb, 0, none⟩) n n) = lg) := HROL
         have HMT : Hid (readL wi (.slice (some ⟨lb, 0, none⟩) n n) = nextN ns lg) := Lib.hid (readL_of (HNN2.out lg) HRN.out)
         clear hrow HRK HOK HP8 HRO HRL8 HS8 HC8 HX8
         cases AG with
         |false =>
          have HNX : Hid (nextN ns lg = lg) := Lib.hid (HSM.out lg HLG.out HAG.out.symm)
          have HEQ : Hid (lg = longN ns) := Lib.hid (by rw [← HAT2.out, HSTP.out, ← HAG.out]; rfl)
          go_wp2_with (fail)
          go_roundw
          case rel =>
           refine ⟨lg, false, sv2, pv2, _, rfl, HLG, Lib.hid ?_, HPI, HOI, Lib.hid (fun h => by cases h), Lib.hid (fun _ => ⟨HEQ.out, rfl, HSI.out, HCI.out⟩)⟩
           have := HRN.out
           rw [HNX.out] at this; exact this
          case measure => simp [isTr]
         |true =>
          have HLT := Lib.hid (HSN.out lg HLG.out HAG.out.symm)
          have HEQ : Hid (longF ns (n + 1) (nextN ns lg) = longN ns) := Lib.hid (by rw [← HAT2.out, HSTP.out, ← HAG.out]; rfl)
          go_wp2_with (fail)
          go_roundw
          case rel => exact ⟨nextN ns lg, true, sv2, pv2, _, rfl, Lib.hid (HNN2.out lg), HRN, HPI, HOI, Lib.hid (fun _ => HEQ.out), Lib.hid (fun h => by cases h)⟩
          case measure =>
           rw [HMS.out, HMT.out]
           have := HLT.out
           simp [isTr]
           omega
end Go.Proofs.YtbdbmmdnidonjaaDoor
set_option maxRecDepth 100000
namespace Go.Proofs.YtbdbmmdnidonjaaDoor
open Go.RowKit
/-- so far: the bytes that were put out; the copy of the instruction at q -/
structure EncS (w3 : World) (q : Nat) (X : List Value) (v : Value) (bs : List Nat) (w : World) : Prop where
 row : w.ownsRow w3.heap.size 5 1 v bs.length (u8s bs)
 bel : Below w3.heap.size w3 w
 x : Blk w q X
 ne : v.ownBlock ≠ some q
theorem EncS.below {w3 w w' : World} {q : Nat} {X : List Value} {v : Value} {bs : List Nat} (h : EncS w3 q X v bs w) (hb : Below w.heap.size w w') : EncS w3 q X v bs w' :=
 ⟨ownsRow_below h.row hb, h.bel.trans (hb.mono h.bel.size), h.x.below hb, h.ne⟩
theorem EncS.rowN {w3 w : World} {q n : Nat} {X : List Value} {v : Value} {bs : List Nat} (h : EncS w3 q X v bs w) (hn : bs.length = n) : w.ownsRow w3.heap.size 5 1 v n (u8s bs) := by subst hn; exact h.row
theorem EncS.appN {w3 w w6 : World} {q m n : Nat} {X : List Value} {v v6 : Value} {bs new : List Nat} (h : EncS w3 q X v bs w) (hn : bs.length = n) (ho : w6.ownsRow w3.heap.size 5 1 v6 (n + m) (u8s bs ++ u8s new)) (hm : new.length = m)
  (hg : w.grownBy w6 v.ownBlock) (hat : v6.ownBlock = v.ownBlock ∨ v6.ownBlock = some w.heap.size) : EncS w3 q X v6 (bs ++ new) w6 := by
 subst hm hn
 refine ⟨?_, h.bel.grown hg h.bel.size (fun k hk => (World.ownsRow.lt h.row k hk).1), h.x.grown hg h.ne, ?_⟩
 ·rw [List.length_append, show u8s (bs ++ new) = u8s bs ++ u8s new by simp [u8s]]; exact ho
 ·rcases hat with e | e
  ·rw [e]; exact h.ne
  ·rw [e]; have := h.x.lt; simp; omega
theorem EncS.app {w3 w w6 : World} {q m : Nat} {X : List Value} {v v6 : Value} {bs new : List Nat} (h : EncS w3 q X v bs w) (ho : w6.ownsRow w3.heap.size 5 1 v6 (bs.length + m) (u8s bs ++ u8s new)) (hm : new.length = m)
  (hg : w.grownBy w6 v.ownBlock) (hat : v6.ownBlock = v.ownBlock ∨ v6.ownBlock = some w.heap.size) : EncS w3 q X v6 (bs ++ new) w6 := by
 subst hm
 refine ⟨?_, h.bel.grown hg h.bel.size (fun k hk => (World.ownsRow.lt h.row k hk).1), h.x.grown hg h.ne, ?_⟩
 ·rw [List.length_append, show u8s (bs ++ new) = u8s bs ++ u8s new by simp [u8s]]; exact ho
 ·rcases hat with e | e
  ·rw [e]; exact h.ne
  ·rw [e]; have := h.x.lt; simp; omega
theorem news_row {w : World} {B g n c : Nat} {e : TypeId} {ys : List Value} (h : w.ownsRow B e 1 (.slice (some ⟨g, 0, none⟩) n c) n ys) : ∀ j u, ys[j]? = some u → w.cell? ((⟨g, 0, none⟩ : Addr).add j) = some u := fun j u hu => by
 have hj : j < n := by have := idx_lt hu; have := h.1; omega
 have := own_cell1 h hj
 rw [hu] at this
 by_cases e0 : j = 0
 ·subst e0; simpa [Addr.add] using this
 ·simpa [Addr.add, e0] using this
theorem u8s_one (bs : List Nat) : ∀ v ∈ u8s bs, v.oneCell' = true := by
 intro v hv
 obtain ⟨b, _, rfl⟩ := List.mem_map.1 hv
 rfl
theorem c5_of {w : World} {p : Nat} {x0 x1 x2 x3 x4 : Value} (h : Blk w p [x0, x1, x2, x3, x4]) : w.cell? ⟨p, 0, none⟩ = some x0 ∧ w.cell? ⟨p, 1, none⟩ = some x1 ∧ w.cell? ⟨p, 2, none⟩ = some x2 ∧ w.cell? ⟨p, 3, none⟩ = some x3 ∧ w.cell? ⟨p, 4, none⟩ = some x4 := by
 refine ⟨?_, ?_, ?_, ?_, ?_⟩
 all_goals rw [h.cell]; rfl
set_option maxHeartbeats 8000000 in
theorem ienc_any (w : World) (p s : Int) (iv : Value) (xs : List Mi) (hF : Forms w) (hm : MisAt w iv xs) (hn : xs.length ≤ 1048576) (hr : ∀ x ∈ xs, -9223372036854775808 ≤ x.n) :
  Calls Tryd.prog 121 #[.agg #[.int .i64 p, .int .i64 s, iv]] w (EncPost ⟨p, s, xs⟩ w) := by
 obtain ⟨i0, hi, hz0, hz1, hz2⟩ := info_parts info_u8
 have HLY := Lib.hid (fun w' h1 h2 => layout_any w' p s iv xs h1 h2 hn hr)
 obtain ⟨f, hf⟩ : ∃ f : Mf, f = ⟨p, s, xs⟩ := ⟨_, rfl⟩
 have HEP : Hid (∀ v b bs w', (b = true ↔ CanS f) → (b = true → bs = encF (nisOf f) (longN (nisOf f)) (nisOf f).length) → w'.ownsRow w.heap.size 5 1 v bs.length (u8s bs) → Below w.heap.size w w' → EncPost ⟨p, s, xs⟩ w (.returned (.tuple #[v, .bool b])) w') := Lib.hid (fun v b bs w' h2 h3 h4 h5 => by
  rw [hf] at h2 h3
  exact ⟨v, b, bs, rfl, h2, h3, h4, h5⟩)
 have HMI := Lib.hid hm
 obtain ⟨n, hnn⟩ : ∃ n, n = xs.length := ⟨_, rfl⟩
 obtain ⟨la, lc, rfl, _⟩ := hm
 rw [← hnn] at HLY HMI hn ⊢
 rw [← hf] at HLY
 obtain ⟨Q, hQ⟩ : ∃ Q, Q = EncPost ⟨p, s, xs⟩ w := ⟨_, rfl⟩
 rw [← hQ] at HEP ⊢
 have HFO := Lib.hid hF
 have HFE := Lib.hid hf; have HNN := Lib.hid hnn
 clear hQ hf hnn hF hr
 go_enter Tryd.func121, Tryd.ntmps121
 go_wp2_with (fail)
 generalize hw1 : w.alloc _ = w1
 have hx1 : Blk w1 w.heap.size [.int .i64 p, .int .i64 s, .slice la n lc] := by rw [← hw1]; exact Blk.new _ _ _
 have hb1 : Below w.heap.size w w1 := by rw [← hw1]; exact below1 _ _
 have HX1 := Lib.hid hx1; have HB1 := Lib.hid hb1
 obtain ⟨q0, q1, q2⟩ := c3_of hx1
 clear hw1 hx1 hb1
 go_wp2_with (fail)
 go_at_call 146
 refine (HLY.out w1 (HFO.out.below HB1.out) (HMI.out.below HB1.out)).mono ?_
 rintro e w3 ⟨v, rfl, hb3, hor⟩
 have HB3 := Lib.hid (HB1.out.trans (hb3.mono HB1.out.size))
 have HX3 := Lib.hid (HX1.out.below hb3)
 clear hb3 q0 q1 q2 HX1 HLY HB1
 rcases hor with ⟨hnc, rfl⟩ | ⟨hcan, pl, lb, sv, pv, rfl, hlay⟩
 ·have HNC := Lib.hid hnc
  clear hnc
  go_wp2_with (fail)
  exact HEP.out _ false [] _ ⟨fun h => (by cases h), fun h => absurd h HNC.out⟩ (fun h => (by cases h)) (World.ownsRow_nil _ _ _ _) HB3.out
 ·have HCAN := Lib.hid hcan
  have hFB := CanS.fn hcan.1
  have HFL : Hid (f.ins = xs) := Lib.hid (by rw [HFE.out])
  have hlen : f.ins.length = n := by rw [HFL.out, ← HNN.out]
  have hn2 : n ≤ 2000 := by have := hFB.len; rw [hlen] at this; exact this
  have hn0 : 0 < n := by have := hFB.pos; rw [hlen] at this; exact this
  obtain ⟨ns, hns⟩ : ∃ ns, ns = nisOf f := ⟨_, rfl⟩
  have hnl : ns.length = n := by rw [hns, nisOf_len, hlen]
  have hnia : NisAt w (.slice la n lc) ns := by
   refine NisAt.of ?_
   rw [hns, hFB.mi, HFL.out]; exact HMI.out
  have HC : Hid (∀ i, i < n → ∃ ib io, la = some ⟨ib, io, none⟩ ∧ w.cell? ⟨ib, io + i * 5, none⟩ = some (.int .i64 ((niAt ns i).op : Int)) ∧ w.cell? ⟨ib, io + i * 5 + 1, none⟩ = some (.int .i64 ((niAt ns i).a : Int)) ∧ w.cell? ⟨ib, io + i * 5 + 2, none⟩ = some (.int .i64 ((niAt ns i).b : Int)) ∧ w.cell? ⟨ib, io + i * 5 + 3, none⟩ = some (.int .i64 ((niAt ns i).c : Int)) ∧ w.cell? ⟨ib, io + i * 5 + 4, none⟩ = some (.int .i64 ((niAt ns i).n : Int))) := Lib.hid (by
   obtain ⟨a, cap, hv, hc⟩ := hnia
   injection hv with e1 e2 e3
   intro i hi
   subst e1
   obtain ⟨b, off, ha, h0, h1, h2, h3, h4⟩ := hc i (by omega)
   exact ⟨b, off, ha, h0, h1, h2, h3, h4⟩)
  have HBK : Hid (∀ i, i < n → BOk (niAt ns i)) := Lib.hid (by rw [hns]; rw [hns] at hnl; rw [← hnl]; exact hFB.ok)
  have HJP : Hid (∀ i, i < n → jmpN (niAt ns i).op = true → (niAt ns i).n < n) := Lib.hid (by rw [hns]; rw [hns] at hnl; rw [← hnl]; exact hFB.jmp)
  obtain ⟨lg, hlg⟩ : ∃ lg, lg = longN ns := ⟨_, rfl⟩
  have HYES : Hid (∀ v w' bs, bs = encF ns lg n → w'.ownsRow w3.heap.size 5 1 v bs.length (u8s bs) → Below w3.heap.size w3 w' → Q (.returned (.tuple #[v, .bool true])) w') := Lib.hid (fun v w' bs h1 h2 h3 => by
   refine HEP.out v true bs w' ⟨fun _ => HCAN.out, fun _ => rfl⟩ (fun _ => ?_) (ownsRow_mono h2 HB3.out.size) (HB3.out.trans (h3.mono HB3.out.size))
   rw [← hns, ← hlg, hnl]; exact h1)
  have HTOT : Hid (∀ k, k ≤ n → plcN ns lg k ≤ 8000) := Lib.hid (fun k hk => by have := plcN_le ns lg k; omega)
  have HEL : Hid (∀ k, (encF ns lg k).length = plcN ns lg k) := Lib.hid (fun k => encF_tot ns lg k)
  obtain ⟨hbl, hln, hsi, hpl⟩ := hlay
  rw [hlen] at hbl hsi hpl
  rw [← hns, ← hlg] at hbl hln hsi hpl
  have HBL := Lib.hid hbl; have HLN := Lib.hid hln; have HSI := Lib.hid hsi; have HPL := Lib.hid hpl
  have HLGL : Hid (lg.length = n) := Lib.hid (by
   have := longF_end ns (ns.length + 1) (List.replicate ns.length false) (by simp) (by have := shortN_le (List.replicate ns.length false); simp at this; omega)
   rw [hlg, ← hnl]; exact this.2)
  have HNS := Lib.hid hns; have HNL := Lib.hid hnl
  obtain ⟨_, _, x2⟩ := c3_of HX3.out
  clear hcan hFB hlen hns hnl hnia hlg hbl hln hsi hpl HEP
  go_wp2_with (fail)
  clear x2
  go_loopw [5, 17] (fun ov iv wr => ∃ k : Nat, k ≤ n ∧ iv = .int .i64 (k : Int) ∧ Hid (wr.ownsRow w3.heap.size 5 1 ov (encF ns lg k).length (u8s (encF ns lg k))) ∧ Hid (Below w3.heap.size w3 wr)) (fun _ iv _ => n - (intOf iv).toNat)
  case atStart => exact ⟨0, Nat.zero_le _, rfl, Lib.hid (World.ownsRow_nil _ _ _ _), Lib.hid (Below.refl _ _)⟩
  case round =>
   obtain ⟨k, hk, rfl, HR, HB⟩ := hrel
   obtain ⟨wi, rfl⟩ : ∃ wi : World, wi = wr := ⟨_, rfl⟩
   obtain ⟨E, hE⟩ : ∃ E, E = encF ns lg k := ⟨_, rfl⟩
   rw [← hE] at HR
   have HE := Lib.hid hE
   have hel : E.length ≤ 8000 := by rw [hE, HEL.out]; exact HTOT.out k hk
   clear hE
   by_cases hkn : k < n
   ·have k0 : (0 : Int) ≤ k := by omega
    have k1 : (k : Int) < n := by omega
    have HBW := Lib.hid (HB3.out.trans (HB.out.mono HB3.out.size))
    obtain ⟨ib, io, rfl, h0, h1, h2, h3, h4⟩ := HC.out k hkn
    have t0 := cellB HBW.out h0; have t1 := cellB HBW.out h1; have t2 := cellB HBW.out h2; have t3 := cellB HBW.out h3; have t4 := cellB HBW.out h4
    have HX := HBK.out k hkn
    have hjn := HJP.out k hkn
    obtain ⟨x, hxe⟩ : ∃ x, x = niAt ns k := ⟨_, rfl⟩
    obtain ⟨L, hLe⟩ : ∃ L, L = lg.getD k false := ⟨_, rfl⟩
    have HES : Hid (encF ns lg (k + 1) = E ++ encI ns lg k) := Lib.hid (by rw [HE.out]; rfl)
    have hei : encI ns lg k = if jmpN x.op then (x.op + (if L then 128 else 0)) :: ((if x.op = 21 then [x.a] else []) ++ (if L then [plcN ns lg x.n % 256, plcN ns lg x.n / 256] else [((offN ns lg k + 256) % 256).toNat])) else encB x := by unfold encI; rw [← hxe, ← hLe]
    have HLC : Hid (w3.cell? ⟨lb, k, none⟩ = some (.bool L)) := Lib.hid (by
     rw [HLN.out.cell, bools_get (by rw [HLGL.out]; exact hkn), ← hLe])
    rw [← hxe] at t0 t1 t2 t3 t4 HX hjn h4
    obtain ⟨jp, hjp⟩ : ∃ jp, jp = jmpN x.op := ⟨_, rfl⟩
    have HJM := Lib.hid (fun w' => jump_any w' x.op)
    rw [← hjp] at HJM hjn hei
    have HJQ := Lib.hid hjp
    have HBX := Lib.hid HX; have HJN := Lib.hid hjn; have HEI := Lib.hid hei; have HXE := Lib.hid hxe; have HLE := Lib.hid hLe; have HNT := Lib.hid h4
    have ho1 := HX.op; have ha8 := HX.a
    obtain ⟨op, xa, xb, xc, N⟩ := x
    simp only at t0 t1 t2 t3 t4 HJM HJN HEI HJQ HNT ho1 ha8
    clear h0 h1 h2 h3 h4 hjn hei hxe hLe hjp HX
    go_wp2_with (fail)
    go_at_call 120
    refine (HJM.out _).mono ?_
    rintro e _ ⟨rfl, rfl⟩
    have hqs := HB.out.size
    have HS0 : Hid (EncS w3 wi.heap.size [.int .i64 (op : Int), .int .i64 (xa : Int), .int .i64 (xb : Int), .int .i64 (xc : Int), .int .i64 (N : Int)] u5 E (wi.alloc (.cells #[.int .i64 (op : Int), .int .i64 (xa : Int), .int .i64 (xb : Int), .int .i64 (xc : Int), .int .i64 (N : Int)] 124))) := Lib.hid ⟨ownsRow_below HR.out (below1 _ _), HB.out.trans ((below1 _ _).mono hqs), Blk.new _ _ _, fun e => by have := (World.ownsRow.lt HR.out _ e).2; omega⟩
    obtain ⟨q, hq⟩ : ∃ q, q = wi.heap.size := ⟨_, rfl⟩
    rw [← hq] at HS0 ⊢
    have hq3 : w3.heap.size ≤ q := by omega
    generalize wi.alloc _ = wx at *
    clear hqs t0 t1 t2 t3 t4 HR HB HBW HJM hq
    obtain ⟨e0, e1, e2, e3, e4⟩ := c5_of HS0.out.x
    cases jp with
    |false =>
     have HEC := Lib.hid (encoded_any wx ⟨op, xa, xb, xc, N⟩ HBX.out HJQ.out.symm)
     have hei : encI ns lg k = encB ⟨op, xa, xb, xc, N⟩ := by rw [HEI.out]; simp
     have HEJ := Lib.hid hei
     have hbl : (encB ⟨op, xa, xb, xc, N⟩).length ≤ 3 ∧ 0 < (encB ⟨op, xa, xb, xc, N⟩).length := by unfold encB; (repeat' split) <;> simp
     unfold NewU8 at HEC
     obtain ⟨bs, hbs⟩ : ∃ bs, bs = encB ⟨op, xa, xb, xc, N⟩ := ⟨_, rfl⟩
     rw [← hbs] at HEC HEJ hbl
     obtain ⟨bn, hbn⟩ : ∃ bn, bn = bs.length := ⟨_, rfl⟩
     rw [← hbn] at HEC hbl
     have HBN := Lib.hid hbn
     clear hei hbs hbn HEI HJQ HLC HJN
     go_wp2_with (fail)
     go_at_call 147
     refine HEC.out.mono ?_
     rintro e w5 ⟨g5, c5, rfl, ho5, hb5⟩
     have HS5 := Lib.hid (HS0.out.below hb5)
     have HO5 := Lib.hid ho5
     have hs5 := HS5.out.bel.size
     clear ho5 hb5 e0 e1 e2 e3 e4 HS0 HEC
     go_wp2_with (first | (at_builtin; refine wpList_append_lies _ rfl _ _ 22 (by rfl) w3.heap.size 5 i0 (.int .u8 0) 1 1 Tryd.underlying22 hi hz0 hz1 hz2 rfl (by decide) _ E.length (u8s E) (by rfl) HS5.out.row ⟨g5, 0, none⟩ bn c5 (u8s bs) (by rfl) (by rw [u8s_len, ← HBN.out, Nat.mul_one]) (news_row HO5.out) (u8s_one bs) (by omega) (by unfold maxLen; omega) (by omega) hs5 _ rfl ?_; intro g6 c6 w6 ho6 hg6 hat6 _; have HS6 := Lib.hid (HS5.out.app (v6 := .slice (some ⟨g6, 0, none⟩) (E.length + bn) c6) ho6 HBN.out.symm hg6 (hat6.elim (fun h => .inl h.symm) (fun h => .inr (congrArg some h)))); clear ho6 hg6 hat6) | fail)
     go_roundw
     case rel =>
      refine ⟨k + 1, by omega, by go_num, Lib.hid ?_, Lib.hid HS6.out.bel⟩
      rw [HES.out, HEJ.out]; exact HS6.out.row
     case measure => simp [intOf]; omega
    |true =>
     obtain ⟨gp, cp, rfl⟩ := own_form HPL.out hn0
     have hNn : N < n := HJN.out (by first | rfl | trivial)
     have n0 : (0 : Int) ≤ N := by omega
     have n1 : (N : Int) < n := by omega
     obtain ⟨T, hT⟩ : ∃ T, T = plcN ns lg N := ⟨_, rfl⟩
     have hT8 := HTOT.out N (by omega)
     rw [← hT] at hT8
     have hpc := own_cell1 HPL.out hNn
     rw [nats_get (by rw [plcs_len]; exact hNn), show (plcs ns lg n).getD N 0 = T by rw [hT]; simp [plcs, List.getD_eq_getElem?_getD, hNn]] at hpc
     have HPC := Lib.hid hpc
     obtain ⟨z3, z5⟩ := (⟨HBL.out.cell 3, HBL.out.cell 5⟩ : _ ∧ _)
     simp only [List.getElem?_cons_zero, List.getElem?_cons_succ] at z3 z5
     have HZ3 := Lib.hid z3; have HZ5 := Lib.hid z5
     have hei := HEI.out
     rw [if_pos rfl] at hei
     rw [← hT] at hei
     have HEI2 := Lib.hid hei
     have hw0 : IntKind.u8.wrap (op : Int) = (op : Int) := u8_small op (by omega)
     have hw1 : IntKind.u8.wrap ((op : Int) + 128) = ((op + 128 : Nat) : Int) := by have := u8_small (op + 128) (by omega); simpa using this
     have hwa : IntKind.u8.wrap (xa : Int) = (xa : Int) := u8_small xa (by omega)
     have HKP : Hid (∀ W v bs, EncS w3 q [.int .i64 (op : Int), .int .i64 (xa : Int), .int .i64 (xb : Int), .int .i64 (xc : Int), .int .i64 (N : Int)] v bs W → W.cell? ⟨pl, 3, none⟩ = some (.slice (some ⟨lb, 0, none⟩) n n) ∧ W.cell? ⟨pl, 5, none⟩ = some (.slice (some ⟨gp, 0, none⟩) n cp) ∧ W.cell? ⟨lb, k, none⟩ = some (.bool L) ∧ W.cell? ⟨gp, N, none⟩ = some (.int .i64 (T : Int)) ∧ w3.heap.size ≤ W.heap.size) := Lib.hid (fun W v bs h => ⟨cellB h.bel HZ3.out, cellB h.bel HZ5.out, cellB h.bel HLC.out, cellB h.bel HPC.out, h.bel.size⟩)
     clear z3 z5 hei hpc HEI
     obtain ⟨p3, p5, p6, p7, p8⟩ := HKP.out _ _ _ HS0.out
     have hm1 : IntKind.u8.wrap ((T : Int) % 256) = ((T % 256 : Nat) : Int) := by rw [u8_wrap]; omega
     have hm2 : IntKind.u8.wrap ((T : Int) / 256) = ((T / 256 : Nat) : Int) := by rw [u8_wrap]; omega
     obtain ⟨T1, hT1⟩ : ∃ T1, T1 = T % 256 := ⟨_, rfl⟩
     obtain ⟨T2, hT2⟩ : ∃ T2, T2 = T / 256 := ⟨_, rfl⟩
     rw [← hT1] at hm1
     rw [← hT2] at hm2
     have HT1 := Lib.hid hT1; have HT2 := Lib.hid hT2
     have hpk := HTOT.out k (by omega)
     have hsl := (sizN_le (niAt ns k) (lg.getD k false)).2
     have HTT := Lib.hid hT
     clear hT1 hT2 hT
     have hop : op = 20 ∨ op = 21 := by
      have := HJQ.out.symm
      unfold jmpN at this
      simpa only [Bool.or_eq_true, beq_iff_eq] using this
     rcases hop with rfl | rfl
     ·-- 20
      cases L with
      |true =>
       go_wp2_with (first | (at_builtin; refine wpList_append_lies _ rfl _ _ 22 (by rfl) w3.heap.size 5 i0 (.int .u8 0) 1 1 Tryd.underlying22 hi hz0 hz1 hz2 rfl (by decide) _ (E.length) (u8s (E)) (by rfl) ((HS0.out.below (below1 _ _)).rowN (by simp)) ⟨wx.heap.size, 0, none⟩ 1 1 (u8s [148]) (by rfl) rfl (World.news_of_block (heap_alloc_new wx _)) (u8s_one _) (by decide) (by unfold maxLen; simp; omega) (by simp; omega) (by simp; omega) _ rfl ?_; intro g6 c6 w6 ho6 hg6 hat6 _; have HS6 := Lib.hid ((HS0.out.below (below1 wx _)).appN (n := E.length) (v6 := .slice (some ⟨g6, 0, none⟩) (E.length + 1) c6) (new := [148]) (by simp) ho6 rfl hg6 (hat6.elim (fun h => .inl h.symm) (fun h => .inr (congrArg some h)))); obtain ⟨p3, p5, p6, p7, p8⟩ := HKP.out _ _ _ HS6.out; obtain ⟨e0, e1, e2, e3, e4⟩ := c5_of HS6.out.x; clear ho6 hg6 hat6 ) | fail)
       go_quiet (fail)
       have HSD := Lib.hid (HS6.out.below (belowDrewN (Below.refl _ _) nq))
       generalize World.drewN _ nq = wd at *
       clear p3 p5 p6 p7 p8 e0 e1 e2 e3 e4
       obtain ⟨p3, p5, p6, p7, p8⟩ := HKP.out _ _ _ HSD.out
       obtain ⟨e0, e1, e2, e3, e4⟩ := c5_of HSD.out.x
       go_wp2_with (first | (at_builtin; refine wpList_append_lies _ rfl _ _ 22 (by rfl) w3.heap.size 5 i0 (.int .u8 0) 1 1 Tryd.underlying22 hi hz0 hz1 hz2 rfl (by decide) _ (E.length + 1) (u8s (E ++ [148])) (by rfl) ((HSD.out.below (below1 _ _)).rowN (by simp)) ⟨wd.heap.size, 0, none⟩ 2 2 (u8s [T1, T2]) (by rfl) rfl (World.news_of_block (heap_alloc_new wd _)) (u8s_one _) (by decide) (by unfold maxLen; simp; omega) (by simp; omega) (by simp; omega) _ rfl ?_; intro g9 c9 w9 ho9 hg9 hat9 _; have HS9 := Lib.hid ((HSD.out.below (below1 wd _)).appN (n := E.length + 1) (v6 := .slice (some ⟨g9, 0, none⟩) (E.length + 1 + 2) c9) (new := [T1, T2]) (by simp) ho9 rfl hg9 (hat9.elim (fun h => .inl h.symm) (fun h => .inr (congrArg some h)))); obtain ⟨p3, p5, p6, p7, p8⟩ := HKP.out _ _ _ HS9.out; obtain ⟨e0, e1, e2, e3, e4⟩ := c5_of HS9.out.x; clear ho9 hg9 hat9 ) | fail)
       go_roundw
       case rel =>
        refine ⟨k + 1, by omega, by go_num, Lib.hid ?_, Lib.hid HS9.out.bel⟩
        have := HS9.out.row
        rw [HES.out, HEI2.out, ← HT1.out, ← HT2.out]
        simpa using this
       case measure => simp [intOf]; omega
      |false =>
       go_wp2_with (first | (at_builtin; refine wpList_append_lies _ rfl _ _ 22 (by rfl) w3.heap.size 5 i0 (.int .u8 0) 1 1 Tryd.underlying22 hi hz0 hz1 hz2 rfl (by decide) _ (E.length) (u8s (E)) (by rfl) ((HS0.out.below (below1 _ _)).rowN (by simp)) ⟨wx.heap.size, 0, none⟩ 1 1 (u8s [20]) (by rfl) rfl (World.news_of_block (heap_alloc_new wx _)) (u8s_one _) (by decide) (by unfold maxLen; simp; omega) (by simp; omega) (by simp; omega) _ rfl ?_; intro g6 c6 w6 ho6 hg6 hat6 _; have HS6 := Lib.hid ((HS0.out.below (below1 wx _)).appN (n := E.length) (v6 := .slice (some ⟨g6, 0, none⟩) (E.length + 1) c6) (new := [20]) (by simp) ho6 rfl hg6 (hat6.elim (fun h => .inl h.symm) (fun h => .inr (congrArg some h)))); obtain ⟨p3, p5, p6, p7, p8⟩ := HKP.out _ _ _ HS6.out; obtain ⟨e0, e1, e2, e3, e4⟩ := c5_of HS6.out.x; clear ho6 hg6 hat6 ) | fail)
       go_quiet (fail)
       have HSD := Lib.hid (HS6.out.below (belowDrewN (Below.refl _ _) nq))
       generalize World.drewN _ nq = wd at *
       clear p3 p5 p6 p7 p8 e0 e1 e2 e3 e4
       obtain ⟨p3, p5, p6, p7, p8⟩ := HKP.out _ _ _ HSD.out
       obtain ⟨e0, e1, e2, e3, e4⟩ := c5_of HSD.out.x
       have hsg : (sizs ns lg n).getD k 0 = sizN (niAt ns k) (lg.getD k false) := by simp [sizs, List.getD_eq_getElem?_getD, hkn]
       have hpg : ∀ i, i < n → (plcs ns lg n).getD i 0 = plcN ns lg i := fun i hi => by simp [plcs, List.getD_eq_getElem?_getD, hi]
       have hxn : (niAt ns k).n = N := by rw [← HXE.out]
       have HOFC := offset_any wd w1.heap.size pl ib io lc n k N f.params f.slots ((totN ns lg : Nat) : Int) (.slice (some ⟨lb, 0, none⟩) n n) sv (.slice (some ⟨gp, 0, none⟩) n cp) (sizs ns lg n) (plcs ns lg n) (HBL.out.below HSD.out.bel) (cellB (HB3.out.trans (HSD.out.bel.mono HB3.out.size)) HNT.out) (ownsRow_below HSI.out HSD.out.bel) (ownsRow_below HPL.out HSD.out.bel) hkn hNn (sizs_len _ _ _) (plcs_len _ _ _) (by omega) (by rw [hpg k hkn]; omega) (by rw [hpg N hNn, ← HTT.out]; omega)
       rw [hsg, hpg k hkn, hpg N hNn] at HOFC
       obtain ⟨D, hD⟩ : ∃ D, D = offN ns lg k := ⟨_, rfl⟩
       have hDe : ((plcN ns lg N : Nat) : Int) - (plcN ns lg k : Nat) - (sizN (niAt ns k) (lg.getD k false) : Nat) = D := by rw [hD]; unfold offN; rw [hxn]
       rw [hDe] at HOFC
       have HOFF := Lib.hid HOFC
       obtain ⟨V, hV⟩ : ∃ V, V = ((D + 256) % 256).toNat := ⟨_, rfl⟩
       have hcv : IntKind.u8.wrap D = (V : Int) := by rw [u8_wrap, hV]; congr 1; omega
       have HVE : Hid (V = ((offN ns lg k + 256) % 256).toNat) := Lib.hid (by rw [hV, hD])
       clear hsg hpg hxn HOFC hD hDe hV
       go_wp2_with (fail)
       go_at_call 148
       refine HOFF.out.mono ?_
       rintro e w10 ⟨rfl, hb10⟩
       have HS10 := Lib.hid (HSD.out.below hb10)
       have hs10 := HS10.out.bel.size
       clear p3 p5 p6 p7 p8 e0 e1 e2 e3 e4 hb10
       go_wp2_with (first | (at_builtin; refine wpList_append_lies _ rfl _ _ 22 (by rfl) w3.heap.size 5 i0 (.int .u8 0) 1 1 Tryd.underlying22 hi hz0 hz1 hz2 rfl (by decide) _ (E.length + 1) (u8s (E ++ [20])) (by rfl) ((HS10.out.below (below1 _ _)).rowN (by simp)) ⟨w10.heap.size, 0, none⟩ 1 1 (u8s [V]) (by rfl) rfl (World.news_of_block (heap_alloc_new w10 _)) (u8s_one _) (by decide) (by unfold maxLen; simp; omega) (by simp; omega) (by simp; omega) _ rfl ?_; intro g9 c9 w9 ho9 hg9 hat9 _; have HS9 := Lib.hid ((HS10.out.below (below1 w10 _)).appN (n := E.length + 1) (v6 := .slice (some ⟨g9, 0, none⟩) (E.length + 1 + 1) c9) (new := [V]) (by simp) ho9 rfl hg9 (hat9.elim (fun h => .inl h.symm) (fun h => .inr (congrArg some h)))); obtain ⟨p3, p5, p6, p7, p8⟩ := HKP.out _ _ _ HS9.out; obtain ⟨e0, e1, e2, e3, e4⟩ := c5_of HS9.out.x; clear ho9 hg9 hat9 ) | fail)
       go_roundw
       case rel =>
        refine ⟨k + 1, by omega, by go_num, Lib.hid ?_, Lib.hid HS9.out.bel⟩
        have := HS9.out.row
        rw [HES.out, HEI2.out, ← HVE.out]
        simpa using this
       case measure => simp [intOf]; omega
     ·-- 21
      cases L with
      |true =>
       go_wp2_with (first | (at_builtin; refine wpList_append_lies _ rfl _ _ 22 (by rfl) w3.heap.size 5 i0 (.int .u8 0) 1 1 Tryd.underlying22 hi hz0 hz1 hz2 rfl (by decide) _ (E.length) (u8s (E)) (by rfl) ((HS0.out.below (below1 _ _)).rowN (by simp)) ⟨wx.heap.size, 0, none⟩ 1 1 (u8s [149]) (by rfl) rfl (World.news_of_block (heap_alloc_new wx _)) (u8s_one _) (by decide) (by unfold maxLen; simp; omega) (by simp; omega) (by simp; omega) _ rfl ?_; intro g6 c6 w6 ho6 hg6 hat6 _; have HS6 := Lib.hid ((HS0.out.below (below1 wx _)).appN (n := E.length) (v6 := .slice (some ⟨g6, 0, none⟩) (E.length + 1) c6) (new := [149]) (by simp) ho6 rfl hg6 (hat6.elim (fun h => .inl h.symm) (fun h => .inr (congrArg some h)))); obtain ⟨p3, p5, p6, p7, p8⟩ := HKP.out _ _ _ HS6.out; obtain ⟨e0, e1, e2, e3, e4⟩ := c5_of HS6.out.x; clear ho6 hg6 hat6 ) | (at_builtin; refine wpList_append_lies _ rfl _ _ 22 (by rfl) w3.heap.size 5 i0 (.int .u8 0) 1 1 Tryd.underlying22 hi hz0 hz1 hz2 rfl (by decide) _ (E.length + 1) (u8s (E ++ [149])) (by rfl) ((HS6.out.below (below1 _ _)).rowN (by simp)) ⟨w6.heap.size, 0, none⟩ 1 1 (u8s [xa]) (by rfl) rfl (World.news_of_block (heap_alloc_new w6 _)) (u8s_one _) (by decide) (by unfold maxLen; simp; omega) (by simp; omega) (by simp; omega) _ rfl ?_; intro g7 c7 w7 ho7 hg7 hat7 _; have HS7 := Lib.hid ((HS6.out.below (below1 w6 _)).appN (n := E.length + 1) (v6 := .slice (some ⟨g7, 0, none⟩) (E.length + 1 + 1) c7) (new := [xa]) (by simp) ho7 rfl hg7 (hat7.elim (fun h => .inl h.symm) (fun h => .inr (congrArg some h)))); obtain ⟨p3, p5, p6, p7, p8⟩ := HKP.out _ _ _ HS7.out; obtain ⟨e0, e1, e2, e3, e4⟩ := c5_of HS7.out.x; clear ho7 hg7 hat7 ) | fail)
       go_quiet (fail)
       have HSD := Lib.hid (HS7.out.below (belowDrewN (Below.refl _ _) nq))
       generalize World.drewN _ nq = wd at *
       clear p3 p5 p6 p7 p8 e0 e1 e2 e3 e4
       obtain ⟨p3, p5, p6, p7, p8⟩ := HKP.out _ _ _ HSD.out
       obtain ⟨e0, e1, e2, e3, e4⟩ := c5_of HSD.out.x
       go_wp2_with (first | (at_builtin; refine wpList_append_lies _ rfl _ _ 22 (by rfl) w3.heap.size 5 i0 (.int .u8 0) 1 1 Tryd.underlying22 hi hz0 hz1 hz2 rfl (by decide) _ (E.length + 1 + 1) (u8s (E ++ [149] ++ [xa])) (by rfl) ((HSD.out.below (below1 _ _)).rowN (by simp)) ⟨wd.heap.size, 0, none⟩ 2 2 (u8s [T1, T2]) (by rfl) rfl (World.news_of_block (heap_alloc_new wd _)) (u8s_one _) (by decide) (by unfold maxLen; simp; omega) (by simp; omega) (by simp; omega) _ rfl ?_; intro g9 c9 w9 ho9 hg9 hat9 _; have HS9 := Lib.hid ((HSD.out.below (below1 wd _)).appN (n := E.length + 1 + 1) (v6 := .slice (some ⟨g9, 0, none⟩) (E.length + 1 + 1 + 2) c9) (new := [T1, T2]) (by simp) ho9 rfl hg9 (hat9.elim (fun h => .inl h.symm) (fun h => .inr (congrArg some h)))); obtain ⟨p3, p5, p6, p7, p8⟩ := HKP.out _ _ _ HS9.out; obtain ⟨e0, e1, e2, e3, e4⟩ := c5_of HS9.out.x; clear ho9 hg9 hat9 ) | fail)
       go_roundw
       case rel =>
        refine ⟨k + 1, by omega, by go_num, Lib.hid ?_, Lib.hid HS9.out.bel⟩
        have := HS9.out.row
        rw [HES.out, HEI2.out, ← HT1.out, ← HT2.out]
        simpa using this
       case measure => simp [intOf]; omega
      |false =>
       go_wp2_with (first | (at_builtin; refine wpList_append_lies _ rfl _ _ 22 (by rfl) w3.heap.size 5 i0 (.int .u8 0) 1 1 Tryd.underlying22 hi hz0 hz1 hz2 rfl (by decide) _ (E.length) (u8s (E)) (by rfl) ((HS0.out.below (below1 _ _)).rowN (by simp)) ⟨wx.heap.size, 0, none⟩ 1 1 (u8s [21]) (by rfl) rfl (World.news_of_block (heap_alloc_new wx _)) (u8s_one _) (by decide) (by unfold maxLen; simp; omega) (by simp; omega) (by simp; omega) _ rfl ?_; intro g6 c6 w6 ho6 hg6 hat6 _; have HS6 := Lib.hid ((HS0.out.below (below1 wx _)).appN (n := E.length) (v6 := .slice (some ⟨g6, 0, none⟩) (E.length + 1) c6) (new := [21]) (by simp) ho6 rfl hg6 (hat6.elim (fun h => .inl h.symm) (fun h => .inr (congrArg some h)))); obtain ⟨p3, p5, p6, p7, p8⟩ := HKP.out _ _ _ HS6.out; obtain ⟨e0, e1, e2, e3, e4⟩ := c5_of HS6.out.x; clear ho6 hg6 hat6 ) | (at_builtin; refine wpList_append_lies _ rfl _ _ 22 (by rfl) w3.heap.size 5 i0 (.int .u8 0) 1 1 Tryd.underlying22 hi hz0 hz1 hz2 rfl (by decide) _ (E.length + 1) (u8s (E ++ [21])) (by rfl) ((HS6.out.below (below1 _ _)).rowN (by simp)) ⟨w6.heap.size, 0, none⟩ 1 1 (u8s [xa]) (by rfl) rfl (World.news_of_block (heap_alloc_new w6 _)) (u8s_one _) (by decide) (by unfold maxLen; simp; omega) (by simp; omega) (by simp; omega) _ rfl ?_; intro g7 c7 w7 ho7 hg7 hat7 _; have HS7 := Lib.hid ((HS6.out.below (below1 w6 _)).appN (n := E.length + 1) (v6 := .slice (some ⟨g7, 0, none⟩) (E.length + 1 + 1) c7) (new := [xa]) (by simp) ho7 rfl hg7 (hat7.elim (fun h => .inl h.symm) (fun h => .inr (congrArg some h)))); obtain ⟨p3, p5, p6, p7, p8⟩ := HKP.out _ _ _ HS7.out; obtain ⟨e0, e1, e2, e3, e4⟩ := c5_of HS7.out.x; clear ho7 hg7 hat7 ) | fail)
       go_quiet (fail)
       have HSD := Lib.hid (HS7.out.below (belowDrewN (Below.refl _ _) nq))
       generalize World.drewN _ nq = wd at *
       clear p3 p5 p6 p7 p8 e0 e1 e2 e3 e4
       obtain ⟨p3, p5, p6, p7, p8⟩ := HKP.out _ _ _ HSD.out
       obtain ⟨e0, e1, e2, e3, e4⟩ := c5_of HSD.out.x
       have hsg : (sizs ns lg n).getD k 0 = sizN (niAt ns k) (lg.getD k false) := by simp [sizs, List.getD_eq_getElem?_getD, hkn]
       have hpg : ∀ i, i < n → (plcs ns lg n).getD i 0 = plcN ns lg i := fun i hi => by simp [plcs, List.getD_eq_getElem?_getD, hi]
       have hxn : (niAt ns k).n = N := by rw [← HXE.out]
       have HOFC := offset_any wd w1.heap.size pl ib io lc n k N f.params f.slots ((totN ns lg : Nat) : Int) (.slice (some ⟨lb, 0, none⟩) n n) sv (.slice (some ⟨gp, 0, none⟩) n cp) (sizs ns lg n) (plcs ns lg n) (HBL.out.below HSD.out.bel) (cellB (HB3.out.trans (HSD.out.bel.mono HB3.out.size)) HNT.out) (ownsRow_below HSI.out HSD.out.bel) (ownsRow_below HPL.out HSD.out.bel) hkn hNn (sizs_len _ _ _) (plcs_len _ _ _) (by omega) (by rw [hpg k hkn]; omega) (by rw [hpg N hNn, ← HTT.out]; omega)
       rw [hsg, hpg k hkn, hpg N hNn] at HOFC
       obtain ⟨D, hD⟩ : ∃ D, D = offN ns lg k := ⟨_, rfl⟩
       have hDe : ((plcN ns lg N : Nat) : Int) - (plcN ns lg k : Nat) - (sizN (niAt ns k) (lg.getD k false) : Nat) = D := by rw [hD]; unfold offN; rw [hxn]
       rw [hDe] at HOFC
       have HOFF := Lib.hid HOFC
       obtain ⟨V, hV⟩ : ∃ V, V = ((D + 256) % 256).toNat := ⟨_, rfl⟩
       have hcv : IntKind.u8.wrap D = (V : Int) := by rw [u8_wrap, hV]; congr 1; omega
       have HVE : Hid (V = ((offN ns lg k + 256) % 256).toNat) := Lib.hid (by rw [hV, hD])
       clear hsg hpg hxn HOFC hD hDe hV
       go_wp2_with (fail)
       go_at_call 148
       refine HOFF.out.mono ?_
       rintro e w10 ⟨rfl, hb10⟩
       have HS10 := Lib.hid (HSD.out.below hb10)
       have hs10 := HS10.out.bel.size
       clear p3 p5 p6 p7 p8 e0 e1 e2 e3 e4 hb10
       go_wp2_with (first | (at_builtin; refine wpList_append_lies _ rfl _ _ 22 (by rfl) w3.heap.size 5 i0 (.int .u8 0) 1 1 Tryd.underlying22 hi hz0 hz1 hz2 rfl (by decide) _ (E.length + 1 + 1) (u8s (E ++ [21] ++ [xa])) (by rfl) ((HS10.out.below (below1 _ _)).rowN (by simp)) ⟨w10.heap.size, 0, none⟩ 1 1 (u8s [V]) (by rfl) rfl (World.news_of_block (heap_alloc_new w10 _)) (u8s_one _) (by decide) (by unfold maxLen; simp; omega) (by simp; omega) (by simp; omega) _ rfl ?_; intro g9 c9 w9 ho9 hg9 hat9 _; have HS9 := Lib.hid ((HS10.out.below (below1 w10 _)).appN (n := E.length + 1 + 1) (v6 := .slice (some ⟨g9, 0, none⟩) (E.length + 1 + 1 + 1) c9) (new := [V]) (by simp) ho9 rfl hg9 (hat9.elim (fun h => .inl h.symm) (fun h => .inr (congrArg some h)))); obtain ⟨p3, p5, p6, p7, p8⟩ := HKP.out _ _ _ HS9.out; obtain ⟨e0, e1, e2, e3, e4⟩ := c5_of HS9.out.x; clear ho9 hg9 hat9 ) | fail)
       go_roundw
       case rel =>
        refine ⟨k + 1, by omega, by go_num, Lib.hid ?_, Lib.hid HS9.out.bel⟩
        have := HS9.out.row
        rw [HES.out, HEI2.out, ← HVE.out]
        simpa using this
       case measure => simp [intOf]; omega
   ·obtain rfl : n = k := by omega
    go_wp2_with (fail)
    exact HYES.out _ _ _ HE.out HR.out HB.out
end Go.Proofs.YtbdbmmdnidonjaaDoor
