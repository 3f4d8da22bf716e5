/- The reference's run: calls. The reference's run: calls, the walk. -/
import Derived.Test.YtpnliencahnmoaaGreatDoorQ14
set_option linter.unusedVariables false
set_option linter.unusedSimpArgs false
set_option linter.unusedVariables false
set_option linter.unusedSimpArgs false
set_option maxRecDepth 100000
namespace Go.Proofs.YtpnliencahnmoaaGreatDoor
open Go.RowKit
section
variable {P : Program} (w : World)
/-- an append of a row that may be nil -/
theorem wpList_app {ops : Array Oper} {rest : List Oper} {o : Oper} {a : Act} {Q : Exit → Act → World → Prop} (hgd : o.guard = none) (s x : Operand) (t : TypeId)
    (ho : o.op = .call { callee := .builtin .append, args := #[s, x], argTypes := #[t, t] })
    (base : Nat) (e : TypeId) (i : TypeInfo) (z : Value) (size bytes : Nat) (ht : P.underlying t = some (.slice e)) (hi : P.info? e = some i) (hz : i.zero = some z)
    (hsize : i.size = size) (hby : i.bytes = bytes) (hzs : z.cells.size = size) (hsz : 0 < size)
    (v : Value) (n : Nat) (xs : List Value) (hs : a.eval s = v) (hown : w.ownsRow base e size v n xs)
    (A : Option Addr) (m c : Nat) (news : List Value) (hx : a.eval x = .slice A m c) (hl : news.length = m * size) (hA : ∀ ad, A = some ad → ∀ j u, news[j]? = some u → w.cell? (ad.add j) = some u) (hA0 : A = none → m = 0) (h1 : ∀ u ∈ news, u.oneCell' = true)
    (h63 : n + m ≤ maxLen) (hbytes : (n + m) * bytes ≤ 140737488355328) (hbase : base ≤ w.heap.size)
    (h : ∀ v' w', w'.ownsRow base e size v' (n + m) (xs ++ news) → w.grownBy w' v.ownBlock → (v'.ownBlock = v.ownBlock ∨ v'.ownBlock = some w.heap.size) → wpList P ops Q rest (a.put o.dst v') w') : wpList P ops Q (o :: rest) a w := by
  have hrun : ∃ v' w', (Builtin.append_ #[t, t] o.type #[v, .slice A m c]).run P w = .ok v' w' ∧ w'.ownsRow base e size v' (n + m) (xs ++ news) ∧ w.grownBy w' v.ownBlock ∧ (v'.ownBlock = v.ownBlock ∨ v'.ownBlock = some w.heap.size) := by
    cases A with
    | none =>
      obtain rfl := hA0 rfl
      have hn : news = [] := List.eq_nil_of_length_eq_zero (by simpa using hl)
      subst hn
      refine ⟨v, w, ?_, by simpa using hown, World.grownBy.refl w _, .inl rfl⟩
      rcases hown.2 with ⟨rfl, rfl⟩ | ⟨g, cap, cur, rfl, _, _, hnc, _⟩
      · simp [Builtin.append_, run_underlying ht, sizeOf, typeInfo, hi, Builtin.lenOf, Builtin.firstCells]
      · simp [Builtin.append_, run_underlying ht, sizeOf, typeInfo, hi, Builtin.lenOf, Builtin.firstCells, hnc, storeCells]
    | some ad =>
      obtain ⟨v', w', hr, h2, h3, _, h5⟩ := run_append_own_at (P := P) w base t o.type e i z size bytes ht hi hz hsize hby hzs hsz v n xs hown ad m c news hl (hA ad rfl) h1 h63 hbytes hbase
      exact ⟨v', w', hr, h2, h3, h5⟩
  obtain ⟨v', w', hr, h2, h3, h4⟩ := hrun
  refine wpList_plain hgd fun K hK => ?_
  unfold Oper.wp execOp
  simp only [ho, resolve, invoke, builtin, Sem.run_bind, Sem.run_pure, Result.andThen_ok, List.map_toArray, List.map_cons, List.map_nil, hs, hx, hr]
  exact hK _ _ (h v' w' h2 h3 h4)
end
/-- blocks run with so much gas -/
def CBk (w0 : World) (fs : List Fx) (fv : Value) (R CB B g : Nat) : Prop :=
  ∀ (d : Nat) (ss : List St) (v : Value) (env : Env) (s : Cm) (r : Rb) (w : World) (V : Nat) (sv nv vv : Value), evB fs g ss env s = some r → ss.all (stOk isNB d) = true → ss.all (stA fs d) = true → StsAt w0 v ss → Below w0.heap.size w0 w →
    Rn w R CB B fv sv s 0 false → En w V B nv vv env false 0 → Ap R CB V sv nv vv → B ≤ V → env.length + s.left ≤ 20000 →
    Calls Tryz.prog 82 #[.pointer (some ⟨R, 0, none⟩), v, .pointer (some ⟨V, 0, none⟩)] w (BP R CB V B fv sv nv vv env.length s r (OkB env.length r) w)
def OverP (V : Nat) (w : World) (e : Ending) (w' : World) : Prop := e = .returned (.tuple #[]) ∧ Only [V] w w'
set_option maxHeartbeats 2000000 in
theorem stmts_over (w : World) (R CB B : Nat) (fv sv : Value) (s : Cm) (en : Nat) (h : Rn w R CB B fv sv s en true) (V : Nat) (nv vv : Value) (env : Env) (bk : Bool) (bv : Nat) (hE : En w V B nv vv env bk bv) (hA : Ap R CB V sv nv vv) (hl : env.length ≤ 30000) (a : Option Addr) (m cap : Nat) (hm : m ≤ big) :
    Calls Tryz.prog 82 #[.pointer (some ⟨R, 0, none⟩), .slice a m cap, .pointer (some ⟨V, 0, none⟩)] w (OverP V w) := by
  obtain ⟨_, _, _, _, _, _, c6⟩ := blkc7 h.blk
  obtain ⟨d0, d1, d2, d3⟩ := blkc4 hE.blk
  obtain ⟨na, nc, hnf⟩ := rowForm hE.names
  obtain ⟨ua, uc, huf⟩ := rowForm hE.vals
  obtain ⟨n, hn⟩ : ∃ n, n = env.length := ⟨_, rfl⟩
  have hE1 := hE.names; have hE2 := hE.vals
  rw [hnf, ← hn] at d0 hE1
  rw [huf, ← hn] at d1 hE2
  rw [← hn] at hl
  have hc1 := own_cap hE1
  have hc2 := own_cap hE2
  have f0 := hE.blk.frozen 0; have f1 := hE.blk.frozen 1
  unfold big at hm
  clear h hE hA hnf huf hE1 hE2 hn d3
  go_enter Tryz.func82, Tryz.ntmps82
  go_wp2_with (fail)
  go_loop [7] (fun i => i = .int .i64 0) (fun _ => 0)
  case atStart => rfl
  case round =>
    subst hrel
    rcases Nat.eq_zero_or_pos m with rfl | hm0
    all_goals
      go_wp2_with (fail)
      go_end0
      exact ⟨rfl, ((Only.refl [V] w).setCell (p := ⟨V, 0, none⟩) (by simp) _).setCell (p := ⟨V, 1, none⟩) (by simp) _⟩
theorem Rn.keep {w w' : World} {R CB B : Nat} {fv sv : Value} {s : Cm} {en : Nat} {over : Bool} (h : Rn w R CB B fv sv s en over) (hh : ∀ q, (q = R ∨ q = CB ∨ sv.ownBlock = some q) → w'.heap[q]? = w.heap[q]?) : Rn w' R CB B fv sv s en over :=
  ⟨h.blk.same (hh R (.inl rfl)), h.cells.same (hh CB (.inr (.inl rfl))), ownsRow_same h.said (fun q hq => hh q (.inr (.inr hq))), h.ne, h.cm, h.bd⟩
theorem En.keep {w w' : World} {V B : Nat} {nv vv : Value} {env : Env} {back : Bool} {bv : Nat} (h : En w V B nv vv env back bv) (hh : ∀ q, (q = V ∨ nv.ownBlock = some q ∨ vv.ownBlock = some q) → w'.heap[q]? = w.heap[q]?) : En w' V B nv vv env back bv :=
  ⟨h.blk.same (hh V (.inl rfl)), ownsRow_same h.names (fun q hq => hh q (.inr (.inl hq))), ownsRow_same h.vals (fun q hq => hh q (.inr (.inr hq))), h.ok⟩
/-- a call on its way: its boxes, the function, the new variables, the run, the caller's variables -/
structure KI (w : World) (R CB V B : Nat) (fv sv nv vv : Value) (s : Cm) (env : Env) (bk : Bool) (bv : Nat) (box : List Value) (F : Nat) (fc : List Value) (V1 : Nat) (nv1 vv1 : Value) (ps : List ByteArray) (us : List Nat) (sv1 : Value) (s1 : Cm) (en1 : Nat) (ov1 : Bool) (wr : World) : Prop where
  box : Blk wr w.heap.size box
  fn : Blk wr F fc
  ebk : Blk wr V1 [nv1, vv1, .bool false, .int .i64 0]
  nrow : wr.ownsRow B 9 1 nv1 ps.length (ps.map Value.string)
  vrow : wr.ownsRow B 3 1 vv1 us.length (nats us)
  small : ∀ x ∈ us, x < 256
  run : Rn wr R CB B fv sv1 s1 en1 ov1
  fr : Fr [R, CB] sv w sv1 wr
  old : En wr V B nv vv env bk bv
  oap : Ap R CB V sv1 nv vv
  ap : Ap R CB V1 sv1 nv1 vv1
  fnn : F ≠ R ∧ F ≠ CB ∧ sv1.ownBlock ≠ some F ∧ F ≠ V1
  new : w.heap.size < V1 ∧ (∀ q, nv1.ownBlock = some q → w.heap.size < q) ∧ ∀ q, vv1.ownBlock = some q → w.heap.size < q ∧ q ≠ F
  sq : w.heap.size ≠ R ∧ w.heap.size ≠ CB ∧ sv1.ownBlock ≠ some w.heap.size
  olt : V < w.heap.size ∧ (∀ q, nv.ownBlock = some q → q < w.heap.size) ∧ ∀ q, vv.ownBlock = some q → q < w.heap.size
  left : s1.left ≤ s.left
theorem KI.run' {w : World} {R CB V B : Nat} {fv sv nv vv : Value} {s : Cm} {env : Env} {bk : Bool} {bv : Nat} {box : List Value} {F : Nat} {fc : List Value} {V1 : Nat} {nv1 vv1 : Value} {ps : List ByteArray} {us : List Nat} {sv1 : Value} {s1 : Cm} {en1 : Nat} {ov1 : Bool} {wr : World}
    (h : KI w R CB V B fv sv nv vv s env bk bv box F fc V1 nv1 vv1 ps us sv1 s1 en1 ov1 wr) {sv2 : Value} {s2 : Cm} {en2 : Nat} {ov2 : Bool} {wx : World} (hR : Rn wx R CB B fv sv2 s2 en2 ov2) (hF : Fr [R, CB] sv1 wr sv2 wx) (hl : s2.left ≤ s1.left) :
    KI w R CB V B fv sv nv vv s env bk bv box F fc V1 nv1 vv1 ps us sv2 s2 en2 ov2 wx := by
  have hm : ∀ q, q ≠ R → q ≠ CB → q ∉ [R, CB] := fun q h1 h2 => by simp; exact ⟨h1, h2⟩
  refine ⟨hF.blk h.box (hm _ h.sq.1 h.sq.2.1) h.sq.2.2, hF.blk h.fn (hm _ h.fnn.1 h.fnn.2.1) h.fnn.2.2.1, hF.blk h.ebk (hm _ h.ap.v.1 h.ap.v.2.1) h.ap.v.2.2, ?_, ?_, h.small, hR, h.fr.trans hF, h.old.fr h.oap hF, h.oap.fr h.old hF, ?_, ⟨h.fnn.1, h.fnn.2.1, hF.ne h.fn.lt h.fnn.2.2.1, h.fnn.2.2.2⟩, h.new, ⟨h.sq.1, h.sq.2.1, hF.ne h.box.lt h.sq.2.2⟩, h.olt, Nat.le_trans hl h.left⟩
  · exact ownsRow_same h.nrow (fun q hq => hF.block (World.ownsRow.lt h.nrow q hq).2 (hm _ (h.ap.n q hq).1 (h.ap.n q hq).2.1) (h.ap.n q hq).2.2.2.1)
  · exact ownsRow_same h.vrow (fun q hq => hF.block (World.ownsRow.lt h.vrow q hq).2 (hm _ (h.ap.u q hq).1 (h.ap.u q hq).2.1) (h.ap.u q hq).2.2.2)
  · exact ⟨⟨h.ap.v.1, h.ap.v.2.1, hF.ne h.ebk.lt h.ap.v.2.2⟩, fun q hq => ⟨(h.ap.n q hq).1, (h.ap.n q hq).2.1, (h.ap.n q hq).2.2.1, hF.ne (World.ownsRow.lt h.nrow q hq).2 (h.ap.n q hq).2.2.2.1, (h.ap.n q hq).2.2.2.2⟩,
      fun q hq => ⟨(h.ap.u q hq).1, (h.ap.u q hq).2.1, (h.ap.u q hq).2.2.1, hF.ne (World.ownsRow.lt h.vrow q hq).2 (h.ap.u q hq).2.2.2⟩⟩
theorem KI.below {w : World} {R CB V B : Nat} {fv sv nv vv : Value} {s : Cm} {env : Env} {bk : Bool} {bv : Nat} {box : List Value} {F : Nat} {fc : List Value} {V1 : Nat} {nv1 vv1 : Value} {ps : List ByteArray} {us : List Nat} {sv1 : Value} {s1 : Cm} {en1 : Nat} {ov1 : Bool} {wr : World}
    (h : KI w R CB V B fv sv nv vv s env bk bv box F fc V1 nv1 vv1 ps us sv1 s1 en1 ov1 wr) {wx : World} (hb : Below wr.heap.size wr wx) : KI w R CB V B fv sv nv vv s env bk bv box F fc V1 nv1 vv1 ps us sv1 s1 en1 ov1 wx :=
  h.run' (h.run.below hb) (Fr.below hb) (Nat.le_refl _)
/-- a value more: appended, stored -/
theorem KI.app {w : World} {R CB V B : Nat} {fv sv nv vv : Value} {s : Cm} {env : Env} {bk : Bool} {bv : Nat} {box : List Value} {F : Nat} {fc : List Value} {V1 : Nat} {nv1 vv1 : Value} {ps : List ByteArray} {us : List Nat} {sv1 : Value} {s1 : Cm} {en1 : Nat} {ov1 : Bool} {wr : World}
    (h : KI w R CB V B fv sv nv vv s env bk bv box F fc V1 nv1 vv1 ps us sv1 s1 en1 ov1 wr) {wx : World} {g c z : Nat} (hz : z < 256) (ho : wx.ownsRow B 3 1 (.slice (some ⟨g, 0, none⟩) (us.length + 1) c) (us.length + 1) (nats us ++ [.int .i64 (z : Int)])) (hg : wr.grownBy wx vv1.ownBlock) (ha : vv1.ownBlock = some g ∨ g = wr.heap.size) :
    KI w R CB V B fv sv nv vv s env bk bv box F fc V1 nv1 (.slice (some ⟨g, 0, none⟩) (us.length + 1) c) ps (us ++ [z]) sv1 s1 en1 ov1 (wx.setCell ⟨V1, 1, none⟩ (.slice (some ⟨g, 0, none⟩) (us.length + 1) c)) := by
  have hn : ∀ q, q < wr.heap.size → vv1.ownBlock ≠ some q → wx.heap[q]? = wr.heap[q]? := fun q hq hv => hg.block q hq (fun e => hv e.symm)
  have hk : ∀ q, q < wr.heap.size → vv1.ownBlock ≠ some q → q ≠ V1 → (wx.setCell ⟨V1, 1, none⟩ (.slice (some ⟨g, 0, none⟩) (us.length + 1) c)).heap[q]? = wr.heap[q]? := fun q h1 h2 h3 => by rw [Below.heap_setCell _ _ _ _ (by simp; exact h3), hn q h1 h2]
  have hb1 : ∀ q, q ≤ w.heap.size → vv1.ownBlock ≠ some q := fun q hq e => by have := (h.new.2.2 _ e).1; omega
  have hgw : ∀ q, q < wr.heap.size → vv1.ownBlock ≠ some q → g ≠ q := fun q h1 h2 e => by
    subst e
    rcases ha with e | e
    · exact h2 e
    · omega
  have hnV : vv1.ownBlock ≠ some V1 := fun e => (h.ap.u V1 e).2.2.1 rfl
  have hnF : vv1.ownBlock ≠ some F := fun e => (h.new.2.2 F e).2 rfl
  have hnR : vv1.ownBlock ≠ some R := fun e => (h.ap.u R e).1 rfl
  have hnC : vv1.ownBlock ≠ some CB := fun e => (h.ap.u CB e).2.1 rfl
  have hnS : ∀ q, sv1.ownBlock = some q → vv1.ownBlock ≠ some q := fun q hs hv => (h.ap.u q hv).2.2.2 hs
  have hnN : ∀ q, nv1.ownBlock = some q → vv1.ownBlock ≠ some q := fun q hq => (h.ap.n q hq).2.2.2.2
  have hV1 := h.new.1
  have hws := h.fr.size
  refine ⟨h.box.same (hk _ h.box.lt (hb1 _ (Nat.le_refl _)) (by omega)), h.fn.same (hk _ h.fn.lt hnF h.fnn.2.2.2), (h.ebk.same (hn _ h.ebk.lt hnV)).set 1 _, ?_, ?_, ?_, ?_, ?_, ?_, h.oap, ?_, h.fnn, ⟨h.new.1, h.new.2.1, fun q hq => ?_⟩, h.sq, h.olt, h.left⟩
  · exact ownsRow_same h.nrow (fun q hq => hk q (World.ownsRow.lt h.nrow q hq).2 (hnN q hq) (h.ap.n q hq).2.2.1)
  · have e : (us ++ [z]).length = us.length + 1 := by simp
    rw [e, show nats (us ++ [z]) = nats us ++ [.int .i64 (z : Int)] by simp [nats]]
    exact ownsRow_same ho (fun q hq => Below.heap_setCell _ _ _ _ (by
      simp [Value.ownBlock] at hq
      subst hq
      exact hgw V1 h.ebk.lt hnV))
  · intro x hx
    rcases List.mem_append.1 hx with hx | hx
    · exact h.small x hx
    · rw [List.mem_singleton] at hx; omega
  · refine h.run.keep (fun q hq => ?_)
    rcases hq with rfl | rfl | hq
    · exact hk _ h.run.blk.lt hnR (fun e => h.ap.v.1 e.symm)
    · exact hk _ h.run.cells.lt hnC (fun e => h.ap.v.2.1 e.symm)
    · exact hk q (World.ownsRow.lt h.run.said q hq).2 (hnS q hq) (fun e => h.ap.v.2.2 (by rw [← e]; exact hq))
  · exact (h.fr.grownNew hg (fun q hq => by have := (h.new.2.2 q hq).1; omega)).setNew (by simp only []; omega) _
  · refine h.old.keep (fun q hq => ?_)
    have hlt : q < w.heap.size := by
      rcases hq with rfl | hq | hq
      · exact h.olt.1
      · exact h.olt.2.1 q hq
      · exact h.olt.2.2 q hq
    exact hk q (by omega) (hb1 q (by omega)) (by omega)
  · refine ⟨h.ap.v, fun q hq => ⟨(h.ap.n q hq).1, (h.ap.n q hq).2.1, (h.ap.n q hq).2.2.1, (h.ap.n q hq).2.2.2.1, fun e => ?_⟩, fun q hq => ?_⟩
    · simp [Value.ownBlock] at e
      exact hgw q (World.ownsRow.lt h.nrow q hq).2 (hnN q hq) e
    · simp [Value.ownBlock] at hq
      subst hq
      exact ⟨hgw R h.run.blk.lt hnR, hgw CB h.run.cells.lt hnC, hgw V1 h.ebk.lt hnV, fun e => hgw g (World.ownsRow.lt h.run.said g e).2 (hnS g e) rfl⟩
  · simp [Value.ownBlock] at hq
    subst hq
    refine ⟨?_, hgw F h.fn.lt hnF⟩
    rcases ha with e | e
    · exact (h.new.2.2 g e).1
    · have := h.ebk.lt; omega
def prepL (us : List Nat) : Rl → Rl
  | .vals vs s => .vals (us ++ vs) s
  | .stop e s => .stop e s
/-- how far the arguments are -/
def ArgI (fs : List Fx) (g : Nat) (kids : List Ex) (env : Env) (RL : Rl) (j : Nat) (us : List Nat) (s1 : Cm) (en1 : Nat) (ov1 : Bool) : Prop :=
  (ov1 = false → en1 = 0 ∧ ∃ gj rl, gj ≤ g ∧ evL fs gj (kids.drop j) env s1 = some rl ∧ RL = prepL us rl) ∧ (ov1 = true → RL = .stop en1 s1)
theorem ArgI.next {fs : List Fx} {g : Nat} {kids : List Ex} {env : Env} {RL : Rl} {j : Nat} {us : List Nat} {s1 : Cm} (h : ArgI fs g kids env RL j us s1 0 false) {x : Ex} (hx : kids[j]? = some x) :
    ∃ gj r, gj < g ∧ evE fs gj x env s1 = some r ∧ ∀ z, (∀ v s', r = .ret v s' → z = v) → ArgI fs g kids env RL (j + 1) (us ++ [z]) r.cm r.en r.over := by
  obtain ⟨_, gj, rl, hg, he, hr⟩ := h.1 rfl
  have hl := idx_lt hx
  rw [List.getElem?_eq_getElem hl] at hx
  injection hx with hx
  rw [← List.getElem_cons_drop hl, hx] at he
  cases gj with
  | zero => simp [evL] at he
  | succ gj =>
    simp only [evL] at he
    cases hE : evE fs gj x env s1 with
    | none => rw [hE] at he; cases he
    | some r =>
      rw [hE] at he
      refine ⟨gj, r, by omega, hE, fun z hz => ?_⟩
      cases r with
      | stop en s2 =>
        injection he with he
        subst he
        exact ⟨(fun h => by cases h), fun _ => hr⟩
      | ret v s2 =>
        obtain rfl := hz v s2 rfl
        cases hL : evL fs gj (kids.drop (j + 1)) env s2 with
        | none => simp only [hL] at he; cases he
        | some rl2 =>
          simp only [hL] at he
          refine ⟨fun _ => ⟨rfl, gj, rl2, by omega, hL, ?_⟩, (fun h => by cases h)⟩
          rw [hr]
          cases rl2 with
          | vals vs s3 => injection he with he; subst he; simp [prepL]
          | stop en s3 => injection he with he; subst he; rfl
end Go.Proofs.YtpnliencahnmoaaGreatDoor

set_option linter.unusedVariables false
set_option linter.unusedSimpArgs false
set_option maxRecDepth 100000
namespace Go.Proofs.YtpnliencahnmoaaGreatDoor
open Go.RowKit
theorem ownLit0 {B : Nat} (X : World) (q : Nat) (t : TypeId) (hq : q = X.heap.size) (hb : B ≤ X.heap.size) : (X.alloc (.cells #[] t)).ownsRow B t 1 (.slice (some ⟨q, 0, none⟩) 0 0) 0 [] := by
  subst hq
  exact World.ownsRow_lit X #[] 0 hb (by decide) (by decide)
theorem KI.start {w : World} {R CB V B : Nat} {fv sv nv vv : Value} {s : Cm} {env : Env} {bk : Bool} {bv : Nat} (h : Rn w R CB B fv sv s 0 false) (hE : En w V B nv vv env bk bv) (hA : Ap R CB V sv nv vv) {wc w3 : World} (hbc : Below w.heap.size w wc) {box fc : List Value} (hbox : Blk wc w.heap.size box) {F : Nat} (hF : w.heap.size < F) (hfn : Blk wc F fc)
    {o : Obj} (hg : (wc.alloc o).grownBy w3 (some wc.heap.size)) {na : Option Addr} {nc : Nat} {ps : List ByteArray} {m : Nat} (hm : m = ps.length) (ho : w3.ownsRow B 9 1 (.slice na m nc) m (ps.map Value.string)) (hv : (Value.slice na m nc).ownBlock = some wc.heap.size ∨ (Value.slice na m nc).ownBlock = some (wc.alloc o).heap.size) (t : TypeId) :
    KI w R CB V B fv sv nv vv s env bk bv box F fc w3.heap.size (.slice na m nc) (.slice none 0 0) ps [] sv s 0 false (w3.alloc (.cells #[.slice na m nc, .slice none 0 0, .bool false, .int .i64 0] t)) := by
  subst hm
  have hb3 : Below wc.heap.size wc w3 := Only.below (Below.refl _ wc) ((Only.of_below (below1 wc o) []).grown hg (fun z hz => by injection hz; omega)) (Nat.le_refl _) (fun b hb => by cases hb)
  have hb4 : Below wc.heap.size wc (w3.alloc (.cells #[.slice na ps.length nc, .slice none 0 0, .bool false, .int .i64 0] t)) := hb3.trans ((below1 _ _).mono hb3.size)
  have hb : Below w.heap.size w (w3.alloc (.cells #[.slice na ps.length nc, .slice none 0 0, .bool false, .int .i64 0] t)) := hbc.trans (hb4.mono hbc.size)
  have hs3 := hb3.size
  have hsc := hbc.size
  have hbl := hbox.lt
  have hRl := h.blk.lt; have hCl := h.cells.lt; have hVl := hE.blk.lt
  have hsl : ∀ q, sv.ownBlock = some q → q < w.heap.size := fun q hq => (World.ownsRow.lt h.said q hq).2
  have hn : ∀ q, (Value.slice na ps.length nc).ownBlock = some q → wc.heap.size ≤ q ∧ q < w3.heap.size := fun q hq => ⟨by
    rcases hv with e | e
    · rw [e] at hq; injection hq; omega
    · rw [e] at hq; injection hq with hq; simp at hq; omega, (World.ownsRow.lt ho q hq).2⟩
  have hsn : ∀ q, w.heap.size ≤ q → sv.ownBlock ≠ some q := fun q hq e => by have := hsl q e; omega
  have hFl := hfn.lt
  have hvn : (Value.slice none 0 0).ownBlock = none := rfl
  refine ⟨hbox.below hb4, hfn.below hb4, Blk.new _ _ _, ho.alloc _, World.ownsRow_nil _ _ _ _, (fun x hx => by cases hx), h.below hb, Fr.below hb, hE.below hb, hA, ⟨⟨by omega, by omega, hsn _ (by omega)⟩, fun q hq => ?_, fun q hq => by rw [hvn] at hq; cases hq⟩, ⟨by omega, by omega, hsn _ (by omega), by omega⟩, ⟨by omega, fun q hq => by have := hn q hq; omega, fun q hq => by rw [hvn] at hq; cases hq⟩, ⟨by omega, by omega, hsn _ (Nat.le_refl _)⟩, ⟨hVl, fun q hq => (World.ownsRow.lt hE.names q hq).2, fun q hq => (World.ownsRow.lt hE.vals q hq).2⟩, Nat.le_refl _⟩
  have := hn q hq
  exact ⟨by omega, by omega, by omega, hsn _ (by omega), fun e => by rw [hvn] at e; cases e⟩
/-- how an argument answers -/
def ArgP (w : World) (R CB V B : Nat) (fv sv nv vv : Value) (s : Cm) (env : Env) (bk : Bool) (bv : Nat) (box : List Value) (F : Nat) (fc : List Value) (V1 : Nat) (nv1 vv1 : Value) (fs : List Fx) (G : Nat) (kids : List Ex) (RL : Rl) (j : Nat) (ps : List ByteArray) (us : List Nat) (e : Ending) (w' : World) : Prop :=
  ∃ (z : Nat) (sv2 : Value) (s2 : Cm) (en2 : Nat) (ov2 : Bool), e = .returned (.int .i64 (z : Int)) ∧ z < 256 ∧ Hid (KI w R CB V B fv sv nv vv s env bk bv box F fc V1 nv1 vv1 ps us sv2 s2 en2 ov2 w') ∧ Hid (ArgI fs G kids env RL (j + 1) (us ++ [z]) s2 en2 ov2)
theorem arg_any {w0 : World} {fs : List Fx} {w : World} {R CB V B : Nat} {fv sv nv vv : Value} {s : Cm} {env : Env} {bk : Bool} {bv : Nat} {box : List Value} {F : Nat} {fc : List Value} {V1 : Nat} {nv1 vv1 : Value} {ps : List ByteArray} {us : List Nat} {sv1 : Value} {s1 : Cm} {en1 : Nat} {ov1 : Bool} {wr : World}
    (hCx : Cx w0 fs fv R CB B) {G d : Nat} (hG : ∀ g', g' < G → CE w0 fs fv R CB B g') (hs : w.ownsRow B 3 1 sv s.said.length (nats s.said)) (hb0 : Below w0.heap.size w0 w) (hl : env.length ≤ 20000)
    (hK : KI w R CB V B fv sv nv vv s env bk bv box F fc V1 nv1 vv1 ps us sv1 s1 en1 ov1 wr) {kids : List Ex} {RL : Rl} {j : Nat} (hA : ArgI fs G kids env RL j us s1 en1 ov1) {x : Ex} {kvx : Value} (hx : kids[j]? = some x) (hxa : exA fs d x) (hxz : x.name.size ≤ big) (hkx : ExsAt w0 kvx x.kids) :
    Calls Tryz.prog 154 #[.pointer (some ⟨R, 0, none⟩), .agg #[.int .i64 x.op, .int .i64 x.n, .string x.name, kvx], .pointer (some ⟨V, 0, none⟩)] wr (ArgP w R CB V B fv sv nv vv s env bk bv box F fc V1 nv1 vv1 fs G kids RL j ps us) := by
  cases ov1
  · obtain rfl : en1 = 0 := (hA.1 rfl).1
    obtain ⟨gj, r, hg, he, hn⟩ := hA.next hx
    refine (hG gj hg d x kvx env s1 r wr V sv1 nv vv bk bv he hxa hxz hkx (hCx.bel hb0 hs hK.fr) hK.run hK.old hK.oap hl).mono ?_
    rintro e w2 ⟨z, sv2, rfl, hz, hzv, hR, hF, hL⟩
    exact ⟨z, sv2, _, _, _, rfl, hz, Lib.hid (hK.run' hR hF hL), Lib.hid (hn z hzv)⟩
  · refine (expr_over wr R CB B fv sv1 s1 en1 hK.run x.op x.n x.name kvx _).mono ?_
    rintro e w2 ⟨rfl, hb⟩
    exact ⟨0, sv1, s1, en1, true, rfl, by omega, Lib.hid (hK.below hb), Lib.hid ⟨(fun h => by cases h), hA.2⟩⟩
/-- what a region of arguments reads -/
def ArgS (w0 : World) (b : Nat) (V1 : Nat) (ec : List Value) (X : Nat) (box : List Value) (W : World) : Prop := Blk W V1 ec ∧ Blk W X box ∧ W.heap[b]? = w0.heap[b]?
theorem KI.en {w : World} {R CB V B : Nat} {fv sv nv vv : Value} {s : Cm} {env : Env} {bk : Bool} {bv : Nat} {box : List Value} {F : Nat} {fc : List Value} {V1 : Nat} {nv1 vv1 : Value} {ps : List ByteArray} {us : List Nat} {sv1 : Value} {s1 : Cm} {en1 : Nat} {ov1 : Bool} {wr : World}
    (h : KI w R CB V B fv sv nv vv s env bk bv box F fc V1 nv1 vv1 ps us sv1 s1 en1 ov1 wr) (hl : ps.length = us.length) : En wr V1 B nv1 vv1 (ps.zip us).reverse false 0 := by
  have h1 : envN (ps.zip us).reverse = ps := by simp [envN, List.map_fst_zip (Nat.le_of_eq hl)]
  have h2 : envV (ps.zip us).reverse = us := by simp [envV, List.map_snd_zip (Nat.le_of_eq hl.symm)]
  have h3 : (ps.zip us).reverse.length = ps.length := by simp [hl]
  refine ⟨h.ebk, by rw [h1, h3]; exact h.nrow, by rw [h2, h3, hl]; exact h.vrow, fun p hp => ?_⟩
  rw [List.mem_reverse] at hp
  exact h.small _ (List.of_mem_zip hp).2
theorem Fr.thenNew {fx : List Nat} {sv sv' : Value} {a b c : World} (h : Fr fx sv a sv' b) {T : List Nat} (k : Only T b c) (hT : ∀ z ∈ T, a.heap.size ≤ z) : Fr fx sv a sv' c :=
  ⟨⟨k.os.trans h.only.os, k.tape.trans h.only.tape, k.output.trans h.only.output, Nat.le_trans h.only.size k.size, fun i hi hn => by
    rw [k.block i (Nat.lt_of_lt_of_le hi h.only.size) (fun hm => by have := hT i hm; omega), h.only.block i hi hn]⟩, h.row⟩
/-- a call's answer out of its body's -/
def rsOf : Rb → Rs
  | .go _ s1 => .ret 0 s1
  | .back v s1 => .ret v s1
  | .stop e s1 => .stop e s1
theorem evC_parts {fs : List Fx} {g k : Nat} {vs : List Nat} {s : Cm} {r : Rs} (h : evC fs g k vs s = some r) {f : Fx} (hf : fs[k]? = some f) : ∃ g' rb, g = g' + 1 ∧ f.params.length = vs.length ∧ evB fs g' f.body (f.params.zip vs).reverse s = some rb ∧ r = rsOf rb := by
  cases g with
  | zero => simp [evC] at h
  | succ g =>
    rw [evC, hf] at h
    simp only [] at h
    by_cases hl : f.params.length = vs.length
    · rw [if_neg (by simpa using hl)] at h
      cases hb : evB fs g f.body (f.params.zip vs).reverse s with
      | none => rw [hb] at h; cases h
      | some rb => rw [hb] at h; exact ⟨g, rb, rfl, hl, hb, by cases rb <;> (injection h with h; exact h.symm)⟩
    · rw [if_pos hl] at h; cases h
theorem evL_nil {fs : List Fx} {g : Nat} {env : Env} {s : Cm} {r : Rl} (h : evL fs g [] env s = some r) : r = .vals [] s := by
  cases g with
  | zero => simp [evL] at h
  | succ g => rw [evL] at h; injection h with h; exact h.symm
theorem KI.frEnd {w : World} {R CB V B : Nat} {fv sv nv vv : Value} {s : Cm} {env : Env} {bk : Bool} {bv : Nat} {box : List Value} {F : Nat} {fc : List Value} {V1 : Nat} {nv1 vv1 : Value} {ps : List ByteArray} {us : List Nat} {sv1 : Value} {s1 : Cm} {en1 : Nat} {ov1 : Bool} {wr : World}
    (h : KI w R CB V B fv sv nv vv s env bk bv box F fc V1 nv1 vv1 ps us sv1 s1 en1 ov1 wr) {S' : List Nat} {w2 : World} (hF : Fq (foot R CB V1 sv1 nv1 vv1) wr S' w2) {sv' : Value} (hs : ∀ k, sv'.ownBlock = some k → k ∈ S') (hne : sv'.ownBlock ≠ some R ∧ sv'.ownBlock ≠ some CB) : Fr [R, CB] sv w sv' w2 := by
  have hnew := h.new
  refine ⟨⟨hF.only.os.trans h.fr.only.os, hF.only.tape.trans h.fr.only.tape, hF.only.output.trans h.fr.only.output, Nat.le_trans h.fr.only.size hF.only.size, fun i hi hn => ?_⟩, ?_⟩
  · simp only [List.cons_append, List.nil_append, List.mem_cons, not_or, Option.mem_toList] at hn
    rw [hF.only.block i (Nat.lt_of_lt_of_le hi h.fr.size) (fun hm => ?_), h.fr.only.block i hi (by simp; exact hn)]
    rw [mem_foot] at hm
    rcases hm with e | e | e | e | e | e
    · exact hn.1 e
    · exact hn.2.1 e
    · omega
    · exact h.fr.ne hi (fun e => hn.2.2 (by simpa using e)) e
    · have := hnew.2.1 i e; omega
    · have := (hnew.2.2 i e).1; omega
  · cases hk : sv'.ownBlock with
    | none => exact .inr (fun k e => by cases e)
    | some k =>
      have key : sv.ownBlock = some k ∨ w.heap.size ≤ k := by
        rcases hF.row k (hs k hk) with hm | hm
        · rw [mem_foot] at hm
          rcases hm with e | e | e | e | e | e
          · exact absurd (by rw [hk, e]) hne.1
          · exact absurd (by rw [hk, e]) hne.2
          · exact .inr (by omega)
          · rcases h.fr.row with hr | hr
            · exact .inl (by rw [← hr]; exact e)
            · exact .inr (hr k e)
          · exact .inr (by have := hnew.2.1 k e; omega)
          · exact .inr (by have := (hnew.2.2 k e).1; omega)
        · exact .inr (Nat.le_trans h.fr.size hm)
      rcases key with e | e
      · exact .inl e.symm
      · exact .inr (fun k' e' => by injection e' with e'; omega)
set_option maxHeartbeats 8000000 in
theorem call_any {w0 : World} {fs : List Fx} {w : World} {R CB V B : Nat} {fv sv nv vv : Value} {s : Cm} {env : Env} {bk : Bool} {bv : Nat} (hCx : Cx w0 fs fv R CB B) {G d : Nat} (hG : ∀ g', g' < G → CE w0 fs fv R CB B g') (hGB : ∀ g', g' < G → CBk w0 fs fv R CB B g')
    (h : Rn w R CB B fv sv s 0 false) (hE : En w V B nv vv env bk bv) (hA : Ap R CB V sv nv vv) (hl : env.length ≤ 20000) (hb0 : Below w0.heap.size w0 w)
    (n : Int) (nm : ByteArray) (kv : Value) {kids : List Ex} (hkv : ExsAt w0 kv kids) (hka : ∀ x ∈ kids, exA fs d x) (hk3 : kids.length ≤ 3) {k : Nat} (hfx : fnIx fs nm = some k) {f : Fx} (hf : fs[k]? = some f) (hpl : f.params.length = kids.length)
    {RL : Rl} (hRL : evL fs G kids env s = some RL) {r : Rs} (hr1 : ∀ vs s1, RL = .vals vs s1 → evC fs G k vs s1 = some r) (hr2 : ∀ en s1, RL = .stop en s1 → r = .stop en s1) :
    Calls Tryz.prog 191 #[.pointer (some ⟨R, 0, none⟩), .agg #[.int .i64 13, .int .i64 n, .string nm, kv], .pointer (some ⟨V, 0, none⟩)] w (EP R CB B fv sv s r w) := by
  obtain ⟨ka, kc, hkf⟩ := hkv.form
  obtain ⟨m, hm⟩ : ∃ m, m = kids.length := ⟨_, rfl⟩
  rw [← hm] at hkf hk3 hpl
  subst hkf
  obtain ⟨fa, fcap, hfv, hfm⟩ := hCx.at0.form
  obtain ⟨fl, hfl⟩ : ∃ fl, fl = fs.length := ⟨_, rfl⟩
  have hkl := idx_lt hf
  rw [← hfl] at hfv hfm hkl
  have hfs2 := hCx.at0
  rw [hfv] at hfs2
  obtain ⟨_, fb, fo, pv, bv', rfl, hbl, x0, x1, x2, hpv, hbv⟩ := hfs2.get hf
  obtain ⟨pa, pc, hpf, hpm⟩ := hpv.form
  rw [hpl] at hpf hpm
  subst hpf
  obtain ⟨bl, bc, hbf⟩ := hbv.form
  obtain ⟨bn, hbn⟩ : ∃ bn, bn = f.body.length := ⟨_, rfl⟩
  have hbm : bn ≤ big := by rw [hbn]; exact hbv.lens.1
  rw [← hbn] at hbf
  subst hbf
  have hfi : fnAtI fs nm = (k : Int) := by unfold fnAtI; rw [hfx]
  have HFA := Lib.hid (fun w' hb => specFnAt_any fs w' fv nm (hCx.at0.below hb))
  rw [hfi] at HFA
  have hlt : V < w.heap.size ∧ (∀ q, nv.ownBlock = some q → q < w.heap.size) ∧ ∀ q, vv.ownBlock = some q → q < w.heap.size := ⟨hE.blk.lt, fun q hq => (World.ownsRow.lt hE.names q hq).2, fun q hq => (World.ownsRow.lt hE.vals q hq).2⟩
  have hsq : w.heap.size ≠ R ∧ w.heap.size ≠ CB ∧ sv.ownBlock ≠ some w.heap.size := ⟨by have := h.blk.lt; omega, by have := h.cells.lt; omega, fun e => by have := (World.ownsRow.lt h.said _ e).2; omega⟩
  have hRl := h.blk.lt; have hCl := h.cells.lt
  have hsl : ∀ q, sv.ownBlock = some q → q < w.heap.size := fun q hq => (World.ownsRow.lt h.said q hq).2
  have HSL := Lib.hid hsl
  have HLT := Lib.hid hlt; have HSQ := Lib.hid hsq; have H := Lib.hid h; have HE := Lib.hid hE; have HA := Lib.hid hA; have HL := Lib.hid hl; have HB0 := Lib.hid hb0; have HKV := Lib.hid hkv; have HKA := Lib.hid hka; have HF := Lib.hid hf; have HPL := Lib.hid hpl
  have HRL := Lib.hid hRL; have HR1 := Lib.hid hr1; have HR2 := Lib.hid hr2; have HPV := Lib.hid hpv; have HBV := Lib.hid hbv; have HM := Lib.hid hm; have HG := Lib.hid hG; have HGB := Lib.hid hGB; have HCX := Lib.hid hCx; have HFX := Lib.hid hfx
  have HX0 := Lib.hid x0; have HX1 := Lib.hid x1; have HX2 := Lib.hid x2; have HFV := Lib.hid hfv
  have k0 : (0 : Int) ≤ k := by omega
  have k1 : (k : Int) < fl := by omega
  obtain ⟨i0, hi, hz0, hz1, hz2⟩ := info_parts info_str
  obtain ⟨j0, hj, hy0, hy1, hy2⟩ := info_parts info_int
  unfold big at hfm hpm hbm
  clear hfs2 hlt hsq h hE hA hl hb0 hkv hka hf hpl hRL hr1 hr2 hpv hbv hG hGB hCx hfx hfi hfl hbn x0 x1 x2 hm hfv hsl
  go_enter Tryz.func191, Tryz.ntmps191
  go_upto_region 1 with (fail)
  generalize hw1 : World.alloc _ _ = w1
  have hbox : Blk w1 w.heap.size [.int .i64 13, .int .i64 n, .string nm, .slice ka m kc] := by rw [← hw1]; exact Blk.new _ _ _
  have hb1 : Below w.heap.size w w1 := by rw [← hw1]; exact below1 _ _
  have HS1 : Hid (w1.heap.size = w.heap.size + 1) := Lib.hid (by rw [← hw1]; simp)
  have hb01 := HB0.out.trans (hb1.mono HB0.out.size)
  obtain ⟨b0, b1, b2, b3⟩ := blkc4 hbox
  obtain ⟨r0, _, _, _, _, _, _⟩ := blkc7 (H.out.below hb1).blk
  have x0 := cellB hb01 HX0.out; have x1 := cellB hb01 HX1.out; have x2 := cellB hb01 HX2.out
  have HBX := Lib.hid hbox; have HB1 := Lib.hid hb1; have HB01 := Lib.hid hb01
  rw [HFV.out] at r0
  clear hw1 hbox hb1 hb01 b0 b1 b3
  have hk : ∀ W, Below w1.heap.size w1 W → (fun W : World => W.cell? ⟨R, 0, none⟩ = some (.slice (some ⟨fb, fo, none⟩) fl fcap) ∧ W.cell? ⟨w.heap.size, 2, none⟩ = some (.string nm) ∧ W.cell? ⟨fb, fo + k * 3, none⟩ = some (.string f.name) ∧ W.cell? ⟨fb, fo + k * 3 + 1, none⟩ = some (.slice pa m pc) ∧ W.cell? ⟨fb, fo + k * 3 + 2, none⟩ = some (.slice bl bn bc)) W := fun W h => ⟨cellB h r0, cellB h b2, cellB h x0, cellB h x1, cellB h x2⟩
  have HK := Lib.hid hk
  have hs0 := hk _ (Below.refl _ w1).drew
  clear hk
  have hkq : ∀ W', Below w1.heap.size w1 W' → (fun W : World => Below w1.heap.size w1 W ∧ W.cell? ⟨R, 0, none⟩ = some (.slice (some ⟨fb, fo, none⟩) fl fcap) ∧ W.cell? ⟨w.heap.size, 2, none⟩ = some (.string nm) ∧ W.cell? ⟨fb, fo + k * 3, none⟩ = some (.string f.name) ∧ W.cell? ⟨fb, fo + k * 3 + 1, none⟩ = some (.slice pa m pc) ∧ W.cell? ⟨fb, fo + k * 3 + 2, none⟩ = some (.slice bl bn bc)) W' := fun W' hb => ⟨hb, cellB hb r0, cellB hb b2, cellB hb x0, cellB hb x1, cellB hb x2⟩
  have hs1 : (fun W : World => Below w1.heap.size w1 W ∧ W.cell? ⟨R, 0, none⟩ = some (.slice (some ⟨fb, fo, none⟩) fl fcap) ∧ W.cell? ⟨w.heap.size, 2, none⟩ = some (.string nm) ∧ W.cell? ⟨fb, fo + k * 3, none⟩ = some (.string f.name) ∧ W.cell? ⟨fb, fo + k * 3 + 1, none⟩ = some (.slice pa m pc) ∧ W.cell? ⟨fb, fo + k * 3 + 2, none⟩ = some (.slice bl bn bc)) w1 := hkq _ (Below.refl _ _)
  have hs2 : (fun W : World => Below w1.heap.size w1 W ∧ W.cell? ⟨R, 0, none⟩ = some (.slice (some ⟨fb, fo, none⟩) fl fcap) ∧ W.cell? ⟨w.heap.size, 2, none⟩ = some (.string nm) ∧ W.cell? ⟨fb, fo + k * 3, none⟩ = some (.string f.name) ∧ W.cell? ⟨fb, fo + k * 3 + 1, none⟩ = some (.slice pa m pc) ∧ W.cell? ⟨fb, fo + k * 3 + 2, none⟩ = some (.slice bl bn bc)) w1.drew := hkq _ ((Below.refl _ _).drew)
  have HKQ := Lib.hid hkq
  rw [HFV.out] at HFA
  clear hkq hs0 hs1 HK
  go_upto_region 1 with (fail)
  go_cut [7] from 10 to 23 (fun c wx => ∃ F, c = .pointer (some ⟨F, 0, none⟩) ∧ Hid (w1.heap.size ≤ F ∧ Blk wx F [.string f.name, .slice pa m pc, .slice bl bn bc] ∧ Below w1.heap.size w1 wx))
  case first =>
   go_region_held3 (fun W : World => Below w1.heap.size w1 W ∧ W.cell? ⟨R, 0, none⟩ = some (.slice (some ⟨fb, fo, none⟩) fl fcap) ∧ W.cell? ⟨w.heap.size, 2, none⟩ = some (.string nm) ∧ W.cell? ⟨fb, fo + k * 3, none⟩ = some (.string f.name) ∧ W.cell? ⟨fb, fo + k * 3 + 1, none⟩ = some (.slice pa m pc) ∧ W.cell? ⟨fb, fo + k * 3 + 2, none⟩ = some (.slice bl bn bc)) (first | assumption | exact HKQ.out _ ((And.left (by assumption : (fun W : World => Below w1.heap.size w1 W ∧ W.cell? ⟨R, 0, none⟩ = some (.slice (some ⟨fb, fo, none⟩) fl fcap) ∧ W.cell? ⟨w.heap.size, 2, none⟩ = some (.string nm) ∧ W.cell? ⟨fb, fo + k * 3, none⟩ = some (.string f.name) ∧ W.cell? ⟨fb, fo + k * 3 + 1, none⟩ = some (.slice pa m pc) ∧ W.cell? ⟨fb, fo + k * 3 + 2, none⟩ = some (.slice bl bn bc)) _)).trans ((below1 _ _).mono (And.left (by assumption : (fun W : World => Below w1.heap.size w1 W ∧ W.cell? ⟨R, 0, none⟩ = some (.slice (some ⟨fb, fo, none⟩) fl fcap) ∧ W.cell? ⟨w.heap.size, 2, none⟩ = some (.string nm) ∧ W.cell? ⟨fb, fo + k * 3, none⟩ = some (.string f.name) ∧ W.cell? ⟨fb, fo + k * 3 + 1, none⟩ = some (.slice pa m pc) ∧ W.cell? ⟨fb, fo + k * 3 + 2, none⟩ = some (.slice bl bn bc)) _)).size)) | exact HKQ.out _ ((((And.left (by assumption : (fun W : World => Below w1.heap.size w1 W ∧ W.cell? ⟨R, 0, none⟩ = some (.slice (some ⟨fb, fo, none⟩) fl fcap) ∧ W.cell? ⟨w.heap.size, 2, none⟩ = some (.string nm) ∧ W.cell? ⟨fb, fo + k * 3, none⟩ = some (.string f.name) ∧ W.cell? ⟨fb, fo + k * 3 + 1, none⟩ = some (.slice pa m pc) ∧ W.cell? ⟨fb, fo + k * 3 + 2, none⟩ = some (.slice bl bn bc)) _)).setCell (by first | exact Nat.le_refl _ | exact (And.left (by assumption : (fun W : World => Below w1.heap.size w1 W ∧ W.cell? ⟨R, 0, none⟩ = some (.slice (some ⟨fb, fo, none⟩) fl fcap) ∧ W.cell? ⟨w.heap.size, 2, none⟩ = some (.string nm) ∧ W.cell? ⟨fb, fo + k * 3, none⟩ = some (.string f.name) ∧ W.cell? ⟨fb, fo + k * 3 + 1, none⟩ = some (.slice pa m pc) ∧ W.cell? ⟨fb, fo + k * 3 + 2, none⟩ = some (.slice bl bn bc)) _)).size) _).setCell (by first | exact Nat.le_refl _ | exact (And.left (by assumption : (fun W : World => Below w1.heap.size w1 W ∧ W.cell? ⟨R, 0, none⟩ = some (.slice (some ⟨fb, fo, none⟩) fl fcap) ∧ W.cell? ⟨w.heap.size, 2, none⟩ = some (.string nm) ∧ W.cell? ⟨fb, fo + k * 3, none⟩ = some (.string f.name) ∧ W.cell? ⟨fb, fo + k * 3 + 1, none⟩ = some (.slice pa m pc) ∧ W.cell? ⟨fb, fo + k * 3 + 2, none⟩ = some (.slice bl bn bc)) _)).size) _).setCell (by first | exact Nat.le_refl _ | exact (And.left (by assumption : (fun W : World => Below w1.heap.size w1 W ∧ W.cell? ⟨R, 0, none⟩ = some (.slice (some ⟨fb, fo, none⟩) fl fcap) ∧ W.cell? ⟨w.heap.size, 2, none⟩ = some (.string nm) ∧ W.cell? ⟨fb, fo + k * 3, none⟩ = some (.string f.name) ∧ W.cell? ⟨fb, fo + k * 3 + 1, none⟩ = some (.slice pa m pc) ∧ W.cell? ⟨fb, fo + k * 3 + 2, none⟩ = some (.slice bl bn bc)) _)).size) _) | exact HKQ.out _ (((And.left (by assumption : (fun W : World => Below w1.heap.size w1 W ∧ W.cell? ⟨R, 0, none⟩ = some (.slice (some ⟨fb, fo, none⟩) fl fcap) ∧ W.cell? ⟨w.heap.size, 2, none⟩ = some (.string nm) ∧ W.cell? ⟨fb, fo + k * 3, none⟩ = some (.string f.name) ∧ W.cell? ⟨fb, fo + k * 3 + 1, none⟩ = some (.slice pa m pc) ∧ W.cell? ⟨fb, fo + k * 3 + 2, none⟩ = some (.slice bl bn bc)) _)).trans ((below1 _ _).mono (And.left (by assumption : (fun W : World => Below w1.heap.size w1 W ∧ W.cell? ⟨R, 0, none⟩ = some (.slice (some ⟨fb, fo, none⟩) fl fcap) ∧ W.cell? ⟨w.heap.size, 2, none⟩ = some (.string nm) ∧ W.cell? ⟨fb, fo + k * 3, none⟩ = some (.string f.name) ∧ W.cell? ⟨fb, fo + k * 3 + 1, none⟩ = some (.slice pa m pc) ∧ W.cell? ⟨fb, fo + k * 3 + 2, none⟩ = some (.slice bl bn bc)) _)).size)))) ((go_at_call 149; refine (HFA.out _ (HB01.out.trans ((And.left (by assumption : (fun W : World => Below w1.heap.size w1 W ∧ W.cell? ⟨R, 0, none⟩ = some (.slice (some ⟨fb, fo, none⟩) fl fcap) ∧ W.cell? ⟨w.heap.size, 2, none⟩ = some (.string nm) ∧ W.cell? ⟨fb, fo + k * 3, none⟩ = some (.string f.name) ∧ W.cell? ⟨fb, fo + k * 3 + 1, none⟩ = some (.slice pa m pc) ∧ W.cell? ⟨fb, fo + k * 3 + 2, none⟩ = some (.slice bl bn bc)) _)).mono HB01.out.size))).mono ?_; rintro e w2 ⟨rfl, hb2⟩; have hs3 : (fun W : World => Below w1.heap.size w1 W ∧ W.cell? ⟨R, 0, none⟩ = some (.slice (some ⟨fb, fo, none⟩) fl fcap) ∧ W.cell? ⟨w.heap.size, 2, none⟩ = some (.string nm) ∧ W.cell? ⟨fb, fo + k * 3, none⟩ = some (.string f.name) ∧ W.cell? ⟨fb, fo + k * 3 + 1, none⟩ = some (.slice pa m pc) ∧ W.cell? ⟨fb, fo + k * 3 + 2, none⟩ = some (.slice bl bn bc)) w2 := HKQ.out _ ((And.left (by assumption : (fun W : World => Below w1.heap.size w1 W ∧ W.cell? ⟨R, 0, none⟩ = some (.slice (some ⟨fb, fo, none⟩) fl fcap) ∧ W.cell? ⟨w.heap.size, 2, none⟩ = some (.string nm) ∧ W.cell? ⟨fb, fo + k * 3, none⟩ = some (.string f.name) ∧ W.cell? ⟨fb, fo + k * 3 + 1, none⟩ = some (.slice pa m pc) ∧ W.cell? ⟨fb, fo + k * 3 + 2, none⟩ = some (.slice bl bn bc)) _)).trans (hb2.mono (And.left (by assumption : (fun W : World => Below w1.heap.size w1 W ∧ W.cell? ⟨R, 0, none⟩ = some (.slice (some ⟨fb, fo, none⟩) fl fcap) ∧ W.cell? ⟨w.heap.size, 2, none⟩ = some (.string nm) ∧ W.cell? ⟨fb, fo + k * 3, none⟩ = some (.string f.name) ∧ W.cell? ⟨fb, fo + k * 3 + 1, none⟩ = some (.slice pa m pc) ∧ W.cell? ⟨fb, fo + k * 3 + 2, none⟩ = some (.slice bl bn bc)) _)).size)); obtain ⟨hcc, hff⟩ := bcell hb2; have HBn := Lib.hid hb2; clear hb2))
   · go_wp2_with (fail)
     go_meet
     case rel => exact ⟨_, rfl, Lib.hid ⟨by have := HBn.out.size; simpa using this, Blk.new _ _ _, (And.left (by assumption : (fun W : World => Below w1.heap.size w1 W ∧ W.cell? ⟨R, 0, none⟩ = some (.slice (some ⟨fb, fo, none⟩) fl fcap) ∧ W.cell? ⟨w.heap.size, 2, none⟩ = some (.string nm) ∧ W.cell? ⟨fb, fo + k * 3, none⟩ = some (.string f.name) ∧ W.cell? ⟨fb, fo + k * 3 + 1, none⟩ = some (.slice pa m pc) ∧ W.cell? ⟨fb, fo + k * 3 + 2, none⟩ = some (.slice bl bn bc)) _))⟩⟩
   · go_wp2_with (fail)
     go_meet
     case rel => exact ⟨_, rfl, Lib.hid ⟨Nat.le_refl _, ((((Blk.new w1 #[.string ⟨#[]⟩, .slice none 0 0, .slice none 0 0] _).drew.below HBn.out).set 0 _).set 1 _).set 2 _, (And.left (by assumption : (fun W : World => Below w1.heap.size w1 W ∧ W.cell? ⟨R, 0, none⟩ = some (.slice (some ⟨fb, fo, none⟩) fl fcap) ∧ W.cell? ⟨w.heap.size, 2, none⟩ = some (.string nm) ∧ W.cell? ⟨fb, fo + k * 3, none⟩ = some (.string f.name) ∧ W.cell? ⟨fb, fo + k * 3 + 1, none⟩ = some (.slice pa m pc) ∧ W.cell? ⟨fb, fo + k * 3 + 2, none⟩ = some (.slice bl bn bc)) _))⟩⟩
  case rest =>
  obtain ⟨F, rfl, hFI⟩ := hcut
  obtain ⟨hFs, hFb, hFB⟩ := hFI.out
  have HFS := Lib.hid hFs; have HFC := Lib.hid hFb; have HFB := Lib.hid hFB
  have HBB : Hid (Below w0.heap.size w0 wc) := Lib.hid (HB01.out.trans (hFB.mono HB01.out.size))
  have HBW : Hid (Below w.heap.size w wc) := Lib.hid (HB1.out.trans (hFB.mono HB1.out.size))
  have HBC := Lib.hid (HBX.out.below hFB)
  obtain ⟨g0, g1, g2⟩ := blkc3 hFb
  have hBw : B ≤ wc.heap.size := by have := HCX.out.hR; have := HBW.out.size; omega
  have hpl : (f.params.map Value.string).length = m * 1 := by simp; exact HPL.out
  have hpx : ∀ ad, pa = some ad → ∀ j u, (f.params.map Value.string)[j]? = some u → (wc.alloc (.cells #[] 9)).cell? (ad.add j) = some u := by
    intro ad had j u hu
    rw [List.getElem?_map] at hu
    cases hj : f.params[j]? with
    | none => rw [hj] at hu; cases hu
    | some x =>
      rw [hj] at hu
      injection hu with hu
      subst hu
      obtain ⟨_, b, o, hb, _, e0⟩ := HPV.out.get hj
      rw [had] at hb
      injection hb with hb
      subst hb
      have e1 := cellB (below1 wc (.cells #[] 9)) (cellB HBB.out e0)
      by_cases hj0 : j = 0
      · subst hj0; simpa [Addr.add] using e1
      · simpa [Addr.add, hj0] using e1
  have hp0 : pa = none → m = 0 := by
    intro e
    rcases Nat.eq_zero_or_pos m with h | h
    · exact h
    · obtain ⟨x, hx⟩ : ∃ x, f.params[0]? = some x := ⟨_, List.getElem?_eq_getElem (by rw [HPL.out]; exact h)⟩
      obtain ⟨_, b, o, hb, _⟩ := HPV.out.get hx
      rw [e] at hb; cases hb
  have HPX := Lib.hid hpx; have HP0 := Lib.hid hp0; have HPM := Lib.hid hpl
  have hFl := hFb.lt
  clear hpx hp0 hpl hFs hFb hFB hFI g0 g2
  go_wp2_with (first | (at_builtin; go_loud (refine wpList_app _ rfl (.tmp 24) (.tmp 26) 61 (by rfl) B 9 i0 _ 1 16 Tryz.underlying61 hi hz0 hz1 hz2 rfl (by decide) _ 0 [] (by rfl) (ownLit0 _ _ _ rfl hBw) pa m pc (f.params.map Value.string) (by rfl) HPM.out HPX.out HP0.out (by simp [Value.oneCell']) (by unfold maxLen; omega) (by omega) (by simp; omega) ?_; intro nv1 w3 ho hg hv; rw [Nat.zero_add, List.nil_append] at ho; have HO := Lib.hid ho; have HG := Lib.hid hg; have HV := Lib.hid hv; clear ho hg hv; obtain ⟨na, nc, hnf⟩ := rowForm HO.out; subst hnf)))
  have hFw : w.heap.size < F := by have := HFS.out; have := HS1.out; omega
  have HKI := Lib.hid (KI.start H.out HE.out HA.out HBW.out HBC.out hFw HFC.out HG.out HPL.out.symm HO.out HV.out 115)
  generalize hw4 : World.alloc w3 _ = w4
  rw [hw4] at HKI
  have hsz4 : w4.heap.size = w3.heap.size + 1 := by rw [← hw4]; simp
  obtain ⟨V1, hV1⟩ : ∃ V1, V1 = w3.heap.size := ⟨_, rfl⟩
  rw [← hV1] at HKI ⊢
  have HARG : Hid (ArgI fs G kids env RL 0 [] s 0 false) := Lib.hid ⟨fun _ => ⟨rfl, G, RL, Nat.le_refl _, by simpa using HRL.out, by cases RL <;> rfl⟩, (fun h => by cases h)⟩
  clear hw4 hV1 hsz4 HO HG HV HFC HBC HPX HP0 HPM hBw hFl g1 x0 x1 x2 r0 b2
  go_loopw [9] (fun i wr => ∃ (j : Nat) (us : List Nat) (vv1 sv1 : Value) (s1 : Cm) (en1 : Nat) (ov1 : Bool), j ≤ m ∧ i = .int .i64 j ∧ Hid (us.length = j) ∧
    Hid (KI w R CB V B fv sv nv vv s env bk bv [.int .i64 13, .int .i64 n, .string nm, .slice ka m kc] F [.string f.name, .slice pa m pc, .slice bl bn bc] V1 (.slice na m nc) vv1 f.params us sv1 s1 en1 ov1 wr) ∧ Hid (ArgI fs G kids env RL j us s1 en1 ov1)) (fun i _ => m - (intOf i).toNat)
  case atStart => exact ⟨0, [], _, _, _, _, _, Nat.zero_le _, rfl, Lib.hid rfl, HKI, HARG⟩
  case round =>
  obtain ⟨j, us, vv1, sv1, s1, en1, ov1, hjm, rfl, HU, HK, HAR⟩ := hrel
  by_cases hlt : j < m
  · obtain ⟨x, hx⟩ : ∃ x, kids[j]? = some x := ⟨_, List.getElem?_eq_getElem (by rw [← HM.out]; exact hlt)⟩
    obtain ⟨b, off, kvx, rfl, hbl', e0, e1, e2, e3, hkx⟩ := HKV.out.get hx
    have HAR2 := Lib.hid (fun wx (h : KI w R CB V B fv sv nv vv s env bk bv [.int .i64 13, .int .i64 n, .string nm, .slice (some ⟨b, off, none⟩) m kc] F [.string f.name, .slice pa m pc, .slice bl bn bc] V1 (.slice na m nc) vv1 f.params us sv1 s1 en1 ov1 wx) => arg_any HCX.out HG.out H.out.said HB0.out HL.out h HAR.out hx (HKA.out x (List.mem_of_getElem? hx)) (HKV.out.lens.2 j x hx) hkx)
    have hBb : b < B := by have := HCX.out.b0; omega
    have hb0r := HCX.out.bel HB0.out H.out.said HK.out.fr
    have hS0 : ArgS w0 b V1 [.slice na m nc, vv1, .bool false, .int .i64 0] w.heap.size [.int .i64 13, .int .i64 n, .string nm, .slice (some ⟨b, off, none⟩) m kc] wr := ⟨HK.out.ebk, HK.out.box, hb0r.block b hbl'⟩
    obtain ⟨q0, q1, q2, q3⟩ := blkc4 HK.out.box
    have k0 : (0 : Int) ≤ j := by omega
    have k1 : (j : Int) < m := by omega
    have HE0 := Lib.hid e0; have HE1 := Lib.hid e1; have HE2 := Lib.hid e2; have HE3 := Lib.hid e3; have HS0 := Lib.hid hS0
    have HC : Hid (∀ W, ArgS w0 b V1 [.slice na m nc, vv1, .bool false, .int .i64 0] w.heap.size [.int .i64 13, .int .i64 n, .string nm, .slice (some ⟨b, off, none⟩) m kc] W → W.cell? ⟨V1, 1, none⟩ = some vv1 ∧ W.cell? ⟨w.heap.size, 3, none⟩ = some (.slice (some ⟨b, off, none⟩) m kc) ∧
        W.cell? ⟨b, off + j * 4, none⟩ = some (.int .i64 x.op) ∧ W.cell? ⟨b, off + j * 4 + 1, none⟩ = some (.int .i64 x.n) ∧ W.cell? ⟨b, off + j * 4 + 2, none⟩ = some (.string x.name) ∧ W.cell? ⟨b, off + j * 4 + 3, none⟩ = some kvx) := Lib.hid (fun W h => ⟨(blkc4 h.1).2.1, (blkc4 h.2.1).2.2.2, (World.cell?_of_block h.2.2).trans HE0.out, (World.cell?_of_block h.2.2).trans HE1.out, (World.cell?_of_block h.2.2).trans HE2.out, (World.cell?_of_block h.2.2).trans HE3.out⟩)
    clear hx e0 e1 e2 e3 hkx hb0r hS0
    go_upto_region 6 with (fail)
    refine wp_region_chain (ArgS w0 b V1 [.slice na m nc, vv1, .bool false, .int .i64 0] w.heap.size [.int .i64 13, .int .i64 n, .string nm, .slice (some ⟨b, off, none⟩) m kc]) [(0, false), (1, false), (2, false), (3, false), (4, true), (5, false), (6, false), (7, true), (8, false), (9, false), (10, true), (11, false)] [12, 13, 14, 15, 16, 17] 17 (by kernel_rfl) (by kernel_rfl) (fun d v c a w h => by cases d <;> exact h) HS0.out ?_
    simp only [pickO, List.map_cons, List.map_nil, List.getD_cons_zero, List.getD_cons_succ]
    iterate 12
      first
      | (refine heldO_stepY (v := ?_) rfl ?_ ?_
         rotate_left
         · intro W
           go_simp
           try rfl
         simp only [Act.put, List.setIfInBounds_toArray, List.set_cons_zero, List.set_cons_succ])
      | (refine heldO_step (v := ?_) rfl ?_ ?_
         rotate_left
         · intro W hS
           obtain ⟨y0, y1, y2, y3, y4, y5⟩ := HC.out W hS
           go_simp
           try rfl
         simp only [Act.put, List.setIfInBounds_toArray, List.set_cons_zero, List.set_cons_succ])
    refine heldO_nil ?_
    refine tailO_step rfl (fun K hK => ?_)
    go_simp
    refine (HAR2.out _ (HK.out.below ((Below.refl _ wr).drew))).mono ?_
    rintro e w2 ⟨z, sv2, s2, en2, ov2, rfl, hz, HK2, HA2⟩
    have hb02 := HCX.out.bel HB0.out H.out.said HK2.out.fr
    have HS2 : Hid (ArgS w0 b V1 [.slice na m nc, vv1, .bool false, .int .i64 0] w.heap.size [.int .i64 13, .int .i64 n, .string nm, .slice (some ⟨b, off, none⟩) m kc] w2) := Lib.hid ⟨HK2.out.ebk, HK2.out.box, hb02.block b hbl'⟩
    have hb2l : b < w2.heap.size := Nat.lt_of_lt_of_le hbl' hb02.size
    have hv2 : V1 < w2.heap.size := HK2.out.ebk.lt
    have hx2 : w.heap.size < w2.heap.size := HK2.out.box.lt
    have hB2 : B ≤ w2.heap.size := by have := HCX.out.hR; have := HK2.out.run.blk.lt; omega
    have hul : us.length ≤ 3 := by rw [HU.out]; omega
    have hvb : ∀ q, vv1.ownBlock = some q → q ≠ V1 ∧ q ≠ w.heap.size ∧ q ≠ b := fun q hq => ⟨(HK2.out.ap.u q hq).2.2.1, by have := (HK2.out.new.2.2 q hq).1; omega, by have := ownBlock_of HK2.out.vrow q hq; omega⟩
    have HVB := Lib.hid hvb
    have HK3 := Lib.hid (HK2.out.below (below1 w2 (.cells #[.int .i64 (z : Int)] 3)))
    have HS3 : Hid (ArgS w0 b V1 [.slice na m nc, vv1, .bool false, .int .i64 0] w.heap.size [.int .i64 13, .int .i64 n, .string nm, .slice (some ⟨b, off, none⟩) m kc] (w2.alloc (.cells #[.int .i64 (z : Int)] 3))) := Lib.hid ⟨HS2.out.1.alloc _, HS2.out.2.1.alloc _, by rw [Below.heap_alloc _ _ _ hb2l]; exact HS2.out.2.2⟩
    clear hb02 hvb
    refine hK _ _ (.inr HS2.out) ?_
    clear hK K
    refine tailO_step rfl (fun K hK => ?_)
    go_simp
    refine hK _ _ (.inr HS3.out) ?_
    clear hK K
    refine tailO_step rfl (fun K hK => ?_)
    refine wp_append_lies _ (.tmp 41) (.tmp 50) 26 rfl B 3 j0 _ 1 8 Tryz.underlying26 hj hy0 hy1 hy2 rfl (by decide) vv1 us.length (nats us) (by rfl) HK3.out.vrow ⟨w2.heap.size, 0, none⟩ 1 1 [.int .i64 (z : Int)] (by rfl) rfl (World.news_of_block (heap_alloc_new _ _)) (by simp [Value.oneCell']) (by decide) (by unfold maxLen; omega) (by omega) (by simp; omega) _ rfl ?_
    intro g9 c9 w9 ho9 hg9 hat9 hl9
    have HS9 : Hid (ArgS w0 b V1 [.slice na m nc, vv1, .bool false, .int .i64 0] w.heap.size [.int .i64 13, .int .i64 n, .string nm, .slice (some ⟨b, off, none⟩) m kc] w9) := Lib.hid ⟨HS3.out.1.same (hg9.block V1 (by simp; omega) (fun e => (HVB.out V1 e.symm).1 rfl)), HS3.out.2.1.same (hg9.block _ (by simp; omega) (fun e => (HVB.out _ e.symm).2.1 rfl)), (hg9.block b (by simp; omega) (fun e => (HVB.out b e.symm).2.2 rfl)).trans HS3.out.2.2⟩
    have HK9 := Lib.hid (HK3.out.app hz ho9 hg9 hat9)
    have f9 := HS9.out.1.frozen 1
    refine hK _ _ (.inr HS9.out) ?_
    clear hK K ho9 hg9 hat9
    iterate 2
      refine tailO_step rfl (fun K hK => ?_)
      go_simp
      refine hK _ _ (.inr HS9.out) ?_
      clear hK K
    have q9 := (HC.out _ HS9.out).1
    refine tailO_step rfl (fun K hK => ?_)
    go_simp
    refine hK _ _ (.inl rfl) (tailO_nil ?_)
    clear hK K q9
    go_wp2_with (fail)
    go_roundw
    case rel => exact ⟨j + 1, us ++ [z], _, sv2, s2, en2, ov2, by omega, by go_num, Lib.hid (by rw [List.length_append, HU.out]; rfl), HK9, HA2⟩
    case measure => simp [intOf]; omega
  · obtain rfl : m = j := by omega
    obtain ⟨f0, f1, f2⟩ := blkc3 HK.out.fn
    obtain ⟨q0, q1, q2, q3⟩ := blkc4 HK.out.box
    have HEN := Lib.hid (HK.out.en (HPL.out.trans HU.out.symm))
    have hel : (f.params.zip us).reverse.length = m := by simp [HPL.out, HU.out]
    have hbw := HCX.out.bel HB0.out H.out.said HK.out.fr
    cases ov1
    · obtain ⟨rfl, gj, rl, hgj, hev, hrl⟩ := HAR.out.1 rfl
      rw [HM.out, List.drop_length] at hev
      obtain rfl := evL_nil hev
      rw [show prepL us (.vals [] s1) = .vals us s1 by simp [prepL]] at hrl
      obtain ⟨g', rb, hgg, _, hrb, rfl⟩ := evC_parts (HR1.out us s1 hrl) HF.out
      have hok := HCX.out.ok f (List.mem_of_getElem? HF.out)
      have hfo := hok.1
      simp only [fxOk, Bool.and_eq_true, decide_eq_true_eq] at hfo
      have hrn := HK.out.run
      have HC := Lib.hid (HGB.out g' (by omega) 4 f.body _ _ s1 rb wr V1 sv1 (.slice na m nc) vv1 hrb hfo.2 hok.2 HBV.out hbw hrn HEN.out HK.out.ap (by have := HCX.out.hR; have := hRl; have := HK.out.new.1; omega) (by rw [hel]; have := hrn.bd; omega))
      clear hev hrl hgg hrb hok hfo hrn hbw
      go_wp2_with (fail)
      go_at_call 82
      refine HC.out.mono ?_
      rintro e w2 ⟨sv', nv', vv', env', back', bv', rfl, hR2, hE2, hA2, hlo, hob, hF2, hL2⟩
      have HFE := Lib.hid (HK.out.frEnd hF2 (fun k hk => mem_foot.2 (.inr (.inr (.inr (.inl hk))))) ⟨hR2.ne.2.1, hR2.ne.2.2⟩)
      have HLL : Hid (rb.cm.left ≤ s.left) := Lib.hid (Nat.le_trans hL2 HK.out.left)
      obtain ⟨_, _, _, _, _, _, c6⟩ := blkc7 hR2.blk
      obtain ⟨_, _, _, d3⟩ := blkc4 hE2.blk
      have HR2 := Lib.hid hR2
      have HOB := Lib.hid hob
      clear hR2 hE2 hA2 hlo hob hF2 hL2
      cases rb with
      | stop en s2 =>
        simp only [Rb.over] at c6
        go_wp2_with (fail)
        go_ret
        exact ⟨0, sv', rfl, by omega, (fun v' s' e => by cases e), HR2.out, HFE.out, HLL.out⟩
      | go e1 s2 =>
        simp only [Rb.over] at c6
        go_wp2_with (fail)
        go_ret
        exact ⟨bv', sv', rfl, HOB.out.2.2.2, (fun v' s' e => by injection e with e; rw [(HOB.out.2.1 e1 s2 rfl).2.2, e]), HR2.out, HFE.out, HLL.out⟩
      | back v s2 =>
        simp only [Rb.over] at c6
        go_wp2_with (fail)
        go_ret
        exact ⟨bv', sv', rfl, HOB.out.2.2.2, (fun v' s' e => by injection e with e; rw [(HOB.out.2.2.1 v s2 rfl).2, e]), HR2.out, HFE.out, HLL.out⟩
    · have hr := HR2.out en1 s1 (HAR.out.2 rfl)
      have HC := Lib.hid (stmts_over wr R CB B fv sv1 s1 en1 HK.out.run V1 (.slice na m nc) vv1 _ false 0 HEN.out HK.out.ap (by rw [hel]; omega) bl bn bc (by unfold big; omega))
      have HRR := Lib.hid hr
      clear hr hbw
      go_wp2_with (fail)
      go_at_call 82
      refine HC.out.mono ?_
      rintro e w2 ⟨rfl, hO⟩
      have hn1 := HK.out.ap.v
      have HR2 := Lib.hid (HK.out.run.keep (fun q hq => hO.block q (by
        rcases hq with rfl | rfl | hq
        · exact HK.out.run.blk.lt
        · exact HK.out.run.cells.lt
        · exact (World.ownsRow.lt HK.out.run.said q hq).2) (by
        simp
        rintro rfl
        rcases hq with h | h | h
        · exact hn1.1 h
        · exact hn1.2.1 h
        · exact hn1.2.2 h)))
      have HF2 := Lib.hid (HK.out.fr.thenNew hO (fun z hz => by simp at hz; have := HK.out.new.1; omega))
      obtain ⟨_, _, _, _, _, _, c6⟩ := blkc7 HR2.out.blk
      clear hO hn1
      go_wp2_with (fail)
      go_ret
      refine ⟨0, sv1, rfl, by omega, ?_⟩
      rw [HRR.out]
      exact ⟨(fun v' s' e => by cases e), HR2.out, HF2.out, HK.out.left⟩
end Go.Proofs.YtpnliencahnmoaaGreatDoor
