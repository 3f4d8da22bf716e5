/- A run of a program of the machine: impl's runMach. -/
import Derived.Test.YtbdbmmdnidonjaaDoorOd
set_option maxRecDepth 100000
namespace Go.Proofs.YtbdbmmdnidonjaaDoor
open Go.RowKit

def cm0 (T : Nat) : Cm := ⟨List.replicate 16 0, [], T, []⟩
theorem cm0_ok (T : Nat) : CmOk (cm0 T) := ⟨by simp [cm0], small_zeros 16, fun x hx => by cases hx⟩
/-- a run of a program from its start -/
def runOf (P : Pg) (k : Nat) (inp : List Nat) (T : Nat) : Rs := loop P (T + 1) k 0 (newLc P k inp) (cm0 T)

def ResPost (r : Rs) (T : Nat) (w : World) (e : Ending) (w' : World) : Prop :=
  ∃ sv cv, e = .returned (.tuple #[.agg #[sv, .int .i64 (r.en : Int), .int .i64 (r.val : Int), cv], .int .i64 ((T - r.cm.left : Nat) : Int)]) ∧ Said w' w.heap.size sv r.cm.said ∧ w'.ownsRow w.heap.size 3 1 cv 16 (nats r.cm.cells) ∧ Apart2 cv sv ∧ Below w.heap.size w w'

theorem mac_new (w : World) (B T : Nat) (t : TypeId) (hB : B ≤ w.heap.size) :
    MacAt B (w.alloc (.cells #[.int .i64 (T : Int), .int .i64 0, .slice none 0 0, .int .i64 0, .int .i64 0, .int .i64 0, .int .i64 0, .int .i64 0, .int .i64 0, .int .i64 0, .int .i64 0, .int .i64 0, .int .i64 0, .int .i64 0, .int .i64 0, .int .i64 0, .int .i64 0, .int .i64 0, .int .i64 0] t)) w.heap.size [] T (cm0 T) (.slice none 0 0) := by
  refine ⟨?_, World.ownsRow_nil _ _ _ _, by simp [Value.ownBlock], Nat.le_refl _, hB⟩
  have h := Blk.new w #[.int .i64 (T : Int), .int .i64 0, .slice none 0 0, .int .i64 0, .int .i64 0, .int .i64 0, .int .i64 0, .int .i64 0, .int .i64 0, .int .i64 0, .int .i64 0, .int .i64 0, .int .i64 0, .int .i64 0, .int .i64 0, .int .i64 0, .int .i64 0, .int .i64 0, .int .i64 0] t
  have e : mkMac T (T - (cm0 T).left) (.slice none 0 0) (cm0 T).cells [] = (#[.int .i64 (T : Int), .int .i64 0, .slice none 0 0, .int .i64 0, .int .i64 0, .int .i64 0, .int .i64 0, .int .i64 0, .int .i64 0, .int .i64 0, .int .i64 0, .int .i64 0, .int .i64 0, .int .i64 0, .int .i64 0, .int .i64 0, .int .i64 0, .int .i64 0, .int .i64 0] : Array Value).toList := by
    show mkMac T (T - T) _ _ _ = _
    rw [Nat.sub_self]; rfl
  rw [e]; exact h

set_option maxHeartbeats 4000000 in
theorem runMach_any (w : World) (vb vo fl vcap : Nat) (fs : List Mf) (hm : MfsAt w (.slice (some ⟨vb, vo, none⟩) fl vcap) fs) (hfl : fl = fs.length) (h1 : 1 ≤ fl) (hP : PgOk (machPg fs) fs.length) (hN : MfsNat fs) (hle : MfsLe fs)
    (b off n cap : Nat) (inp : List Nat) (hsrc : SrcAt w b off n cap inp) (hin : Small inp) (hpar : (machPg fs).par (fl - 1) ≤ n) (T : Nat) (hT : T ≤ 200000) :
    Calls Tryd.prog 49 #[.agg #[.slice (some ⟨vb, vo, none⟩) fl vcap], .slice (some ⟨b, off, none⟩) n cap, .int .i64 (T : Int)] w (ResPost (runOf (machPg fs) (fl - 1) inp T) T w) := by
  have hok := (loop_ok hP (T + 1) (fl - 1) 0 (newLc (machPg fs) (fl - 1) inp) (cm0 T) (by omega) (hP.start _ (by omega)) (newLc_ok _ _ _ (by rw [hsrc.len]; exact hpar) hin) (cm0_ok T)).1
  have HRM : Hid (∀ w', Below w.heap.size w w' → MacAt w.heap.size w' (w.heap.size + 1 + 1 + 1) [] T (cm0 T) (.slice none 0 0) → w'.cell? ⟨w.heap.size + 1 + 1 + 1 + 1, 0, none⟩ = some (.pointer (some ⟨w.heap.size + 1 + 1 + 1, 0, none⟩)) → w'.cell? ⟨w.heap.size, 0, none⟩ = some (.slice (some ⟨vb, vo, none⟩) fl vcap) → w'.cell? ⟨w.heap.size + 1, 0, none⟩ = some (.slice (some ⟨b, off, none⟩) n cap) →
      Calls Tryd.prog 77 #[.pointer (some ⟨w.heap.size + 1 + 1 + 1 + 1, 0, none⟩), .pointer (some ⟨w.heap.size, 0, none⟩), .pointer (some ⟨w.heap.size + 1, 0, none⟩)] w' (RunPost w.heap.size (w.heap.size + 1 + 1 + 1) [] T (.slice none 0 0) (runOf (machPg fs) (fl - 1) inp T) w')) :=
    Lib.hid fun w' hb hM c0 c1 c2 => rm1_any w vb vo fl vcap fs hm hfl h1 hP hN hle w' _ [] T (cm0 T) _ b off n cap inp _ _ _ (T + 1) (by show T < T + 1; omega) hb hM (cm0_ok T) (hsrc.below hb) hin hpar (by show 0 + T ≤ T; omega) (by omega) c0 c1 c2
  generalize hrr : runOf (machPg fs) (fl - 1) inp T = r at *
  have hok' : CmOk r.cm := by rw [← hrr]; exact hok
  have HOK := Lib.hid hok'
  have hmf : ∀ (fn : Fn) (first cap : Array Value) (w : World), (Instr.makeFunc fn first cap).run Tryd.prog w = .ok (.func fn first cap) w := fun _ _ _ _ => rfl
  clear hm hfl h1 hP hN hle hsrc hin hpar hok hok' hrr
  go_enter Tryd.func49, Tryd.ntmps49
  go_wp2_with (fail)
  go_at_call 76
  generalize hw1 : World.alloc (World.alloc (World.alloc (World.alloc (w.alloc _) _) _) _) _ = w1
  have hb1 : Below w.heap.size w w1 := by rw [← hw1]; exact ((below3 w _ _ _).alloc (by simp; omega) _).alloc (by simp; omega) _
  have hsz1 : w1.heap.size = w.heap.size + 5 := by rw [← hw1]; simp
  have hM1 : MacAt w.heap.size w1 (w.heap.size + 1 + 1 + 1) [] T (cm0 T) (.slice none 0 0) := by
    rw [← hw1]
    have h := mac_new (((w.alloc (.cells #[.slice (some ⟨vb, vo, none⟩) fl vcap] 25)).alloc (.cells #[.slice (some ⟨b, off, none⟩) n cap] 26)).alloc (.cells #[.slice none 0 0, .int .i64 0, .int .i64 0, .slice none 0 0] 31)) w.heap.size T 98 (by simp; omega)
    rw [show (((w.alloc (.cells #[.slice (some ⟨vb, vo, none⟩) fl vcap] 25)).alloc (.cells #[.slice (some ⟨b, off, none⟩) n cap] 26)).alloc (.cells #[.slice none 0 0, .int .i64 0, .int .i64 0, .slice none 0 0] 31)).heap.size = w.heap.size + 1 + 1 + 1 by simp] at h
    exact h.below (below1 _ _)
  have d0 : w1.cell? ⟨w.heap.size, 0, none⟩ = some (.slice (some ⟨vb, vo, none⟩) fl vcap) := by rw [← hw1]; simp [go_sem]
  have d1 : w1.cell? ⟨w.heap.size + 1, 0, none⟩ = some (.slice (some ⟨b, off, none⟩) n cap) := by rw [← hw1]; simp [go_sem]
  have d4 : w1.cell? ⟨w.heap.size + 1 + 1 + 1 + 1, 0, none⟩ = some (.pointer (some ⟨w.heap.size + 1 + 1 + 1, 0, none⟩)) := by rw [← hw1]; simp [go_sem]
  have hB2 : Blk w1 (w.heap.size + 1 + 1) [.slice none 0 0, .int .i64 0, .int .i64 0, .slice none 0 0] := by
    rw [← hw1]
    have h := Blk.new ((w.alloc (.cells #[.slice (some ⟨vb, vo, none⟩) fl vcap] 25)).alloc (.cells #[.slice (some ⟨b, off, none⟩) n cap] 26)) #[.slice none 0 0, .int .i64 0, .int .i64 0, .slice none 0 0] 31
    rw [show ((w.alloc (.cells #[.slice (some ⟨vb, vo, none⟩) fl vcap] 25)).alloc (.cells #[.slice (some ⟨b, off, none⟩) n cap] 26)).heap.size = w.heap.size + 1 + 1 by simp] at h
    exact (h.alloc _).alloc _
  have HM1 := Lib.hid hM1
  clear hw1 hM1
  refine (outcome_any w1 w.heap.size (w.heap.size + 1 + 1 + 1) [] T (.slice none 0 0) r _ (by omega) (fun k hk => by simp [Value.ownBlock] at hk) HOK.out (fun w' hb => HRM.out w' (hb1.trans (hb.mono hb1.size)) (HM1.out.below hb) ?_ ?_ ?_)).mono ?_
  · rw [hb.cell (p := ⟨w.heap.size + 1 + 1 + 1 + 1, 0, none⟩) (by simp only []; omega)]; exact d4
  · rw [hb.cell (p := ⟨w.heap.size, 0, none⟩) (by simp only []; omega)]; exact d0
  · rw [hb.cell (p := ⟨w.heap.size + 1, 0, none⟩) (by simp only []; omega)]; exact d1
  rintro e w2 ⟨sv', cv, rfl, hM2, hown, hF, hap⟩
  have HAP := Lib.hid hap
  clear hap
  obtain ⟨sa, sc, hform⟩ := saidForm hM2.said
  obtain ⟨sn, hsn⟩ : ∃ sn, sn = r.cm.said.length := ⟨_, rfl⟩
  rw [← hsn] at hform
  subst hform
  obtain ⟨ca, cc, hcf⟩ : ∃ ca cc, cv = .slice ca 16 cc := by
    rcases hown.2 with ⟨_, h2⟩ | ⟨g, cp, cur, h1, _⟩
    · cases h2
    · exact ⟨_, cp, h1⟩
  subst hcf
  have hkeep : ∀ k, k < w1.heap.size → k ≠ w.heap.size + 1 + 1 + 1 → w2.heap[k]? = w1.heap[k]? := fun k h1 h2 => hF.block h1 (by simpa using h2) (by simp [Value.ownBlock])
  have hsz2 := hF.size
  have hsn5 : ∀ k, Value.ownBlock (.slice sa sn sc) = some k → k ≠ w.heap.size + 1 + 1 := fun k hk e => (hF.ne (k := w.heap.size + 1 + 1) (by omega) (by simp [Value.ownBlock])) (by rw [hk, e])
  have HSN := Lib.hid hsn5
  have hBo : Blk w2 (w.heap.size + 1 + 1) [.slice none 0 0, .int .i64 0, .int .i64 0, .slice none 0 0] := hB2.same (hkeep (w.heap.size + 1 + 1) (by omega) (by omega))
  have m4 : w2.cell? ⟨w.heap.size + 1 + 1 + 1 + 1, 0, none⟩ = some (.pointer (some ⟨w.heap.size + 1 + 1 + 1, 0, none⟩)) := (World.cell?_of_block (a := ⟨w.heap.size + 1 + 1 + 1 + 1, 0, none⟩) (hkeep (w.heap.size + 1 + 1 + 1 + 1) (by omega) (by omega))).trans d4
  have mu := (macCells hM2 HOK.out.cells).2.2.1
  have hFb : Below w.heap.size w w2 := hb1.trans (hF.below_of (by omega) (fun k hk => by have := List.mem_singleton.1 hk; omega) (fun k hk => by simp [Value.ownBlock] at hk))
  have HSD := Lib.hid hM2.said; have HOW := Lib.hid hown; have HFB := Lib.hid hFb; have HBO := Lib.hid hBo
  clear hM2 hown hF hFb hBo hkeep hB2 d0 d1 d4 hb1 HM1 HRM hsn hsn5
  go_wp2_with (fail)
  generalize hw3 : w2.alloc _ = w3
  obtain ⟨n0, n1, n2, n3⟩ : w3.cell? ⟨w2.heap.size, 0, none⟩ = some (.slice sa sn sc) ∧ w3.cell? ⟨w2.heap.size, 1, none⟩ = some (.int .i64 (r.en : Int)) ∧ w3.cell? ⟨w2.heap.size, 2, none⟩ = some (.int .i64 (r.val : Int)) ∧ w3.cell? ⟨w2.heap.size, 3, none⟩ = some (.slice ca 16 cc) := by
    rw [← hw3]
    have hB := Blk.new w2 #[.slice sa sn sc, .int .i64 (r.en : Int), .int .i64 (r.val : Int), .slice ca 16 cc] 31
    refine ⟨?_, ?_, ?_, ?_⟩
    all_goals rw [hB.cell]; rfl
  have hb3 : Below w2.heap.size w2 w3 := by rw [← hw3]; exact below1 _ _
  have m4' : w3.cell? ⟨w.heap.size + 1 + 1 + 1 + 1, 0, none⟩ = some (.pointer (some ⟨w.heap.size + 1 + 1 + 1, 0, none⟩)) := by rw [hb3.cell (p := ⟨w.heap.size + 1 + 1 + 1 + 1, 0, none⟩) (World.block_lt_of_cell? _ _ m4)]; exact m4
  have mu' : w3.cell? ⟨w.heap.size + 1 + 1 + 1, 1, none⟩ = some (.int .i64 ((T - r.cm.left : Nat) : Int)) := by rw [hb3.cell (p := ⟨w.heap.size + 1 + 1 + 1, 1, none⟩) (World.block_lt_of_cell? _ _ mu)]; exact mu
  have hBo3 := HBO.out.below hb3
  have t0 : w3.cell? ⟨w.heap.size + 1 + 1, 0, none⟩ = some (.slice none 0 0) := by rw [hBo3.cell]; rfl
  have t1 : w3.cell? ⟨w.heap.size + 1 + 1, 1, none⟩ = some (.int .i64 0) := by rw [hBo3.cell]; rfl
  have t2 : w3.cell? ⟨w.heap.size + 1 + 1, 2, none⟩ = some (.int .i64 0) := by rw [hBo3.cell]; rfl
  have t3 : w3.cell? ⟨w.heap.size + 1 + 1, 3, none⟩ = some (.slice none 0 0) := by rw [hBo3.cell]; rfl
  have f0 := hBo3.frozen 0
  have f1 := hBo3.frozen 1
  have f2 := hBo3.frozen 2
  have f3 := hBo3.frozen 3
  have HSD3 := Lib.hid (HSD.out.below hb3)
  have HOW3 := Lib.hid (ownsRow_below HOW.out hb3)
  have HFB3 := Lib.hid (HFB.out.trans (hb3.mono HFB.out.size))
  clear hw3 hb3 m4 mu hBo3 HSD HOW HFB HBO
  refine wp_region_held (fun W => (W.cell? ⟨w2.heap.size, 0, none⟩ = some (.slice sa sn sc) ∧ W.cell? ⟨w2.heap.size, 1, none⟩ = some (.int .i64 (r.en : Int)) ∧ W.cell? ⟨w2.heap.size, 2, none⟩ = some (.int .i64 (r.val : Int)) ∧ W.cell? ⟨w2.heap.size, 3, none⟩ = some (.slice ca 16 cc)) ∧ W.cell? ⟨w.heap.size + 1 + 1 + 1 + 1, 0, none⟩ = some (.pointer (some ⟨w.heap.size + 1 + 1 + 1, 0, none⟩)) ∧ W.cell? ⟨w.heap.size + 1 + 1 + 1, 1, none⟩ = some (.int .i64 ((T - r.cm.left : Nat) : Int))) [(0, true), (1, true), (2, false), (3, false), (4, true)] [5, 6] 6 (by kernel_rfl) (by kernel_rfl) (fun d v c a w h => by cases d <;> exact h) ⟨⟨n0, n1, n2, n3⟩, m4', mu'⟩ ?_
  simp only [pickO, List.map_cons, List.map_nil, List.getD_cons_zero, List.getD_cons_succ]
  refine heldO_step (v := ?_) rfl ?_ ?_
  rotate_left
  · intro W hS
    obtain ⟨⟨k0, k1, k2, k3⟩, k4, k5⟩ := hS
    go_simp
    try rfl
  simp only [Act.put, List.setIfInBounds_toArray, List.set_cons_zero, List.set_cons_succ]
  refine heldO_step (v := ?_) rfl ?_ ?_
  rotate_left
  · intro W hS
    obtain ⟨⟨k0, k1, k2, k3⟩, k4, k5⟩ := hS
    go_simp
    try rfl
  simp only [Act.put, List.setIfInBounds_toArray, List.set_cons_zero, List.set_cons_succ]
  refine heldO_stepY (v := ?_) rfl ?_ ?_
  rotate_left
  · intro W
    go_simp
    try rfl
  simp only [Act.put, List.setIfInBounds_toArray, List.set_cons_zero, List.set_cons_succ]
  refine heldO_stepY (v := ?_) rfl ?_ ?_
  rotate_left
  · intro W
    go_simp
    try rfl
  simp only [Act.put, List.setIfInBounds_toArray, List.set_cons_zero, List.set_cons_succ]
  refine heldO_step (v := ?_) rfl ?_ ?_
  rotate_left
  · intro W hS
    obtain ⟨⟨k0, k1, k2, k3⟩, k4, k5⟩ := hS
    go_simp
    try rfl
  simp only [Act.put, List.setIfInBounds_toArray, List.set_cons_zero, List.set_cons_succ]
  refine heldO_nil ?_
  refine tailO_step rfl (fun K hK => ?_)
  go_simp
  refine hK _ _ (.inr ⟨⟨?_, ?_, ?_, ?_⟩, ?_, ?_⟩) ?_
  · simp [go_sem, n0]
  · simp [go_sem, n1]
  · simp [go_sem, n2]
  · simp [go_sem, n3]
  · simp [go_sem, m4']
  · simp [go_sem, mu']
  clear hK K
  refine tailO_step rfl (fun K hK => ?_)
  go_simp
  refine hK _ _ (.inl rfl) (tailO_nil ?_)
  clear hK K
  go_wp2_with (fail)
  refine bodyPost_ret (v := .tuple #[.agg #[.slice sa sn sc, .int .i64 (r.en : Int), .int .i64 (r.val : Int), .slice ca 16 cc], .int .i64 ((T - r.cm.left : Nat) : Int)]) (by simp [results, Tryd.results49, go_sem, t0, t1, t2, t3]) rfl ?_
  have hs5 : ∀ k, Value.ownBlock (.slice sa sn sc) = some k → k ≠ w.heap.size + 1 + 1 := HSN.out
  refine ⟨_, _, rfl, ?_, ?_, HAP.out, ?_⟩
  · exact (((HSD3.out.set (a := ⟨w.heap.size + 1 + 1, 0, none⟩) (fun e => hs5 _ e rfl) _).set (a := ⟨w.heap.size + 1 + 1, 1, none⟩) (fun e => hs5 _ e rfl) _).set (a := ⟨w.heap.size + 1 + 1, 2, none⟩) (fun e => hs5 _ e rfl) _).set (a := ⟨w.heap.size + 1 + 1, 3, none⟩) (fun e => hs5 _ e rfl) _
  · refine ownsRow_mono (ownsRow_same HOW3.out fun k hk => ?_) (by omega)
    have := (World.ownsRow.lt HOW3.out k hk).1
    have e1 : k ≠ w.heap.size + 1 + 1 := by omega
    refine (Below.heap_setCell _ _ _ _ e1).trans ((Below.heap_setCell _ _ _ _ e1).trans ((Below.heap_setCell _ _ _ _ e1).trans (Below.heap_setCell _ _ _ _ e1)))
  · exact ((((HFB3.out.setCell (p := ⟨w.heap.size + 1 + 1, 0, none⟩) (by simp only []; omega) _).setCell (p := ⟨w.heap.size + 1 + 1, 1, none⟩) (by simp only []; omega) _).setCell (p := ⟨w.heap.size + 1 + 1, 2, none⟩) (by simp only []; omega) _).setCell (p := ⟨w.heap.size + 1 + 1, 3, none⟩) (by simp only []; omega) _).drew

end Go.Proofs.YtbdbmmdnidonjaaDoor
