/- The program's variables: the chain of blocks; env.where, inner. The program's run: expressions but for calls. The program's run: cells, 'and', ops between two. The program's run: expressions that call. -/
import Derived.Test.YtpnliencahnmoaaGreatDoorQ19
set_option linter.unusedVariables false
set_option linter.unusedSimpArgs false
set_option linter.unusedVariables false
set_option linter.unusedSimpArgs false
set_option maxRecDepth 100000
namespace Go.Proofs.YtpnliencahnmoaaGreatDoor
open Go.RowKit
/-- a chain of blocks of variables, the newest first; ks: where they lie; a: no more entries each -/
inductive EnC (w : World) (a : Nat) : Value → List Env → List Nat → Prop where
  | last {p b n : Nat} {L : Env} (hb : Blk w p [.map (some b), .pointer none]) (hne : p ≠ b) (hm : Mp w b n L) (hn : n ≤ a) (hL : EnvOk L) : EnC w a (.pointer (some ⟨p, 0, none⟩)) [L] [p, b]
  | more {p b n : Nat} {L : Env} {au : Option Addr} {segs : List Env} {ks : List Nat} (hb : Blk w p [.map (some b), .pointer au]) (hne : p ≠ b) (hm : Mp w b n L) (hn : n ≤ a) (hL : EnvOk L) (hp : p ∉ ks) (hk : b ∉ ks) (hlt : ptrN (.pointer au) ≤ p) (hu : EnC w a (.pointer au) segs ks) : EnC w a (.pointer (some ⟨p, 0, none⟩)) (L :: segs) (p :: b :: ks)
theorem EnC.ptr {w : World} {a : Nat} {v : Value} {segs : List Env} {ks : List Nat} (h : EnC w a v segs ks) : ∃ p, v = .pointer (some ⟨p, 0, none⟩) := by
  cases h <;> exact ⟨_, rfl⟩
theorem EnC.lt {w : World} {a : Nat} {v : Value} {segs : List Env} {ks : List Nat} (h : EnC w a v segs ks) : ∀ k ∈ ks, k < w.heap.size := by
  induction h with
  | last hb hne hm hn hL =>
    intro k hk
    simp at hk
    rcases hk with rfl | rfl
    · exact hb.lt
    · exact hm.lt
  | more hb hne hm hn hL hp hk hlt hu ih =>
    intro k hk
    rcases List.mem_cons.1 hk with rfl | hk
    · exact hb.lt
    rcases List.mem_cons.1 hk with rfl | hk
    · exact hm.lt
    · exact ih k hk
theorem EnC.keep {w w' : World} {a : Nat} {v : Value} {segs : List Env} {ks : List Nat} (h : EnC w a v segs ks) (hk : ∀ k ∈ ks, w'.heap[k]? = w.heap[k]?) : EnC w' a v segs ks := by
  induction h with
  | last hb hne hm hn hL => exact .last (hb.same (hk _ (by simp))) hne (hm.same (hk _ (by simp))) hn hL
  | more hb hne hm hn hL hp hk' hlt hu ih => exact .more (hb.same (hk _ (by simp))) hne (hm.same (hk _ (by simp))) hn hL hp hk' hlt (ih (fun k h => hk k (by simp [h])))
theorem EnC.mono {w : World} {a a' : Nat} {v : Value} {segs : List Env} {ks : List Nat} (h : EnC w a v segs ks) (ha : a ≤ a') : EnC w a' v segs ks := by
  induction h with
  | last hb hne hm hn hL => exact .last hb hne hm (Nat.le_trans hn ha) hL
  | more hb hne hm hn hL hp hk' hlt hu ih => exact .more hb hne hm (Nat.le_trans hn ha) hL hp hk' hlt ih
theorem EnC.bel {w w' : World} {a : Nat} {v : Value} {segs : List Env} {ks : List Nat} (h : EnC w a v segs ks) (hb : Below w.heap.size w w') : EnC w' a v segs ks := h.keep (fun k hk => hb.block k (h.lt k hk))
theorem EnC.ok {w : World} {a : Nat} {v : Value} {segs : List Env} {ks : List Nat} (h : EnC w a v segs ks) : EnvOk segs.flatten := by
  induction h with
  | last hb hne hm hn hL => simpa using hL
  | more hb hne hm hn hL hp hk' hlt hu ih =>
    intro x hx
    rw [List.flatten_cons, List.mem_append] at hx
    exact hx.elim (hL x) (ih x)
/-- where a name's variable lies, and what a store there leaves -/
def WhP (w : World) (a : Nat) (v : Value) (segs : List Env) (ks : List Nat) (s : ByteArray) (p : Nat) : Prop :=
  ∃ (b n : Nat) (L : Env) (au : Option Addr), p ∈ ks ∧ b ∈ ks ∧ Blk w p [.map (some b), .pointer au] ∧ Mp w b n L ∧ n ≤ a ∧ (L.get s).isSome ∧ L.get s = Env.get segs.flatten s ∧
    ∀ (w' : World) (u : Nat), u < 256 → w.grownBy w' (some b) → Mp w' b (n + 1) (L.set s u) → ∃ segs', EnC w' (a + 1) v segs' ks ∧ segs'.flatten = Env.set segs.flatten s u ∧ segs'.map List.length = segs.map List.length ∧ segs'.length = segs.length
theorem EnvOk.put {L : Env} (h : EnvOk L) (s : ByteArray) {u : Nat} (hu : u < 256) : EnvOk (L.set s u) := by
  induction L with
  | nil => exact h
  | cons p r ih =>
    obtain ⟨x, v⟩ := p
    intro y hy
    unfold Env.set at hy
    split at hy
    · rcases List.mem_cons.1 hy with rfl | hy
      · exact hu
      · exact h y (List.mem_cons_of_mem _ hy)
    · rcases List.mem_cons.1 hy with rfl | hy
      · exact h _ List.mem_cons_self
      · exact ih (fun z hz => h z (List.mem_cons_of_mem _ hz)) y hy
theorem WhP.lastOf {w : World} {a : Nat} {v : Value} {segs : List Env} {ks : List Nat} (h : EnC w a v segs ks) {p : Nat} (hv : v = .pointer (some ⟨p, 0, none⟩)) {b : Nat} {au : Option Addr} (hb : Blk w p [.map (some b), .pointer au]) {s : ByteArray} (hs : ∃ n L, Mp w b n L ∧ n ≤ a ∧ (L.get s).isSome ∧ ∃ r, segs = L :: r) : WhP w a v segs ks s p := by
  obtain ⟨_, L0, _, _, hs, r0, hr⟩ := hs
  cases h with
  | last hb' hne hm hn hL =>
    injection hv with hv; injection hv with hv; injection hv with hv _ _
    subst hv
    injection hr with hr _
    subst hr
    have hbb := hb.cell 0
    rw [hb'.cell 0] at hbb
    injection hbb with hbb; injection hbb with hbb; injection hbb with hbb
    subst hbb
    refine ⟨_, _, _, _, by simp, by simp, hb', hm, hn, hs, by simp, fun w' u hu hg hm' => ⟨[_], .last (hb'.grown hg (fun e => by injection e with e; exact hne e.symm)) hne hm' (by omega) (hL.put _ hu), by simp, by simp [Env.set_len], rfl⟩⟩
  | more hb' hne hm hn hL hp hk' hlt hu' =>
    injection hv with hv; injection hv with hv; injection hv with hv _ _
    subst hv
    injection hr with hr _
    subst hr
    have hbb := hb.cell 0
    rw [hb'.cell 0] at hbb
    injection hbb with hbb; injection hbb with hbb; injection hbb with hbb
    subst hbb
    refine ⟨_, _, _, _, by simp, by simp, hb', hm, hn, hs, by rw [List.flatten_cons, Env.get_append, if_pos hs], fun w' u hu hg hm' => ⟨_ :: _, .more (hb'.grown hg (fun e => by injection e with e; exact hne e.symm)) hne hm' (by omega) (hL.put _ hu) hp hk' hlt ((hu'.keep (fun k hk => hg.block k (hu'.lt k hk) (fun e => by injection e with e; subst e; exact hk' hk))).mono (Nat.le_succ _)), by rw [List.flatten_cons, List.flatten_cons, Env.set_left _ hs], by simp [Env.set_len], rfl⟩⟩
theorem WhP.up {w : World} {a : Nat} {p b n : Nat} {L : Env} {au : Option Addr} {segs : List Env} {ks : List Nat} (hb : Blk w p [.map (some b), .pointer au]) (hne : p ≠ b) (hm : Mp w b n L) (hn : n ≤ a) (hL : EnvOk L) (hp : p ∉ ks) (hk : b ∉ ks) (hlt : ptrN (.pointer au) ≤ p) {s : ByteArray} (hs : ¬ (L.get s).isSome) {q : Nat} (h : WhP w a (.pointer au) segs ks s q) : WhP w a (.pointer (some ⟨p, 0, none⟩)) (L :: segs) (p :: b :: ks) s q := by
  obtain ⟨b2, n2, L2, au2, h1, h2, h3, h4, h5, h6, h7, h8⟩ := h
  refine ⟨b2, n2, L2, au2, by simp [h1], by simp [h2], h3, h4, h5, h6, by rw [List.flatten_cons, Env.get_append, if_neg hs]; exact h7, fun w' u hu hg hm' => ?_⟩
  obtain ⟨segs', g1, g2, g3, g4⟩ := h8 w' u hu hg hm'
  exact ⟨L :: segs', .more (hb.grown hg (fun e => by injection e with e; subst e; exact hp h2)) hne (hm.same (hg.block b hm.lt (fun e => by injection e with e; subst e; exact hk h2))) (by omega) hL hp hk hlt g1, by rw [List.flatten_cons, List.flatten_cons, g2, Env.set_right _ hs], by simp [g3], by simp [g4]⟩
/-- the place that where finds -/
inductive Wr (w : World) (s : ByteArray) (p : Nat) : Value → Prop where
  | last {b n : Nat} {L : Env} (hb : Blk w p [.map (some b), .pointer none]) (hm : Mp w b n L) : Wr w s p (.pointer (some ⟨p, 0, none⟩))
  | here {b n : Nat} {L : Env} {q : Addr} (hb : Blk w p [.map (some b), .pointer (some q)]) (hm : Mp w b n L) (hs : true = (L.get s).isSome) : Wr w s p (.pointer (some ⟨p, 0, none⟩))
  | up {z b n : Nat} {L : Env} {q : Addr} (hb : Blk w z [.map (some b), .pointer (some q)]) (hm : Mp w b n L) (hs : false = (L.get s).isSome) (hl : ptrN (.pointer (some q)) ≤ z) (hu : Wr w s p (.pointer (some q))) : Wr w s p (.pointer (some ⟨z, 0, none⟩))
theorem Wr.drewN {w : World} {s : ByteArray} {p : Nat} {v : Value} (h : Wr w s p v) (n : Nat) : Wr (w.drewN n) s p v := by
  induction h with
  | last hb hm => exact .last (hb.drewN n) (hm.same rfl)
  | here hb hm hs => exact .here (hb.drewN n) (hm.same rfl) hs
  | up hb hm hs hl hu ih => exact .up (hb.drewN n) (hm.same rfl) hs hl ih
theorem EnC.wr {w : World} {a : Nat} {v : Value} {segs : List Env} {ks : List Nat} (h : EnC w a v segs ks) {s : ByteArray} (hs : (Env.get segs.flatten s).isSome) : ∃ p, Wr w s p v ∧ WhP w a v segs ks s p := by
  induction h with
  | @last p b n L hb hne hm hn hL =>
    have hs' : (L.get s).isSome := by simpa using hs
    exact ⟨p, .last hb hm, WhP.lastOf (.last hb hne hm hn hL) rfl hb ⟨n, L, hm, hn, hs', [], rfl⟩⟩
  | @more p b n L au segs3 ks3 hb hne hm hn hL hp hk hlt hu ih =>
    obtain ⟨q, hq⟩ := hu.ptr
    injection hq with hq
    subst hq
    cases hr : (L.get s).isSome with
    | true => exact ⟨p, .here hb hm hr.symm, WhP.lastOf (.more hb hne hm hn hL hp hk hlt hu) rfl hb ⟨n, L, hm, hn, hr, segs3, rfl⟩⟩
    | false =>
      have hs' : ¬ (L.get s).isSome := by rw [hr]; simp
      rw [List.flatten_cons, Env.get_append, if_neg hs'] at hs
      obtain ⟨p', h1, h2⟩ := ih hs
      exact ⟨p', .up hb hm hr.symm hlt h1, h2.up hb hne hm hn hL hp hk hlt hs'⟩
set_option maxHeartbeats 2000000 in
theorem where_any (w : World) (s : ByteArray) (p : Nat) (v : Value) (hs : s.size ≤ big) (h : Wr w s p v) : Calls Tryz.prog 184 #[v, .string s] w fun e w' => e = .returned (.pointer (some ⟨p, 0, none⟩)) ∧ w' = w := by
  have hml : s.size ≤ maxLen := by unfold maxLen; unfold big at hs; omega
  have HML := Lib.hid hml
  have HR := Lib.hid h
  obtain ⟨p0, rfl⟩ : ∃ p0, v = .pointer p0 := by cases h <;> exact ⟨_, rfl⟩
  clear h hml hs
  go_enter Tryz.func184, Tryz.ntmps184
  go_wp2_with (fail)
  go_loopw [0] (fun v2 wr => ∃ ad : Option Addr, v2 = .pointer ad ∧ wr = w ∧ Hid (Wr w s p (.pointer ad))) (fun v2 _ => ptrN v2)
  case atStart => exact ⟨_, rfl, rfl, HR⟩
  case round =>
    obtain ⟨ad, rfl, rfl, HRR⟩ := hrel
    have hrr := HRR.out
    generalize hv : Value.pointer ad = vv at hrr
    cases hrr with
    | @last b n L hb hm =>
      injection hv with hv
      subst hv
      have x1 : wr.cell? ⟨p, 1, none⟩ = some (.pointer none) := (hb.cell 1).trans rfl
      clear hb hm
      go_wp2_with (fail)
      go_ret
      exact ⟨rfl, rfl⟩
    | @here b n L q hb hm hs =>
      injection hv with hv
      subst hv
      have x0 : wr.cell? ⟨p, 0, none⟩ = some (.map (some b)) := (hb.cell 0).trans rfl
      have x1 : wr.cell? ⟨p, 1, none⟩ = some (.pointer (some q)) := (hb.cell 1).trans rfl
      have HMP := Lib.hid hm; have HRS := Lib.hid hs
      clear hb hm hs
      go_wp2_with (at_lookup; refine wpList_mp_ok _ rfl _ _ rfl b n L rfl HMP.out s rfl HML.out ?_; rw [← HRS.out])
      go_ret
      exact ⟨rfl, rfl⟩
    | @up z b n L q hb hm hs hl hu =>
      injection hv with hv
      subst hv
      have x0 : wr.cell? ⟨z, 0, none⟩ = some (.map (some b)) := (hb.cell 0).trans rfl
      have x1 : wr.cell? ⟨z, 1, none⟩ = some (.pointer (some q)) := (hb.cell 1).trans rfl
      have HMP := Lib.hid hm; have HRS := Lib.hid hs; have HLE := Lib.hid hl; have HNX := Lib.hid hu
      clear hb hm hs hl hu
      go_wp2_with (at_lookup; refine wpList_mp_ok _ rfl _ _ rfl b n L rfl HMP.out s rfl HML.out ?_; rw [← HRS.out])
      go_roundw
      case rel => exact ⟨_, (by first | rfl | trivial), (by first | rfl | trivial), HNX⟩
      case measure =>
        have := HLE.out
        show ptrN (.pointer (some q)) < ptrN (.pointer (some ⟨z, 0, none⟩))
        simp only [ptrN] at this ⊢
        omega
theorem Mp.run_at {w : World} {b n : Nat} {L : Env} (h : Mp w b n L) {s : ByteArray} (hs : s.size ≤ maxLen) : (Instr.lookup 137 (.map (some b)) (.string s) false).run Tryz.prog w = .ok (.int .i64 (((L.get s).getD 0 : Nat) : Int)) w := by
  obtain ⟨D, h1, h2⟩ := h
  obtain ⟨q1, q2⟩ := h2 s
  obtain ⟨c, hrun, hat, _⟩ := h1.lookup_int mlaw Tryz.underlying137 Tryz.underlying3 (mzero _) (kl_key hs)
  rw [q2] at hat
  injection hat with hat
  injection hat with _ hat
  rw [hrun, ← hat]
/-- how inner answers -/
def InnP (w : World) (V : Nat) (e : Ending) (w' : World) : Prop := ∃ (p b : Nat), e = .returned (.pointer (some ⟨p, 0, none⟩)) ∧ w.heap.size ≤ p ∧ w.heap.size ≤ b ∧ p ≠ b ∧ Blk w' p [.map (some b), .pointer (some ⟨V, 0, none⟩)] ∧ Mp w' b 0 [] ∧ Below w.heap.size w w'
set_option maxHeartbeats 1000000 in
theorem inner_any (w : World) (V : Nat) : Calls Tryz.prog 183 #[.pointer (some ⟨V, 0, none⟩)] w (InnP w V) := by
  have hmm := @run_makeMap Tryz.prog
  go_enter Tryz.func183, Tryz.ntmps183
  go_wp2_with (fail)
  go_ret
  exact ⟨_, _, rfl, by simp, Nat.le_refl _, by omega, Blk.fresh (by simp) rfl, (Mp.made w).same (Below.heap_alloc _ _ _ (by simp)), ((Below.refl _ w).alloc (Nat.le_refl _) _).alloc (by simp) _⟩
theorem EnC.inner {w w' : World} {a V : Nat} {segs : List Env} {ks : List Nat} (h : EnC w a (.pointer (some ⟨V, 0, none⟩)) segs ks) {p b : Nat} (h1 : w.heap.size ≤ p) (h2 : w.heap.size ≤ b) (h3 : p ≠ b) (h4 : Blk w' p [.map (some b), .pointer (some ⟨V, 0, none⟩)]) (h5 : Mp w' b 0 []) (h6 : Below w.heap.size w w') : EnC w' a (.pointer (some ⟨p, 0, none⟩)) ([] :: segs) (p :: b :: ks) :=
  .more h4 h3 h5 (Nat.zero_le _) (fun x hx => by cases hx) (fun hk => by have := h.lt _ hk; omega) (fun hk => by have := h.lt _ hk; omega) (by have := h.lt V (by cases h <;> simp); simp only [ptrN]; omega) (h.bel h6)
end Go.Proofs.YtpnliencahnmoaaGreatDoor

set_option linter.unusedVariables false
set_option linter.unusedSimpArgs false
set_option maxRecDepth 100000
namespace Go.Proofs.YtpnliencahnmoaaGreatDoor
open Go.RowKit
/-- what never turns -/
structure Ix (w0 : World) (fs : List Fx) (fv : Value) (M B : Nat) : Prop where
  at0 : FxsAt w0 fv fs
  hM : w0.heap.size ≤ M
  hB : w0.heap.size ≤ B
  hBM : B ≤ M
  ok : ∀ f ∈ fs, fxOk isNB f = true ∧ f.body.all (stA fs 4) = true
/-- a run at a point: the state, the variables -/
structure Ist (w0 w : World) (M B : Nat) (fv sv : Value) (s : Cm) (a : Nat) (v : Value) (segs : List Env) (ks : List Nat) : Prop where
  b0 : Below w0.heap.size w0 w
  mn : Mn w M B fv sv s
  ec : EnC w a v segs ks
  ap : M ∉ ks ∧ ∀ q, sv.ownBlock = some q → q ∉ ks
theorem Ist.fr {w0 w w' : World} {fs : List Fx} {M B : Nat} {fv sv sv' : Value} {s s' : Cm} {a : Nat} {v : Value} {segs : List Env} {ks : List Nat} (hI : Ix w0 fs fv M B) (h : Ist w0 w M B fv sv s a v segs ks) (hF : Fr [M] sv w sv' w') (hm : Mn w' M B fv sv' s') : Ist w0 w' M B fv sv' s' a v segs ks := by
  have hs : ∀ k ∈ ks, sv.ownBlock ≠ some k := fun k hk e => h.ap.2 k e hk
  refine ⟨Only.below h.b0 hF.only h.b0.size (fun b hb => ?_), hm, h.ec.keep (fun k hk => hF.block (h.ec.lt k hk) (fun e => h.ap.1 (by rw [← List.mem_singleton.1 e]; exact hk)) (hs k hk)), h.ap.1, fun q hq hk => hF.ne (h.ec.lt q hk) (hs q hk) hq⟩
  rcases List.mem_append.1 hb with hb | hb
  · rw [List.mem_singleton.1 hb]; exact hI.hM
  · exact Nat.le_trans hI.hB (ownBlock_of h.mn.said b (by simpa using hb))
theorem Ist.below {w0 w w' : World} {M B : Nat} {fv sv : Value} {s : Cm} {a : Nat} {v : Value} {segs : List Env} {ks : List Nat} (h : Ist w0 w M B fv sv s a v segs ks) (hb : Below w.heap.size w w') : Ist w0 w' M B fv sv s a v segs ks :=
  ⟨h.b0.trans (hb.mono h.b0.size), h.mn.below hb, h.ec.bel hb, h.ap⟩
/-- how an expression answers -/
def XP (M B : Nat) (fv sv : Value) (r : Rs) (w : World) (e : Ending) (w' : World) : Prop :=
  ∃ sv', Fr [M] sv w sv' w' ∧ Mn w' M B fv sv' r.cm ∧ match r with
    | .ret v _ => e = .returned (.int .i64 (v : Int)) ∧ v < 256
    | .stop en _ => e = .panicked (endChain en)
def GE (w0 : World) (fs : List Fx) (fv : Value) (M B g : Nat) : Prop :=
  ∀ (d : Nat) (x : Ex) (kv : Value) (s : Cm) (r : Rs) (w : World) (sv v : Value) (a : Nat) (segs : List Env) (ks : List Nat), evE fs g x segs.flatten s = some r → exA fs d x → x.name.size ≤ big → ExsAt w0 kv x.kids → Ist w0 w M B fv sv s a v segs ks →
    Calls Tryz.prog 182 #[.pointer (some ⟨M, 0, none⟩), .agg #[.int .i64 x.op, .int .i64 x.n, .string x.name, kv], v] w (XP M B fv sv r w)
/-- an expression on its way: its box, the state so far -/
structure Ei (w0 w : World) (M B : Nat) (fv sv : Value) (a : Nat) (v : Value) (segs : List Env) (ks : List Nat) (box : List Value) (sv1 : Value) (s1 : Cm) (w1 : World) : Prop where
  fr : Fr [M] sv w sv1 w1
  st : Ist w0 w1 M B fv sv1 s1 a v segs ks
  box : Blk w1 w.heap.size box
  nx : w.heap.size ≠ M ∧ sv1.ownBlock ≠ some w.heap.size
theorem Ei.start {w0 w : World} {M B : Nat} {fv sv : Value} {s : Cm} {a : Nat} {v : Value} {segs : List Env} {ks : List Nat} (h : Ist w0 w M B fv sv s a v segs ks) (cs : Array Value) (t : TypeId) : Ei w0 w M B fv sv a v segs ks cs.toList sv s (w.alloc (.cells cs t)) :=
  ⟨Fr.below (below1 _ _), h.below (below1 _ _), Blk.new _ _ _, by have := h.mn.blk.lt; omega, fun e => by have := (World.ownsRow.lt h.mn.said _ e).2; omega⟩
theorem Ei.step {w0 w : World} {fs : List Fx} {M B : Nat} {fv sv : Value} {a : Nat} {v : Value} {segs : List Env} {ks : List Nat} {box : List Value} {sv1 sv2 : Value} {s1 s2 : Cm} {w1 w2 : World} (hI : Ix w0 fs fv M B) (h : Ei w0 w M B fv sv a v segs ks box sv1 s1 w1) (hF : Fr [M] sv1 w1 sv2 w2) (hm : Mn w2 M B fv sv2 s2) : Ei w0 w M B fv sv a v segs ks box sv2 s2 w2 :=
  ⟨h.fr.trans hF, h.st.fr hI hF hm, hF.blk h.box (fun e => h.nx.1 (List.mem_singleton.1 e)) h.nx.2, h.nx.1, hF.ne h.box.lt h.nx.2⟩
theorem Ei.below {w0 w : World} {M B : Nat} {fv sv : Value} {a : Nat} {v : Value} {segs : List Env} {ks : List Nat} {box : List Value} {sv1 : Value} {s1 : Cm} {w1 w2 : World} (h : Ei w0 w M B fv sv a v segs ks box sv1 s1 w1) (hb : Below w1.heap.size w1 w2) : Ei w0 w M B fv sv a v segs ks box sv1 s1 w2 :=
  ⟨⟨h.fr.only.trans (Only.of_below hb _), h.fr.row⟩, h.st.below hb, h.box.below hb, h.nx⟩
theorem Ei.ret {w0 w : World} {M B : Nat} {fv sv : Value} {a : Nat} {v : Value} {segs : List Env} {ks : List Nat} {box : List Value} {sv1 : Value} {s1 : Cm} {w1 : World} (h : Ei w0 w M B fv sv a v segs ks box sv1 s1 w1) {u : Nat} (hu : u < 256) : XP M B fv sv (.ret u s1) w (.returned (.int .i64 (u : Int))) w1 := ⟨sv1, h.fr, h.st.mn, rfl, hu⟩
theorem Ei.stop {w0 w : World} {M B : Nat} {fv sv : Value} {a : Nat} {v : Value} {segs : List Env} {ks : List Nat} {box : List Value} {sv1 : Value} {s1 : Cm} {w1 : World} (h : Ei w0 w M B fv sv a v segs ks box sv1 s1 w1) (en : Nat) : XP M B fv sv (.stop en s1) w (.panicked (endChain en)) w1 := ⟨sv1, h.fr, h.st.mn, rfl⟩
theorem EnC.form {w : World} {a : Nat} {v : Value} {segs : List Env} {ks : List Nat} (h : EnC w a v segs ks) : ∃ p, v = .pointer (some ⟨p, 0, none⟩) := h.ptr
set_option maxHeartbeats 1000000 in
theorem arith10 (w : World) (b v : Nat) (hv : v = if b = 0 then 0 else 1) : Calls Tryz.prog 142 #[.int .i64 10, .int .i64 1, .int .i64 (b : Int)] w fun e w' => e = .returned (.tuple #[.int .i64 (v : Int), .bool true]) ∧ w = w' := by
  by_cases hb : b = 0
  · subst hb
    have HT := Lib.hid (fun w' => truth_named w' false v hv)
    clear hv
    go_enter Tryz.func142, Tryz.ntmps142
    go_wp2_with (fail)
    refine (HT.out _).mono ?_
    rintro e _ ⟨rfl, rfl⟩
    go_wp2_with (fail)
    refine bodyPost_ret (v := .tuple #[.int .i64 (v : Int), .bool true]) (by simp [results, Tryz.results142, go_sem]) rfl ⟨rfl, rfl⟩
  · have HT := Lib.hid (fun w' => truth_named w' true v (by rw [hv]; simp [hb]))
    have h1 : ((b : Int) == 0) = false := by simp; omega
    have h2 : ((b : Int) != 0) = true := by simp; omega
    have h3 : ¬ (b : Int) = 0 := by omega
    clear hv hb
    go_enter Tryz.func142, Tryz.ntmps142
    go_wp2_with (fail)
    refine (HT.out _).mono ?_
    rintro e _ ⟨rfl, rfl⟩
    go_wp2_with (fail)
    refine bodyPost_ret (v := .tuple #[.int .i64 (v : Int), .bool true]) (by simp [results, Tryz.results142, go_sem]) rfl ⟨rfl, rfl⟩
set_option maxHeartbeats 1000000 in
theorem arith11 (w : World) (a v : Nat) (hv : v = if a = 0 then 1 else 0) : Calls Tryz.prog 142 #[.int .i64 11, .int .i64 (a : Int), .int .i64 0] w fun e w' => e = .returned (.tuple #[.int .i64 (v : Int), .bool true]) ∧ w = w' := by
  obtain ⟨q, hq⟩ : ∃ q, q = ((a : Int) == 0) := ⟨_, rfl⟩
  have HT := Lib.hid (fun w' => truth_named w' q v (by
    rw [hv, hq]
    by_cases h : a = 0
    · subst h; rfl
    · rw [if_neg h, neI (show ¬ (a : Int) = 0 by omega)]; rfl))
  clear hv
  go_enter Tryz.func142, Tryz.ntmps142
  go_wp2_with (fail)
  rw [← hq]
  clear hq
  refine (HT.out _).mono ?_
  rintro e _ ⟨rfl, rfl⟩
  go_wp2_with (fail)
  refine bodyPost_ret (v := .tuple #[.int .i64 (v : Int), .bool true]) (by simp [results, Tryz.results142, go_sem]) rfl ⟨rfl, rfl⟩
section
variable {w0 : World} {fs : List Fx} {fv : Value} {M B : Nat}
set_option maxHeartbeats 1000000 in
theorem eval_num {w : World} {sv v : Value} {s : Cm} {a : Nat} {segs : List Env} {ks : List Nat} (h : Ist w0 w M B fv sv s a v segs ks) (k : Nat) (hk : k < 256) (name : ByteArray) (ka : Option Addr) (kl kc : Nat) :
    Calls Tryz.prog 182 #[.pointer (some ⟨M, 0, none⟩), .agg #[.int .i64 1, .int .i64 (k : Int), .string name, .slice ka kl kc], v] w (XP M B fv sv (.ret k s) w) := by
  have HE := Lib.hid (Ei.start h #[.int .i64 1, .int .i64 (k : Int), .string name, .slice ka kl kc] 67)
  obtain ⟨V, rfl⟩ := h.ec.ptr
  clear h
  go_enter Tryz.func182, Tryz.ntmps182
  go_wp2_with (fail)
  go_ret
  exact HE.out.ret hk
set_option maxHeartbeats 2000000 in
theorem eval_var {w : World} {sv v : Value} {s : Cm} {a : Nat} {segs : List Env} {ks : List Nat} (h : Ist w0 w M B fv sv s a v segs ks) (n : Int) (name : ByteArray) (hz : name.size ≤ big) (ka : Option Addr) (kl kc : Nat) {u : Nat} (hu : Env.get segs.flatten name = some u) :
    Calls Tryz.prog 182 #[.pointer (some ⟨M, 0, none⟩), .agg #[.int .i64 2, .int .i64 n, .string name, .slice ka kl kc], v] w (XP M B fv sv (.ret u s) w) := by
  obtain ⟨w1, hw1⟩ : ∃ w1, w1 = w.alloc (.cells #[.int .i64 2, .int .i64 n, .string name, .slice ka kl kc] 67) := ⟨_, rfl⟩
  have HE : Hid (Ei w0 w M B fv sv a v segs ks [.int .i64 2, .int .i64 n, .string name, .slice ka kl kc] sv s w1) := Lib.hid (by rw [hw1]; exact Ei.start h _ _)
  have hu2 : u < 256 := by
    have hok := h.ec.ok
    clear HE h
    generalize segs.flatten = L at hu hok
    induction L with
    | nil => cases hu
    | cons p r ih =>
      obtain ⟨x, y⟩ := p
      rw [Env.get_cons] at hu
      by_cases e : x = name
      · rw [if_pos e] at hu; injection hu with hu; subst hu; exact hok (x, y) List.mem_cons_self
      · rw [if_neg e] at hu; exact ih hu (fun z hz => hok z (List.mem_cons_of_mem _ hz))
  obtain ⟨p, hwr, b, nn, L, au, hp, hbk, hBl, hMp, hn, hLs, hLg, _⟩ := HE.out.st.ec.wr (s := name) (by rw [hu]; rfl)
  have HWH := Lib.hid (fun q => where_any (w1.drewN q) name p v hz (hwr.drewN q))
  have HU := Lib.hid hu; have HU2 := Lib.hid hu2
  have hml : name.size ≤ maxLen := by unfold maxLen; unfold big at hz; omega
  have HML := Lib.hid hml; have HBG := Lib.hid hz
  obtain ⟨z0, z1, z2, z3⟩ := blkc4 HE.out.box
  obtain ⟨V, rfl⟩ := h.ec.ptr
  have y0 : w1.cell? ⟨p, 0, none⟩ = some (.map (some b)) := (hBl.cell 0).trans rfl
  have hlk : ∀ q, (Instr.lookup 137 (.map (some b)) (.string name) false).run Tryz.prog (w1.drewN q) = .ok (.int .i64 (u : Int)) (w1.drewN q) := fun q => by
    have := (hMp.same rfl : Mp (w1.drewN q) b nn L).run_at hml
    rw [hLg, hu] at this
    exact this
  clear h hu hu2 hz hml hwr hp hbk hBl hMp hn hLs hLg
  go_enter Tryz.func182, Tryz.ntmps182
  go_upto_region 5 with (fail)
  rw [← hw1]
  clear hw1
  go_quiet ((go_at_call 184; exact Calls.quiet_of_same (HWH.out _)))
  go_wp2_with (fail)
  go_ret
  exact (HE.out.below (belowDrewN (Below.refl _ _) _)).ret HU2.out
set_option maxHeartbeats 2000000 in
theorem eval_not (hI : Ix w0 fs fv M B) {g d : Nat} (hG : GE w0 fs fv M B g) {w : World} {sv v : Value} {s : Cm} {a : Nat} {segs : List Env} {ks : List Nat} (h : Ist w0 w M B fv sv s a v segs ks) (n : Int) (name : ByteArray) {x : Ex} {kv : Value} (hkv : ExsAt w0 kv [x]) (hx : exA fs d x) {r1 r : Rs} (h1 : evE fs g x segs.flatten s = some r1) (hr : r = notR r1) :
    Calls Tryz.prog 182 #[.pointer (some ⟨M, 0, none⟩), .agg #[.int .i64 11, .int .i64 n, .string name, kv], v] w (XP M B fv sv r w) := by
  obtain ⟨ka, kc, hkf⟩ := hkv.form
  have hkf : kv = .slice ka 1 kc := hkf
  obtain ⟨w1, hw1⟩ : ∃ w1, w1 = w.alloc (.cells #[.int .i64 11, .int .i64 n, .string name, kv] 67) := ⟨_, rfl⟩
  have HE : Hid (Ei w0 w M B fv sv a v segs ks [.int .i64 11, .int .i64 n, .string name, kv] sv s w1) := Lib.hid (by rw [hw1]; exact Ei.start h _ _)
  subst hkf
  obtain ⟨b0, o0, kv0, rfl, hbl, e0, e1, e2, e3, hk0⟩ := hkv.get (i := 0) (e := x) rfl
  have e0 := cellB HE.out.st.b0 e0; have e1 := cellB HE.out.st.b0 e1; have e2 := cellB HE.out.st.b0 e2; have e3 := cellB HE.out.st.b0 e3
  rw [Nat.zero_mul, Nat.add_zero] at e0 e1 e2 e3
  have HC := Lib.hid (hG d x kv0 s r1 w1 sv v a segs ks h1 hx (hkv.lens.2 0 x rfl) hk0 HE.out.st)
  obtain ⟨ya, yc, hyf⟩ := hk0.form
  obtain ⟨yl, hyl⟩ : ∃ l, l = x.kids.length := ⟨_, rfl⟩
  rw [← hyl] at hyf
  subst hyf
  have HR := Lib.hid hr; have HI := Lib.hid hI
  obtain ⟨z0, z1, z2, z3⟩ := blkc4 HE.out.box
  obtain ⟨V, rfl⟩ := h.ec.ptr
  clear h hkv hx h1 hr hk0 hyl hG hI hbl
  go_enter Tryz.func182, Tryz.ntmps182
  go_upto_region 21 with (fail)
  rw [← hw1]
  clear hw1
  go_wp2_with (fail)
  go_at_call 182
  refine HC.out.mono ?_
  rintro e w2 ⟨sv2, hF, hM, hm⟩
  have HE2 := Lib.hid (HE.out.step HI.out hF hM)
  clear hF hM z0 z1 z2 z3
  cases r1 with
  | stop en s1 =>
    obtain rfl := hm
    have hrr := HR.out
    simp only [notR] at hrr
    subst hrr
    go_wp2_with (fail)
    exact ⟨rfl, HE2.out.stop en⟩
  | ret u s1 =>
    obtain ⟨rfl, hu⟩ := hm
    obtain ⟨z, hz⟩ : ∃ z, z = if u = 0 then 1 else 0 := ⟨_, rfl⟩
    have hz2 : z < 256 := by rw [hz]; split <;> omega
    have hrr := HR.out
    simp only [notR] at hrr
    rw [← hz] at hrr
    subst hrr
    have HA := Lib.hid (fun w' => arith11 w' u z hz)
    obtain ⟨z0, z1, z2, z3⟩ := blkc4 HE2.out.box
    clear hz
    go_wp2_with (fail)
    go_at_call 142
    refine (HA.out _).mono ?_
    rintro e _ ⟨rfl, rfl⟩
    go_wp2_with (fail)
    go_ret
    exact HE2.out.ret hz2
end
end Go.Proofs.YtpnliencahnmoaaGreatDoor

set_option linter.unusedVariables false
set_option linter.unusedSimpArgs false
set_option maxRecDepth 100000
namespace Go.Proofs.YtpnliencahnmoaaGreatDoor
open Go.RowKit
section
variable {w0 : World} {fs : List Fx} {fv : Value} {M B : Nat}
set_option maxHeartbeats 2000000 in
theorem eval_at (hI : Ix w0 fs fv M B) {g d : Nat} (hG : GE w0 fs fv M B g) {w : World} {sv v : Value} {s : Cm} {a : Nat} {segs : List Env} {ks : List Nat} (h : Ist w0 w M B fv sv s a v segs ks) (n : Int) (name : ByteArray) {x : Ex} {kv : Value} (hkv : ExsAt w0 kv [x]) (hx : exA fs d x) {r1 r : Rs} (h1 : evE fs g x segs.flatten s = some r1) (hr : atR r1 = r) :
    Calls Tryz.prog 182 #[.pointer (some ⟨M, 0, none⟩), .agg #[.int .i64 12, .int .i64 n, .string name, kv], v] w (XP M B fv sv r w) := by
  obtain ⟨ka, kc, hkf⟩ := hkv.form
  have hkf : kv = .slice ka 1 kc := hkf
  obtain ⟨w1, hw1⟩ : ∃ w1, w1 = w.alloc (.cells #[.int .i64 12, .int .i64 n, .string name, kv] 67) := ⟨_, rfl⟩
  have HE : Hid (Ei w0 w M B fv sv a v segs ks [.int .i64 12, .int .i64 n, .string name, kv] sv s w1) := Lib.hid (by rw [hw1]; exact Ei.start h _ _)
  subst hkf
  have HKV := Lib.hid hkv
  obtain ⟨b0, o0, kv0, rfl, hbl, e0, e1, e2, e3, hk0⟩ := hkv.get (i := 0) (e := x) rfl
  have e0 := cellB HE.out.st.b0 e0; have e1 := cellB HE.out.st.b0 e1; have e2 := cellB HE.out.st.b0 e2; have e3 := cellB HE.out.st.b0 e3
  rw [Nat.zero_mul, Nat.add_zero] at e0 e1 e2 e3
  have HC := Lib.hid (hG d x kv0 s r1 w1 sv v a segs ks h1 hx (hkv.lens.2 0 x rfl) hk0 HE.out.st)
  obtain ⟨ya, yc, hyf⟩ := hk0.form
  obtain ⟨yl, hyl⟩ : ∃ l, l = x.kids.length := ⟨_, rfl⟩
  rw [← hyl] at hyf
  subst hyf
  have HR := Lib.hid hr; have HI := Lib.hid hI
  obtain ⟨z0, z1, z2, z3⟩ := blkc4 HE.out.box
  obtain ⟨V, rfl⟩ := h.ec.ptr
  clear h hkv hx h1 hr hk0 hyl hG hI hbl
  go_enter Tryz.func182, Tryz.ntmps182
  go_upto_region 12 with (fail)
  rw [← hw1]
  clear hw1
  go_wp2_with (fail)
  go_at_call 182
  refine HC.out.mono ?_
  rintro e w2 ⟨sv2, hF, hM, hm⟩
  have HE2 := Lib.hid (HE.out.step HI.out hF hM)
  clear hF hM z0 z1 z2 z3
  cases r1 with
  | stop en s1 =>
    obtain rfl := hm
    have hrr := HR.out
    simp only [atR] at hrr
    subst hrr
    go_wp2_with (fail)
    exact ⟨rfl, HE2.out.stop en⟩
  | ret u s1 =>
    obtain ⟨rfl, hu⟩ := hm
    have hrr := HR.out
    simp only [atR] at hrr
    by_cases h16 : 16 ≤ u
    · rw [if_pos h16] at hrr
      subst hrr
      have HA : Hid (∀ w', Calls Tryz.prog 185 #[.pointer (some ⟨M, 0, none⟩), .int .i64 (u : Int)] w' fun e w2 => w' = w2 ∧ e = .panicked (endChain 2)) := Lib.hid (fun w' => by have := mcell_any w' M u; simp only [if_pos h16] at this; exact this)
      clear h16
      go_wp2_with (fail)
      go_at_call 185
      refine (HA.out _).mono ?_
      rintro e _ ⟨rfl, rfl⟩
      go_wp2_with (fail)
      exact ⟨rfl, HE2.out.stop 2⟩
    · rw [if_neg h16] at hrr
      subst hrr
      have HA : Hid (∀ w', Calls Tryz.prog 185 #[.pointer (some ⟨M, 0, none⟩), .int .i64 (u : Int)] w' fun e w2 => w' = w2 ∧ e = .returned (.pointer (some ⟨M, 4 + u, none⟩))) := Lib.hid (fun w' => by have := mcell_any w' M u; simp only [if_neg h16] at this; exact this)
      have c0 : w2.cell? ⟨M, 4 + u, none⟩ = some (.int .i64 ((s1.cells.getD u 0 : Nat) : Int)) := HE2.out.st.mn.at (show u < 16 by omega)
      have hcs : s1.cells.getD u 0 < 256 := HE2.out.st.mn.cm.cellsS.at u
      obtain ⟨z, hz⟩ : ∃ z, z = s1.cells.getD u 0 := ⟨_, rfl⟩
      have HX : Hid (XP M B fv sv (.ret (s1.cells.getD u 0) s1) w (.returned (.int .i64 (z : Int))) w2) := Lib.hid (by rw [hz]; exact HE2.out.ret hcs)
      rw [← hz] at c0
      clear h16 hz hcs
      go_wp2_with (fail)
      go_at_call 185
      refine (HA.out _).mono ?_
      rintro e _ ⟨rfl, rfl⟩
      go_wp2_with (fail)
      go_ret
      exact HX.out
set_option maxHeartbeats 4000000 in
theorem eval_and (hI : Ix w0 fs fv M B) {g d : Nat} (hG : GE w0 fs fv M B g) {w : World} {sv v : Value} {s : Cm} {a : Nat} {segs : List Env} {ks : List Nat} (h : Ist w0 w M B fv sv s a v segs ks) (n : Int) (name : ByteArray) {x y : Ex} {kv : Value} (hkv : ExsAt w0 kv [x, y]) (hx : exA fs d x) (hy : exA fs d y) {r1 q r : Rs} (h1 : evE fs g x segs.flatten s = some r1) (hq : ∀ v s1, r1 = .ret v s1 → v ≠ 0 → evE fs g y segs.flatten s1 = some q) (hq2 : ∀ en s1, r1 = .stop en s1 → q = r1) (hr : andR r1 q = r) :
    Calls Tryz.prog 182 #[.pointer (some ⟨M, 0, none⟩), .agg #[.int .i64 10, .int .i64 n, .string name, kv], v] w (XP M B fv sv r w) := by
  obtain ⟨ka, kc, hkf⟩ := hkv.form
  have hkf : kv = .slice ka 2 kc := hkf
  obtain ⟨w1, hw1⟩ : ∃ w1, w1 = w.alloc (.cells #[.int .i64 10, .int .i64 n, .string name, kv] 67) := ⟨_, rfl⟩
  have HE : Hid (Ei w0 w M B fv sv a v segs ks [.int .i64 10, .int .i64 n, .string name, kv] sv s w1) := Lib.hid (by rw [hw1]; exact Ei.start h _ _)
  subst hkf
  have HKV := Lib.hid hkv
  obtain ⟨b0, o0, kv0, rfl, hbl, e0, e1, e2, e3, hk0⟩ := hkv.get (i := 0) (e := x) rfl
  have e0 := cellB HE.out.st.b0 e0; have e1 := cellB HE.out.st.b0 e1; have e2 := cellB HE.out.st.b0 e2; have e3 := cellB HE.out.st.b0 e3
  rw [Nat.zero_mul, Nat.add_zero] at e0 e1 e2 e3
  have HC := Lib.hid (hG d x kv0 s r1 w1 sv v a segs ks h1 hx (hkv.lens.2 0 x rfl) hk0 HE.out.st)
  obtain ⟨ya, yc, hyf⟩ := hk0.form
  obtain ⟨yl, hyl⟩ : ∃ l, l = x.kids.length := ⟨_, rfl⟩
  rw [← hyl] at hyf
  subst hyf
  have HR := Lib.hid hr; have HI := Lib.hid hI
  obtain ⟨z0, z1, z2, z3⟩ := blkc4 HE.out.box
  obtain ⟨V, rfl⟩ := h.ec.ptr
  have HQ := Lib.hid hq; have HY := Lib.hid hy; have HG := Lib.hid hG; have HQ2 := Lib.hid hq2
  clear h hkv hx h1 hr hk0 hyl hG hI hbl hq hq2 hy
  go_enter Tryz.func182, Tryz.ntmps182
  go_upto_region 7 with (fail)
  rw [← hw1]
  clear hw1
  go_wp2_with (fail)
  go_at_call 182
  refine HC.out.mono ?_
  rintro e w2 ⟨sv2, hF, hM, hm⟩
  have HE2 := Lib.hid (HE.out.step HI.out hF hM)
  clear hF hM z0 z1 z2 z3 e0 e1 e2 e3
  cases r1 with
  | stop en s1 =>
    obtain rfl := hm
    have hrr := HR.out
    have hqq := HQ2.out en s1 rfl
    simp only [andR] at hrr
    subst hrr
    go_wp2_with (fail)
    exact ⟨rfl, HE2.out.stop en⟩
  | ret u s1 =>
    obtain ⟨rfl, hu⟩ := hm
    have hrr := HR.out
    simp only [andR] at hrr
    by_cases hu0 : u = 0
    · subst hu0
      simp only [if_true] at hrr
      subst hrr
      go_wp2_with (fail)
      go_ret
      exact HE2.out.ret (by omega)
    · rw [if_neg hu0] at hrr
      have hu1 : ((u : Int) == 0) = false := neI (by omega)
      have hev2 := HQ.out u s1 rfl hu0
      obtain ⟨b2, o2, kv2, hab, hbl, g0, g1, g2, g3, hk2⟩ := HKV.out.get (i := 1) (e := y) rfl
      injection hab with hab; injection hab with hab1 hab2 _; subst hab1 hab2
      have g0 := cellB HE2.out.st.b0 g0; have g1 := cellB HE2.out.st.b0 g1; have g2 := cellB HE2.out.st.b0 g2; have g3 := cellB HE2.out.st.b0 g3
      rw [Nat.one_mul] at g0 g1 g2 g3
      have HC2 := Lib.hid (HG.out d y kv2 s1 q w2 sv2 _ a segs ks hev2 HY.out (HKV.out.lens.2 1 y rfl) hk2 HE2.out.st)
      obtain ⟨ua, uc, huf⟩ := hk2.form
      obtain ⟨ul, hul⟩ : ∃ l, l = y.kids.length := ⟨_, rfl⟩
      rw [← hul] at huf
      subst huf
      have HRR := Lib.hid hrr
      obtain ⟨z0, z1, z2, z3⟩ := blkc4 HE2.out.box
      clear hu0 hev2 hk2 hul hbl hrr
      go_wp2_with (fail)
      go_at_call 182
      refine HC2.out.mono ?_
      rintro e w3 ⟨sv3, hF, hM, hm⟩
      have HE3 := Lib.hid (HE2.out.step HI.out hF hM)
      clear hF hM z0 z1 z2 z3
      cases q with
      | stop en s2 =>
        obtain rfl := hm
        have hr3 := HRR.out
        simp only [andQ] at hr3
        subst hr3
        go_wp2_with (fail)
        exact ⟨rfl, HE3.out.stop en⟩
      | ret t s2 =>
        obtain ⟨rfl, ht⟩ := hm
        obtain ⟨z, hz⟩ : ∃ z, z = if t = 0 then 0 else 1 := ⟨_, rfl⟩
        have hz2 : z < 256 := by rw [hz]; split <;> omega
        have hr3 := HRR.out
        simp only [andQ] at hr3
        rw [← hz] at hr3
        subst hr3
        have HA := Lib.hid (fun w' => arith10 w' t z hz)
        clear hz
        go_wp2_with (fail)
        go_at_call 142
        refine (HA.out _).mono ?_
        rintro e _ ⟨rfl, rfl⟩
        go_wp2_with (fail)
        go_ret
        exact HE3.out.ret hz2
set_option maxHeartbeats 4000000 in
theorem eval_two (hI : Ix w0 fs fv M B) {g d : Nat} (hG : GE w0 fs fv M B g) {w : World} {sv v : Value} {s : Cm} {a : Nat} {segs : List Env} {ks : List Nat} (h : Ist w0 w M B fv sv s a v segs ks) (n : Int) (name : ByteArray) {x y : Ex} {kv : Value} (hkv : ExsAt w0 kv [x, y]) {op : Nat} (hop : 3 ≤ op ∧ op ≤ 9) (hx : exA fs d x) (hy : exA fs d y) {r1 q r : Rs} (h1 : evE fs g x segs.flatten s = some r1) (hq : ∀ v s1, r1 = .ret v s1 → evE fs g y segs.flatten s1 = some q) (hq2 : ∀ en s1, r1 = .stop en s1 → q = r1) (hr : twoRs op r1 q = r) :
    Calls Tryz.prog 182 #[.pointer (some ⟨M, 0, none⟩), .agg #[.int .i64 (op : Int), .int .i64 n, .string name, kv], v] w (XP M B fv sv r w) := by
  obtain ⟨ka, kc, hkf⟩ := hkv.form
  have hkf : kv = .slice ka 2 kc := hkf
  obtain ⟨w1, hw1⟩ : ∃ w1, w1 = w.alloc (.cells #[.int .i64 (op : Int), .int .i64 n, .string name, kv] 67) := ⟨_, rfl⟩
  have HE : Hid (Ei w0 w M B fv sv a v segs ks [.int .i64 (op : Int), .int .i64 n, .string name, kv] sv s w1) := Lib.hid (by rw [hw1]; exact Ei.start h _ _)
  subst hkf
  have HKV := Lib.hid hkv
  obtain ⟨b0, o0, kv0, rfl, hbl, e0, e1, e2, e3, hk0⟩ := hkv.get (i := 0) (e := x) rfl
  have e0 := cellB HE.out.st.b0 e0; have e1 := cellB HE.out.st.b0 e1; have e2 := cellB HE.out.st.b0 e2; have e3 := cellB HE.out.st.b0 e3
  rw [Nat.zero_mul, Nat.add_zero] at e0 e1 e2 e3
  have HC := Lib.hid (hG d x kv0 s r1 w1 sv v a segs ks h1 hx (hkv.lens.2 0 x rfl) hk0 HE.out.st)
  obtain ⟨ya, yc, hyf⟩ := hk0.form
  obtain ⟨yl, hyl⟩ : ∃ l, l = x.kids.length := ⟨_, rfl⟩
  rw [← hyl] at hyf
  subst hyf
  have HR := Lib.hid hr; have HI := Lib.hid hI
  obtain ⟨z0, z1, z2, z3⟩ := blkc4 HE.out.box
  obtain ⟨V, rfl⟩ := h.ec.ptr
  have HQ := Lib.hid hq; have HY := Lib.hid hy; have HG := Lib.hid hG; have HOP := Lib.hid hop; have HQ2 := Lib.hid hq2
  have p1 : ((op : Int) == 1) = false := neI (by omega); have p2 : ((op : Int) == 2) = false := neI (by omega); have p10 : ((op : Int) == 10) = false := neI (by omega); have p12 : ((op : Int) == 12) = false := neI (by omega); have p13 : ((op : Int) == 13) = false := neI (by omega)
  clear h hkv hx h1 hr hk0 hyl hG hI hbl hq hq2 hy hop
  go_enter Tryz.func182, Tryz.ntmps182
  go_upto_region 21 with (fail)
  rw [← hw1]
  clear hw1
  go_wp2_with (fail)
  go_at_call 182
  refine HC.out.mono ?_
  rintro e w2 ⟨sv2, hF, hM, hm⟩
  have HE2 := Lib.hid (HE.out.step HI.out hF hM)
  clear hF hM z0 z1 z2 z3 e0 e1 e2 e3
  cases r1 with
  | stop en s1 =>
    obtain rfl := hm
    have hrr := HR.out
    have hqq := HQ2.out en s1 rfl
    subst hqq
    simp only [twoRs] at hrr
    subst hrr
    go_wp2_with (fail)
    exact ⟨rfl, HE2.out.stop en⟩
  | ret u s1 =>
    obtain ⟨rfl, hu⟩ := hm
    have hev2 := HQ.out u s1 rfl
    obtain ⟨b2, o2, kv2, hab, hbl, g0, g1, g2, g3, hk2⟩ := HKV.out.get (i := 1) (e := y) rfl
    injection hab with hab; injection hab with hab1 hab2 _; subst hab1 hab2
    have g0 := cellB HE2.out.st.b0 g0; have g1 := cellB HE2.out.st.b0 g1; have g2 := cellB HE2.out.st.b0 g2; have g3 := cellB HE2.out.st.b0 g3
    rw [Nat.one_mul] at g0 g1 g2 g3
    have HC2 := Lib.hid (HG.out d y kv2 s1 q w2 sv2 _ a segs ks hev2 HY.out (HKV.out.lens.2 1 y rfl) hk2 HE2.out.st)
    obtain ⟨ua, uc, huf⟩ := hk2.form
    obtain ⟨ul, hul⟩ : ∃ l, l = y.kids.length := ⟨_, rfl⟩
    rw [← hul] at huf
    subst huf
    obtain ⟨z0, z1, z2, z3⟩ := blkc4 HE2.out.box
    clear hev2 hk2 hul hbl
    go_wp2_with (fail)
    go_at_call 182
    refine HC2.out.mono ?_
    rintro e w3 ⟨sv3, hF, hM, hm⟩
    have HE3 := Lib.hid (HE2.out.step HI.out hF hM)
    clear hF hM z0 z1 z2 z3
    obtain ⟨z0, z1, z2, z3⟩ := blkc4 HE3.out.box
    cases q with
    | stop en s2 =>
      obtain rfl := hm
      have hr3 := HR.out
      simp only [twoRs, twoQ] at hr3
      subst hr3
      go_wp2_with (fail)
      exact ⟨rfl, HE3.out.stop en⟩
    | ret t s2 =>
      obtain ⟨rfl, ht⟩ := hm
      have HA := Lib.hid (fun w' => arith_any w' op u t HOP.out.1 HOP.out.2 hu ht)
      have hr3 := HR.out
      simp only [twoRs, twoQ] at hr3
      cases har : arithN op u t with
      | some z =>
        rw [har] at hr3
        simp only [] at hr3
        subst hr3
        have hz2 : z < 256 := arithN_lt hu ht har
        have hav : arithV op u t = .tuple #[.int .i64 (z : Int), .bool true] := by unfold arithV; rw [har]
        rw [hav] at HA
        clear har hav
        go_wp2_with (fail)
        go_at_call 142
        refine (HA.out _).mono ?_
        rintro e _ ⟨rfl, rfl⟩
        go_wp2_with (fail)
        go_ret
        exact HE3.out.ret hz2
      | none =>
        rw [har] at hr3
        simp only [] at hr3
        subst hr3
        have hav : arithV op u t = .tuple #[.int .i64 0, .bool false] := by unfold arithV; rw [har]
        rw [hav] at HA
        have HS := Lib.hid (fun w' => stop_any w' 1)
        clear har hav
        go_wp2_with (fail)
        go_at_call 142
        refine (HA.out _).mono ?_
        rintro e _ ⟨rfl, rfl⟩
        go_wp2_with (fail)
        go_at_call 181
        refine (HS.out _).mono ?_
        rintro e _ ⟨rfl, rfl⟩
        go_wp2_with (fail)
        exact ⟨rfl, HE3.out.stop 1⟩
end
end Go.Proofs.YtpnliencahnmoaaGreatDoor

set_option linter.unusedVariables false
set_option linter.unusedSimpArgs false
set_option maxRecDepth 100000
namespace Go.Proofs.YtpnliencahnmoaaGreatDoor
open Go.RowKit
def appL (us : List Nat) : Rl → Rl
  | .vals vs s => .vals (us ++ vs) s
  | .stop e s => .stop e s
theorem evL_step {fs : List Fx} {g : Nat} {x : Ex} {l : List Ex} {env : Env} {s : Cm} {R : Rl} (h : evL fs g (x :: l) env s = some R) : ∃ g' r1, g = g' + 1 ∧ evE fs g' x env s = some r1 ∧ (∀ en s1, r1 = .stop en s1 → R = .stop en s1) ∧ (∀ v s1, r1 = .ret v s1 → ∃ R', evL fs g' l env s1 = some R' ∧ R = appL [v] R') := by
  cases g with
  | zero => simp [evL] at h
  | succ g =>
    rw [evL] at h
    cases he : evE fs g x env s with
    | none => rw [he] at h; cases h
    | some r1 =>
      rw [he] at h
      refine ⟨g, r1, rfl, he, fun en s1 e => ?_, fun v s1 e => ?_⟩
      · subst e; injection h with h; exact h.symm
      · subst e
        simp only [] at h
        cases hl : evL fs g l env s1 with
        | none => rw [hl] at h; cases h
        | some R' =>
          rw [hl] at h
          refine ⟨R', rfl, ?_⟩
          cases R' with
          | vals vs s2 => injection h with h; exact h.symm
          | stop e s2 => injection h with h; exact h.symm
theorem appL_app (us vs : List Nat) (R : Rl) : appL us (appL vs R) = appL (us ++ vs) R := by
  cases R with
  | vals ws s => simp [appL]
  | stop e s => rfl
/-- calls run with so much gas -/
def GC (w0 : World) (fs : List Fx) (fv : Value) (M B g : Nat) : Prop :=
  ∀ (k : Nat) (iv : Value) (vs : List Nat) (s : Cm) (r : Rs) (w : World) (sv : Value), evC fs g k vs s = some r → Below w0.heap.size w0 w → Mn w M B fv sv s → NAt w iv vs → Small vs →
    Calls Tryz.prog 76 #[.pointer (some ⟨M, 0, none⟩), .int .i64 (k : Int), iv] w (XP M B fv sv r w)
/-- what a call's last region reads -/
def CalS (X M : Nat) (name : ByteArray) (fv : Value) (W : World) : Prop := W.cell? ⟨X, 2, none⟩ = some (.string name) ∧ W.cell? ⟨M, 0, none⟩ = some fv
/-- arguments on their way -/
structure Ag (w : World) (M : Nat) (X : Nat) (sv1 av : Value) (us : List Nat) (w1 : World) : Prop where
  row : w1.ownsRow (X + 1) 3 1 av us.length (nats us)
  ne : ∀ q, av.ownBlock = some q → sv1.ownBlock ≠ some q
  small : Small us
theorem Ei.grown {w0 w : World} {fs : List Fx} {M B : Nat} {fv sv : Value} {a : Nat} {v : Value} {segs : List Env} {ks : List Nat} {box : List Value} {sv1 : Value} {s1 : Cm} {w1 w2 : World} (hI : Ix w0 fs fv M B) (h : Ei w0 w M B fv sv a v segs ks box sv1 s1 w1) (hMl : M < w.heap.size) (hks : ∀ k ∈ ks, k < w.heap.size) {row : Option Nat} (hg : w1.grownBy w2 row) (hr : ∀ z, row = some z → w.heap.size < z ∧ sv1.ownBlock ≠ some z) : Ei w0 w M B fv sv a v segs ks box sv1 s1 w2 := by
  have hw0 : w0.heap.size ≤ w.heap.size := Nat.le_of_lt (Nat.lt_of_le_of_lt hI.hM hMl)
  have hb0 : Below w0.heap.size w0 w2 := Only.below h.st.b0 (bs := row.toList) ⟨hg.os, hg.tape, hg.output, hg.size, fun i hi hn => hg.block i hi (fun e => hn (by rw [← e]; simp))⟩ h.st.b0.size (fun z hz => by have := (hr z (by simpa using hz)).1; omega)
  refine ⟨h.fr.grownNew hg (fun z hz => Nat.le_of_lt (hr z hz).1), ⟨hb0, ⟨h.st.mn.blk.grown hg (fun e => by have := (hr _ e).1; omega), ownsRow_same h.st.mn.said (fun q hq => hg.block q (World.ownsRow.lt h.st.mn.said q hq).2 (fun e => (hr q e.symm).2 hq)), h.st.mn.ne, h.st.mn.cm, h.st.mn.bd⟩, h.st.ec.keep (fun k hk => hg.block k (h.st.ec.lt k hk) (fun e => by have := (hr k e.symm).1; have := hks k hk; omega)), h.st.ap⟩, h.box.grown hg (fun e => by have := (hr _ e).1; omega), h.nx⟩
section
variable {w0 : World} {fs : List Fx} {fv : Value} {M B : Nat}
set_option maxHeartbeats 8000000 in
theorem eval_call (hI : Ix w0 fs fv M B) {g d : Nat} (hG : ∀ g', g' < g → GE w0 fs fv M B g') (hGC : GC w0 fs fv M B g) {w : World} {sv v : Value} {s : Cm} {a : Nat} {segs : List Env} {ks : List Nat} (h : Ist w0 w M B fv sv s a v segs ks) (n : Int) (name : ByteArray) {kids : List Ex} {kv : Value} (hkv : ExsAt w0 kv kids) (hka : ∀ x ∈ kids, exA fs d x) (hk3 : kids.length ≤ 3) {k : Nat} (hfx : fnIx fs name = some k)
    {RL : Rl} (hRL : evL fs g kids segs.flatten s = some RL) {r : Rs} (hr1 : ∀ vs s1, RL = .vals vs s1 → evC fs g k vs s1 = some r) (hr2 : ∀ en s1, RL = .stop en s1 → r = .stop en s1) :
    Calls Tryz.prog 182 #[.pointer (some ⟨M, 0, none⟩), .agg #[.int .i64 13, .int .i64 n, .string name, kv], v] w (XP M B fv sv r w) := by
  obtain ⟨ka, kc, hkf⟩ := hkv.form
  obtain ⟨m, hm⟩ : ∃ m, m = kids.length := ⟨_, rfl⟩
  rw [← hm] at hkf hk3
  subst hkf
  obtain ⟨i0, hi, hz0, hz1, hz2⟩ := info_parts info_int
  obtain ⟨w1, hw1⟩ : ∃ w1, w1 = w.alloc (.cells #[.int .i64 13, .int .i64 n, .string name, .slice ka m kc] 67) := ⟨_, rfl⟩
  obtain ⟨X, hX⟩ : ∃ X, X = w.heap.size := ⟨_, rfl⟩
  have HE : Hid (Ei w0 w M B fv sv a v segs ks [.int .i64 13, .int .i64 n, .string name, .slice ka m kc] sv s w1) := Lib.hid (by rw [hw1]; exact Ei.start h _ _)
  have hX1 : X + 1 ≤ w1.heap.size := by rw [hw1, hX]; simp
  have HMK : Hid (M < w.heap.size ∧ ∀ k ∈ ks, k < w.heap.size) := Lib.hid ⟨h.mn.blk.lt, h.ec.lt⟩
  have HKV := Lib.hid hkv; have HKA := Lib.hid hka; have HM := Lib.hid hm; have HI := Lib.hid hI; have HG := Lib.hid hG; have HGC := Lib.hid hGC; have HFX := Lib.hid hfx; have HRL := Lib.hid hRL; have HR1 := Lib.hid hr1; have HR2 := Lib.hid hr2; have HX := Lib.hid hX; have HX1 := Lib.hid hX1
  have hbx := HE.out.box
  rw [← hX] at hbx
  obtain ⟨z0, z1, z2, z3⟩ := blkc4 hbx
  obtain ⟨V, rfl⟩ := h.ec.ptr
  clear h hkv hka hI hG hGC hfx hRL hr1 hr2 hm hbx hX1
  go_enter Tryz.func182, Tryz.ntmps182
  go_upto_region 14 with (fail)
  rw [← hw1, ← hX]
  clear hw1 hX
  go_wp2_with (fail)
  go_loopw [9, 74] (fun av i wr => ∃ (j : Nat) (us : List Nat), j ≤ m ∧ us.length = j ∧ i = .int .i64 (j : Int) ∧ Hid (∃ (sv1 : Value) (s1 : Cm) (g1 : Nat) (R1 : Rl), Ei w0 w M B fv sv a (.pointer (some ⟨V, 0, none⟩)) segs ks [.int .i64 13, .int .i64 n, .string name, .slice ka m kc] sv1 s1 wr ∧ Ag w M X sv1 av us wr ∧ g1 ≤ g ∧ evL fs g1 (kids.drop j) segs.flatten s1 = some R1 ∧ RL = appL us R1)) (fun _ i _ => m - (intOf i).toNat)
  case atStart => exact ⟨0, [], Nat.zero_le _, rfl, rfl, Lib.hid ⟨sv, s, g, RL, HE.out, ⟨World.ownsRow_nil _ _ _ _, (fun q hq => by cases hq), (fun x hx => by cases hx)⟩, Nat.le_refl _, HRL.out, by cases RL <;> rfl⟩⟩
  case round =>
    obtain ⟨j, us, hj, hul, rfl, HR⟩ := hrel
    obtain ⟨sv1, s1, g1, R1, hE1, hA1, hg1, hev, hRL⟩ := HR.out
    obtain ⟨ava, avc, havf⟩ := rowForm hA1.row
    subst havf
    have hr0 : wr.ownsRow (X + 1) 3 1 (.slice ava j avc) j (nats us) := by
      have := hA1.row
      rwa [hul] at this
    have HR0 := Lib.hid hr0
    rw [hul] at hA1
    clear hr0
    have HE1 := Lib.hid hE1; have HA1 := Lib.hid hA1; have HRLE := Lib.hid hRL; have HUL := Lib.hid hul
    have hbx := hE1.box
    rw [← HX.out] at hbx
    obtain ⟨z0, z1, z2, z3⟩ := blkc4 hbx
    by_cases hlt : j < m
    · have hkl : j < kids.length := by rw [← HM.out]; exact hlt
      obtain ⟨x, hx⟩ : ∃ x, x = kids[j] := ⟨_, rfl⟩
      have hxk : kids[j]? = some x := by rw [hx]; exact List.getElem?_eq_getElem hkl
      rw [List.drop_eq_getElem_cons hkl, ← hx] at hev
      obtain ⟨g2, r1, hgg, hex, hst, hrt⟩ := evL_step hev
      obtain ⟨b', off, kv', rfl, hbl, e0, e1, e2, e3, hkx⟩ := HKV.out.get hxk
      have hbr := hE1.st.b0
      have e0 := cellB hbr e0; have e1 := cellB hbr e1; have e2 := cellB hbr e2; have e3 := cellB hbr e3
      obtain ⟨ya, yc, hyf⟩ := hkx.form
      obtain ⟨yl, hyl⟩ : ∃ l, l = x.kids.length := ⟨_, rfl⟩
      rw [← hyl] at hyf
      subst hyf
      have HC := Lib.hid (HG.out g2 (by omega) d x (.slice ya yl yc) s1 r1 (wr.alloc (.cells #[.int .i64 x.op, .int .i64 x.n, .string x.name, .slice ya yl yc] 67)) sv1 _ a segs ks hex (HKA.out x (List.mem_of_getElem? hxk)) (HKV.out.lens.2 j x hxk) hkx (hE1.below (below1 _ _)).st)
      have HST := Lib.hid hst; have HRT := Lib.hid hrt
      have HG2 : Hid (g2 ≤ g) := Lib.hid (by omega)
      have k0 : (0 : Int) ≤ j := by omega
      have k1 : (j : Int) < m := by omega
      clear hkl hx hxk hev hgg hex hst hrt hkx hyl hbr hbl hE1 hA1 hRL hg1 HR hbx
      go_wp2_with (fail)
      go_at_call 182
      refine HC.out.mono ?_
      rintro e w2 ⟨sv2, hF, hM, hm⟩
      have hE2 := (HE1.out.below (below1 wr _)).step HI.out hF hM
      have HE2 := Lib.hid hE2
      cases r1 with
      | stop en s2 =>
        obtain rfl := hm
        have hrr := HR2.out en s2 (by rw [HRLE.out, HST.out en s2 rfl]; rfl)
        subst hrr
        clear hF hM hE2
        go_wp2_with (fail)
        exact ⟨rfl, HE2.out.stop en⟩
      | ret u s2 =>
        obtain ⟨rfl, hu⟩ := hm
        obtain ⟨R2, hR2, hR2e⟩ := HRT.out u s2 rfl
        have hrow2 : w2.ownsRow (X + 1) 3 1 (.slice ava j avc) j (nats us) := ownsRow_same (HR0.out.alloc _) (fun q hq => by
          have h1 := (World.ownsRow.lt HR0.out q hq)
          exact hF.block (Nat.lt_of_lt_of_le h1.2 (by simp)) (fun e => by have := List.mem_singleton.1 e; have := HMK.out.1; have := h1.1; have := HX.out; omega) (HA1.out.ne q hq))
        have hne2 : ∀ q, (Value.slice ava j avc).ownBlock = some q → sv2.ownBlock ≠ some q ∧ X + 1 ≤ q ∧ q < w2.heap.size := fun q hq => by
          have h1 := World.ownsRow.lt HR0.out q hq
          exact ⟨hF.ne (Nat.lt_of_lt_of_le h1.2 (by simp)) (HA1.out.ne q hq), h1.1, (World.ownsRow.lt hrow2 q hq).2⟩
        have hs2 : ∀ q, sv2.ownBlock = some q → q < w2.heap.size := fun q hq => (World.ownsRow.lt hM.said q hq).2
        have hxs : X + 1 ≤ w2.heap.size := by have h1 := HE1.out.box.lt; have h2 := HX.out; have h3 := hF.size; simp at h3; omega
        have hs1 : us.length + 1 = j + 1 := by rw [HUL.out]
        have HN9 : Hid (∀ (g9 c9 : Nat) (w9 : World), w9.ownsRow (X + 1) 3 1 (.slice (some ⟨g9, 0, none⟩) (j + 1) c9) (j + 1) (nats us ++ [.int .i64 (u : Int)]) → (w2.alloc (.cells #[.int .i64 (u : Int)] 3)).grownBy w9 (Value.slice ava j avc).ownBlock → ((Value.slice ava j avc).ownBlock = some g9 ∨ g9 = (w2.alloc (.cells #[.int .i64 (u : Int)] 3)).heap.size) →
          ∃ (sv1 : Value) (s1 : Cm) (g1 : Nat) (R1 : Rl), Ei w0 w M B fv sv a (.pointer (some ⟨V, 0, none⟩)) segs ks [.int .i64 13, .int .i64 n, .string name, .slice (some ⟨b', off, none⟩) m kc] sv1 s1 w9 ∧ Ag w M X sv1 (.slice (some ⟨g9, 0, none⟩) (j + 1) c9) (us ++ [u]) w9 ∧ g1 ≤ g ∧ evL fs g1 (kids.drop (j + 1)) segs.flatten s1 = some R1 ∧ RL = appL (us ++ [u]) R1) := Lib.hid (fun g9 c9 w9 ho9 hg9 hat9 => by
            refine ⟨sv2, s2, g2, R2, (HE2.out.below (below1 w2 _)).grown HI.out HMK.out.1 HMK.out.2 hg9 (fun z hz => ⟨by have := (hne2 z hz).2.1; have := HX.out; omega, (hne2 z hz).1⟩), ⟨?_, fun q hq => ?_, HA1.out.small.snoc u hu⟩, HG2.out, hR2, ?_⟩
            · have e1 : (us ++ [u]).length = j + 1 := by simp [HUL.out]
              have e2 : nats (us ++ [u]) = nats us ++ [.int .i64 (u : Int)] := by simp [nats]
              rw [e1, e2]; exact ho9
            · simp [Value.ownBlock] at hq
              subst hq
              rcases hat9 with e | e
              · exact (hne2 _ e).1
              · intro e2
                have := hs2 _ e2
                rw [e] at this
                simp at this
                omega
            · rw [HRLE.out, hR2e, appL_app])
        have HROW2 := Lib.hid hrow2
        clear hF hM hE2 hrow2 hne2 hs2 hR2 hR2e hs1
        go_wp2_with (at_builtin; refine wpList_append_lies _ rfl (.tmp 78) (.tmp 83) 26 (by rfl) (X + 1) 3 i0 _ 1 8 Tryz.underlying26 hi hz0 hz1 hz2 rfl (by decide) _ j (nats us) (by rfl) (HROW2.out.alloc _) ⟨w2.heap.size, 0, none⟩ 1 1 [.int .i64 (u : Int)] (by rfl) rfl (World.news_of_block (heap_alloc_new _ _)) (by simp [Value.oneCell']) (by decide) (by unfold maxLen; omega) (by omega) (by simp; omega) _ rfl ?_; intro g9 c9 w9 ho9 hg9 hat9 _; have H9 := Lib.hid (HN9.out g9 c9 w9 ho9 hg9 hat9); clear ho9 hg9 hat9)
        go_roundw
        case rel => exact ⟨j + 1, us ++ [u], by omega, by simp [HUL.out], by go_num, H9⟩
        case measure => simp [intOf]; omega
    · have hje : j = m := by omega
      have hd : kids.drop j = [] := by rw [hje, HM.out]; exact List.drop_length
      rw [hd] at hev
      have hR1 := evL_nil hev
      have HEVC : Hid (evC fs g k us s1 = some r) := Lib.hid (HR1.out us s1 (by rw [HRLE.out, hR1]; simp [appL]))
      have HNA : Hid (∀ W, Below wr.heap.size wr W → NAt W (.slice ava j avc) us) := Lib.hid (fun W hb => by
        have := HR0.out
        rw [← HUL.out] at this ⊢
        exact (NAt.of_own this).below hb)
      have HFF : Hid (FxsAt wr.drew fv fs) := Lib.hid (HI.out.at0.below (HE1.out.st.b0.trans ((Below.refl _ wr).drew.mono HE1.out.st.b0.size)))
      have HIX : Hid (idxI (fnIx fs name) = (k : Int)) := Lib.hid (by rw [HFX.out]; rfl)
      obtain ⟨m0, m1, m2, m3⟩ := HE1.out.st.mn.cells
      have hsd : CalS X M name fv wr.drew := ⟨z2, m0⟩
      clear hje hd hev hR1 hE1 hA1 hRL hg1 HR hbx
      cases r with
      | stop en s2 =>
        have HEV : Hid (evC fs g k us s1 = some (.stop en s2)) := HEVC
        go_upto_region 20 with (fail)
        refine wp_region_chain (CalS X M name fv) [(0, false), (1, false), (2, false), (3, false), (4, true), (5, false), (6, true), (8, false)] [7, 9, 10] 10 (by kernel_rfl) (by kernel_rfl) (fun d v c a w h => by cases d <;> exact h) hsd ?_
        simp only [pickO, List.map_cons, List.map_nil, List.getD_cons_zero, List.getD_cons_succ]
        iterate 8
          first
          | (refine heldO_stepY (v := ?_) rfl ?_ ?_
             rotate_left
             · intro W
               go_simp
               try rfl
             simp only [Act.put, List.setIfInBounds_toArray, List.set_cons_zero, List.set_cons_succ])
          | (refine heldO_step (v := ?_) rfl ?_ ?_
             rotate_left
             · intro W hS
               obtain ⟨y0, y1⟩ := hS
               go_simp
               try rfl
             simp only [Act.put, List.setIfInBounds_toArray, List.set_cons_zero, List.set_cons_succ])
        refine heldO_nil ?_
        refine tailO_step rfl (fun K hK => ?_)
        go_simp
        refine (fnAt_any _ fs fv name HFF.out).mono ?_
        rintro e w3 ⟨rfl, hb3⟩
        rw [HIX.out]
        have hs3 : CalS X M name fv w3 := ⟨cellB hb3 hsd.1, cellB hb3 hsd.2⟩
        have HB3 : Hid (Below wr.heap.size wr w3) := Lib.hid ((Below.refl _ wr).drew.trans hb3)
        clear hb3
        refine hK _ _ (.inr hs3) ?_
        clear hK K
        refine tailO_step rfl (fun K hK => ?_)
        go_simp
        refine (HGC.out k _ us s1 _ w3 sv1 HEV.out (HE1.out.below HB3.out).st.b0 (HE1.out.below HB3.out).st.mn (HNA.out w3 HB3.out) HA1.out.small).mono ?_
        rintro e w4 ⟨sv4, hF4, hM4, rfl⟩
        have HE4 := Lib.hid ((HE1.out.below HB3.out).step HI.out hF4 hM4)
        have hs4 : CalS X M name fv w4 := ⟨(blkc4 (by have := HE4.out.box; rwa [← HX.out] at this)).2.2.1, hM4.cells.1⟩
        clear hF4 hM4
        exact ⟨rfl, HE4.out.stop en⟩
      | ret u s2 =>
        have HEV : Hid (evC fs g k us s1 = some (.ret u s2)) := HEVC
        go_upto_region 20 with (fail)
        refine wp_region_chain (CalS X M name fv) [(0, false), (1, false), (2, false), (3, false), (4, true), (5, false), (6, true), (8, false)] [7, 9, 10] 10 (by kernel_rfl) (by kernel_rfl) (fun d v c a w h => by cases d <;> exact h) hsd ?_
        simp only [pickO, List.map_cons, List.map_nil, List.getD_cons_zero, List.getD_cons_succ]
        iterate 8
          first
          | (refine heldO_stepY (v := ?_) rfl ?_ ?_
             rotate_left
             · intro W
               go_simp
               try rfl
             simp only [Act.put, List.setIfInBounds_toArray, List.set_cons_zero, List.set_cons_succ])
          | (refine heldO_step (v := ?_) rfl ?_ ?_
             rotate_left
             · intro W hS
               obtain ⟨y0, y1⟩ := hS
               go_simp
               try rfl
             simp only [Act.put, List.setIfInBounds_toArray, List.set_cons_zero, List.set_cons_succ])
        refine heldO_nil ?_
        refine tailO_step rfl (fun K hK => ?_)
        go_simp
        refine (fnAt_any _ fs fv name HFF.out).mono ?_
        rintro e w3 ⟨rfl, hb3⟩
        rw [HIX.out]
        have hs3 : CalS X M name fv w3 := ⟨cellB hb3 hsd.1, cellB hb3 hsd.2⟩
        have HB3 : Hid (Below wr.heap.size wr w3) := Lib.hid ((Below.refl _ wr).drew.trans hb3)
        clear hb3
        refine hK _ _ (.inr hs3) ?_
        clear hK K
        refine tailO_step rfl (fun K hK => ?_)
        go_simp
        refine (HGC.out k _ us s1 _ w3 sv1 HEV.out (HE1.out.below HB3.out).st.b0 (HE1.out.below HB3.out).st.mn (HNA.out w3 HB3.out) HA1.out.small).mono ?_
        rintro e w4 ⟨sv4, hF4, hM4, rfl, hz4⟩
        have HE4 := Lib.hid ((HE1.out.below HB3.out).step HI.out hF4 hM4)
        have hs4 : CalS X M name fv w4 := ⟨(blkc4 (by have := HE4.out.box; rwa [← HX.out] at this)).2.2.1, hM4.cells.1⟩
        clear hF4 hM4
        refine hK _ _ (.inr hs4) ?_
        clear hK K
        refine tailO_step rfl (fun K hK => ?_)
        go_simp
        refine hK _ _ (.inl rfl) (tailO_nil ?_)
        clear hK K
        go_wp2_with (fail)
        go_ret
        exact HE4.out.ret hz4
end
end Go.Proofs.YtpnliencahnmoaaGreatDoor
