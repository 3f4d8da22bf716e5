/- Bytes as numbers: mapped over bytes with decoded's closure. One instruction of bytes, on impl's side: decoded. Where an instruction begins, kept in a map: what a look-up finds. What impl's decoder has so far. No program in sight but types. -/
import Derived.Test.YtbdbmmdnidonjaaDoorUJu
import Derived.Test.YtbdbmmdnidonjaaDoorUJt
import Derived.Maps.OwnOps
import Derived.Deep.RegionHeld3
import Derived.Deep.QuietTactic
import Derived.Test.YtbdbmmdnidonjaaDoorUJq
import Derived.Maps.OwnSet
set_option linter.unusedVariables false
set_option linter.unusedSimpArgs false
set_option maxRecDepth 100000
namespace Go.Proofs.YtbdbmmdnidonjaaDoor
open Go.RowKit
theorem byteInt_any (w : World) (b : Nat) (hb : b < 256) : Calls Tryd.prog 145 #[.int .u8 (b : Int)] w fun e w' => e = .returned (.int .i64 (b : Int)) ∧ w = w' := by
 have hw : IntKind.i64.wrap (b : Int) = (b : Int) := IntWalk.i64_in _ (by omega)
 clear hb
 go_enter Tryd.func145, Tryd.ntmps145
 go_wp2_with (fail)
 go_ret
 exact ⟨rfl, rfl⟩
def MapP (cs : List Nat) (w : World) (e : Ending) (w' : World) : Prop :=
 ∃ v, e = .returned v ∧ w'.ownsRow w.heap.size 3 1 v cs.length (nats cs) ∧ Below w.heap.size w w'
theorem nats_take (cs : List Nat) (k : Nat) (hk : k < cs.length) : nats (cs.take (k + 1)) = nats (cs.take k) ++ [.int .i64 ((byteN cs k : Nat) : Int)] := by
 rw [take_byte hk]
 simp only [nats, List.map_append, List.map_cons, List.map_nil]
set_option maxHeartbeats 4000000 in
theorem mapped_any (w : World) (v : Value) (cs : List Nat) (h : CsAt w v cs) (hle : cs.length ≤ 1048576) :
  Calls Tryd.prog 144 #[v, .func (.func 145) #[] #[]] w (MapP cs w) := by
 obtain ⟨i0, hi, hz0, hz1, hz2⟩ := info_parts info_int
 obtain ⟨a, cap, rfl, hsm, hc⟩ := h
 obtain ⟨n, hn⟩ : ∃ n, n = cs.length := ⟨_, rfl⟩
 have HC : Hid (∀ i, i < n → ∃ g off, a = some ⟨g, off, none⟩ ∧ w.cell? ⟨g, off + i, none⟩ = some (.int .u8 ((byteN cs i : Nat) : Int))) := Lib.hid (by rw [hn]; exact hc)
 have HS : Hid (∀ i, byteN cs i < 256) := Lib.hid (fun i => byteN_lt hsm i)
 have HQ : Hid (∀ v w', w'.ownsRow w.heap.size 3 1 v n (nats (cs.take n)) → Below w.heap.size w w' → MapP cs w (.returned v) w') := Lib.hid (fun v w' h1 h2 => by
  subst hn
  rw [List.take_length] at h1
  exact ⟨v, rfl, h1, h2⟩)
 have HTK : Hid (∀ k, k < n → nats (cs.take (k + 1)) = nats (cs.take k) ++ [.int .i64 ((byteN cs k : Nat) : Int)]) := Lib.hid (fun k hk => nats_take cs k (by omega))
 obtain ⟨Q, hQ⟩ : ∃ Q, Q = MapP cs w := ⟨_, rfl⟩
 rw [← hQ] at HQ ⊢
 rw [← hn] at hle ⊢
 clear hc hsm hn hQ
 go_enter Tryd.func144, Tryd.ntmps144
 go_wp2_with (fail)
 go_loopw [5, 10] (fun ov iv wr => ∃ k : Nat, k ≤ n ∧ iv = .int .i64 (k : Int) ∧ Hid (wr.ownsRow w.heap.size 3 1 ov k (nats (cs.take k))) ∧ Hid (Below w.heap.size w wr)) (fun _ iv _ => n - (intOf iv).toNat)
 case atStart => exact ⟨0, Nat.zero_le _, rfl, Lib.hid (World.ownsRow_nil _ _ _ _), Lib.hid (Below.refl _ _)⟩
 case round =>
  obtain ⟨k, hk, rfl, HR, HB⟩ := hrel
  obtain ⟨wo, rfl⟩ : ∃ wo : World, wo = wr := ⟨_, rfl⟩
  by_cases hlt : k < n
  ·have k0 : (0 : Int) ≤ k := by omega
   have k1 : (k : Int) < n := by omega
   obtain ⟨g, off, rfl, c0⟩ := HC.out k hlt
   have t0 := cellB HB.out c0
   obtain ⟨b, hb⟩ : ∃ b, b = byteN cs k := ⟨_, rfl⟩
   have hb6 : b < 256 := by rw [hb]; exact HS.out k
   rw [← hb] at t0
   have HBI := Lib.hid (fun w' => byteInt_any w' b hb6)
   have HT := Lib.hid (HTK.out k hlt)
   rw [← hb] at HT
   have hsz := HB.out.size
   clear c0 hb
   go_wp2_with (fail)
   go_at_call 145
   refine (HBI.out _).mono ?_
   rintro e _ ⟨rfl, rfl⟩
   go_wp2_with (first | (at_builtin; refine wpList_append_own _ rfl _ _ 26 (by rfl) w.heap.size 3 i0 (.int .i64 0) 1 8 Tryd.underlying26 hi hz0 hz1 hz2 rfl (by decide) _ k _ (by rfl) (HR.out.alloc _) ⟨wo.heap.size, 0, none⟩ 1 1 [.int .i64 (b : Int)] (by rfl) rfl (World.news_of_block (heap_alloc_new wo _)) (by simp [Value.oneCell']) (by unfold maxLen; omega) (by omega) (by simp; omega) ?_; intro v2 w2 ho2 hg2 _; have HO2 := Lib.hid ho2; have HB2 := Lib.hid ((HB.out.alloc hsz _).grown hg2 (by simp; omega) (fun q hq => ownBlock_of HR.out q hq)); clear ho2 hg2) | fail)
   go_roundw
   case rel => exact ⟨k + 1, by omega, by go_num, Lib.hid (by rw [HT.out]; exact HO2.out), HB2⟩
   case measure => simp [intOf]; omega
  ·obtain rfl : n = k := by omega
   go_wp2_with (fail)
   exact HQ.out _ _ HR.out HB.out
end Go.Proofs.YtbdbmmdnidonjaaDoor
set_option maxRecDepth 100000
namespace Go.Proofs.YtbdbmmdnidonjaaDoor
open Go.RowKit
open Go.Maps (Keyed)
theorem wpList_insert_own {H : Type} {P : Program} (w : World) {ops : Array Oper} {rest : List Oper} {o : Oper} {a : Act} {Q : Exit → Act → World → Prop}
  (hg : o.guard = none) (m x v : Operand) (t : TypeId) (hop : o.op = Op.insert t m x v)
  (k e : TypeId) (K : Keyed P k) (ht : P.underlying t = some (.map k e)) (R : Value → Option (DataW H × List MemPlace)) (b n : Nat) (D : DataW H)
  (hm : a.eval m = .map (some b)) (hown : w.ownsMap P k R b n D) (hn : n < maxLen) (key val : Value) (kl : Lit) (hx : a.eval x = key) (hv : a.eval v = val) (hkey : keyOf P k key = some kl)
  (d : DataW H) (ps : List MemPlace) (hval : R val = some (d, ps))
  (hK : ∀ w', w'.ownsMap P k R b (n + 1) (D.put kl d) → w.grownBy w' (some b) → wpList P ops Q rest (a.put o.dst undef) w') :
  wpList P ops Q (o :: rest) a w := by
 refine wpList_plain hg fun K' hK' => ?_
 obtain ⟨w', hrun, r1, r2⟩ := hown.update K ht hn hkey hval
 unfold Oper.wp
 simp [execOp, hop, hm, hx, hv, hrun, Result.andThen]
 exact hK' _ _ (hK w' r1 r2)
def tabN (sh : Nat) : Nat := if sh = 0 ∨ sh = 2 then 3 else 2
theorem shape_keyed : Keyed Tryd.prog 188 := Go.Maps.int_keyed Tryd.underlying188
theorem zero_int (w : World) : (zeroValue 3).run Tryd.prog w = .ok (.int .i64 0) w := by kernel_rfl
def tabD : DataW Unit := ((((((DataW.map []).put (.int .i64 0) (.lit (.int .i64 3))).put (.int .i64 1) (.lit (.int .i64 2))).put (.int .i64 2) (.lit (.int .i64 3))).put (.int .i64 3) (.lit (.int .i64 2))).put (.int .i64 4) (.lit (.int .i64 2))).put (.int .i64 5) (.lit (.int .i64 2))
theorem tab_eval {sh : Nat} (hs : sh ≤ 5) : tabD.atKey (.int .i64 (sh : Int)) (.lit (.int .i64 0)) = .lit (.int .i64 ((tabN sh : Nat) : Int)) := by
 have hcc : sh = 0 ∨ sh = 1 ∨ sh = 2 ∨ sh = 3 ∨ sh = 4 ∨ sh = 5 := by omega
 rcases hcc with rfl | rfl | rfl | rfl | rfl | rfl
 all_goals rfl
theorem tab_at {sh : Nat} {c : Int} (hs : sh ≤ 5) (h : tabD.atKey (.int .i64 (sh : Int)) (.lit (.int .i64 0)) = .lit (.int .i64 c)) : c = (tabN sh : Int) := by
 rw [tab_eval hs] at h
 simp only [DataW.lit.injEq, Lit.int.injEq, true_and] at h
 exact h.symm
theorem shN_le (op : Nat) : shN op ≤ 5 := by unfold shN; (repeat' split) <;> omega
theorem sizO_tab {op : Nat} {lg : Bool} (h : (!lg || jmpN op) = true) : sizO op lg = tabN (shN op) + (if op = 21 then 1 else 0) + (if lg then 1 else 0) := by
 unfold sizO sizN
 cases hj : jmpN op with
 |true =>
  have hop : op = 20 ∨ op = 21 := by
   unfold jmpN at hj
   simpa only [Bool.or_eq_true, beq_iff_eq] using hj
  rcases hop with rfl | rfl <;> cases lg <;> rfl
 |false =>
  have hl : lg = false := by rw [hj] at h; simpa using h
  subst hl
  have h21 : op ≠ 21 := by intro e; subst e; simp [jmpN] at hj
  simp only [hj, Bool.false_eq_true, if_false]
  rw [if_neg h21]
  unfold encB tabN
  have hle := shN_le op
  have h5 : shN op ≠ 5 := by
   intro e
   unfold shN at e
   unfold jmpN at hj
   simp at hj
   repeat' split at e
   all_goals omega
  simp only []
  repeat' split
  all_goals first | rfl | (simp; done) | omega
theorem add_zero (a : Option Addr) : a.map (·.add 0) = a := by cases a <;> simp [Addr.add]
theorem slice_h {a : Option Addr} {L cap n : Nat} (hn : n ≤ L) (hL : L ≤ cap) : ∀ w', (Instr.slice 22 (.slice a L cap) none (some (.int .i64 (n : Int))) none).run Tryd.prog w' = .ok (.slice a n cap) w' := fun w' => by
 rw [run_slice_h w' 22 a L cap und_u8 .i64 _ (by omega) (by omega), elem_u8, size_u8]
 show Result.ok _ w' = _
 unfold sliced
 simp only [Int.toNat_natCast, Nat.zero_mul, Nat.sub_zero, add_zero, ite_self]
theorem bel5 {B q : Nat} {a w : World} (h : Below B a w) (hq : B ≤ q) (u0 u1 u2 u3 u4 : Value) : Below B a (((((w.setCell ⟨q, 0, none⟩ u0).setCell ⟨q, 1, none⟩ u1).setCell ⟨q, 2, none⟩ u2).setCell ⟨q, 3, none⟩ u3).setCell ⟨q, 4, none⟩ u4) :=
 ((((h.setCell (p := ⟨q, 0, none⟩) hq _).setCell (p := ⟨q, 1, none⟩) hq _).setCell (p := ⟨q, 2, none⟩) hq _).setCell (p := ⟨q, 3, none⟩) hq _).setCell (p := ⟨q, 4, none⟩) hq _
theorem sh_op {op : Nat} (h1 : 1 ≤ op) (h2 : op ≤ 22) : (shN op = 5 ∧ (op = 20 ∨ op = 21)) ∨ (shN op ≠ 5 ∧ jmpN op = false ∧ op ≠ 21 ∧ op ≠ 20) := by
 have hcc : op = 1 ∨ op = 2 ∨ op = 3 ∨ op = 4 ∨ op = 5 ∨ op = 6 ∨ op = 7 ∨ op = 8 ∨ op = 9 ∨ op = 10 ∨ op = 11 ∨ op = 12 ∨ op = 13 ∨ op = 14 ∨ op = 15 ∨ op = 16 ∨ op = 17 ∨ op = 18 ∨ op = 19 ∨ op = 20 ∨ op = 21 ∨ op = 22 := by omega
 rcases hcc with rfl | rfl | rfl | rfl | rfl | rfl | rfl | rfl | rfl | rfl | rfl | rfl | rfl | rfl | rfl | rfl | rfl | rfl | rfl | rfl | rfl | rfl
 all_goals decide
theorem csAt_prefix {w : World} {a : Option Addr} {cs : List Nat} {at_ R n cap : Nat} (h : ∀ i, i < R → ∃ g off, a = some ⟨g, off, none⟩ ∧ w.cell? ⟨g, off + i, none⟩ = some (.int .u8 ((byteN cs (at_ + i) : Nat) : Int))) (hn : n ≤ R) (hR : at_ + R ≤ cs.length) (hs : ∀ x ∈ cs, x < 256) : CsAt w (.slice a n cap) (cutN cs at_ n) := by
 have hl : (cutN cs at_ n).length = n := cutN_len (by omega)
 refine ⟨a, cap, by rw [hl], cutN_small hs _ _, fun i hi => ?_⟩
 rw [hl] at hi
 obtain ⟨g, off, h1, h2⟩ := h i (by omega)
 exact ⟨g, off, h1, by rw [cutN_byte _ _ _ _ hi]; exact h2⟩
theorem nats_byte {cs : List Nat} {at_ n i : Nat} (hR : at_ + n ≤ cs.length) (hi : i < n) : (nats (cutN cs at_ n))[i]? = some (.int .i64 ((byteN cs (at_ + i) : Nat) : Int)) := by
 rw [nats_get (by rw [cutN_len hR]; exact hi), ← cutN_byte cs at_ n i hi]
 rfl
theorem i8_wrap (b : Nat) (h : b < 256) : IntKind.i8.wrap (b : Int) = sgnN b := by
 unfold IntKind.wrap sgnN
 simp [IntKind.bits, IntKind.signed]
 split <;> omega
theorem sgnN_le {b : Nat} (h : b < 256) : -128 ≤ sgnN b ∧ sgnN b ≤ 127 := by unfold sgnN; split <;> omega
def IdecP (cs : List Nat) (at_ : Nat) (w : World) (e : Ending) (w' : World) : Prop :=
 ∃ (o a b c z : Int) (n : Nat), e = .returned (.tuple #[.agg #[.int .i64 o, .int .i64 a, .int .i64 b, .int .i64 c, .int .i64 z], .int .i64 (n : Int)]) ∧ (oneN cs at_ = some (⟨o, a, b, c, z⟩, n) ∨ (oneN cs at_ = none ∧ n = 0)) ∧ Below w.heap.size w w'
end Go.Proofs.YtbdbmmdnidonjaaDoor
set_option maxRecDepth 100000
namespace Go.Proofs.YtbdbmmdnidonjaaDoor
open Go.RowKit
open Go.Maps (Keyed)
theorem int_keyed3 : Keyed Tryd.prog 3 := Go.Maps.int_keyed Tryd.underlying3
def plcD (ps : List Nat) : DataW Unit := ps.zipIdx.foldl (fun m p => m.put (.int .i64 (p.1 : Int)) (.lit (.int .i64 (p.2 : Int)))) (.map [])
theorem plcD_snoc (ps : List Nat) (p : Nat) : plcD (ps ++ [p]) = (plcD ps).put (.int .i64 (p : Int)) (.lit (.int .i64 (ps.length : Int))) := by
 unfold plcD
 rw [List.zipIdx_append, List.foldl_append]
 simp
theorem plcD_isMap : ∀ ps : List Nat, Maps.IsMap (plcD ps) := by
 intro ps
 unfold plcD
 have key : ∀ (l : List (Nat × Nat)) (m : DataW Unit), Maps.IsMap m → Maps.IsMap (l.foldl (fun m p => m.put (.int .i64 (p.1 : Int)) (.lit (.int .i64 (p.2 : Int)))) m) := by
  intro l
  induction l with
  |nil => intro m h; exact h
  |cons p l ih =>
   intro m h
   refine ih _ ?_
   obtain ⟨es, rfl⟩ := h
   exact ⟨_, rfl⟩
 exact key _ _ ⟨[], rfl⟩
theorem atN_snoc {ps : List Nat} {p : Nat} {z : Int} : atN (ps ++ [p]) z = if 0 ≤ atN ps z then atN ps z else if (p : Int) = z then (ps.length : Int) else -1 := by
 unfold atN
 rw [List.findIdx?_append]
 cases h : ps.findIdx? (fun (p : Nat) => decide ((p : Int) = z)) with
 |some i => simp
 |none =>
  simp only [List.findIdx?_cons, List.findIdx?_nil]
  by_cases e : (p : Int) = z
  ·simp [e]
  ·simp [e]
theorem atN_ge (ps : List Nat) (z : Int) : -1 ≤ atN ps z := by
 rcases atN_or ps z with h | ⟨k, _, h, _, _⟩
 ·omega
 ·omega
theorem atN_none {ps : List Nat} {z : Int} (h : ∀ p ∈ ps, (p : Int) ≠ z) : atN ps z = -1 := by
 rcases atN_or ps z with h' | ⟨k, p, _, h1, h2⟩
 ·exact h'
 ·exact absurd h2 (h p (List.mem_of_getElem? h1))
/-- what a look-up finds -/
def Looks (D : DataW Unit) (ps : List Nat) : Prop := ∀ z : Int, (atN ps z = -1 ∧ Maps.has D (.int .i64 z) = false) ∨ (∃ k : Nat, atN ps z = (k : Int) ∧ k < ps.length ∧ Maps.has D (.int .i64 z) = true ∧ ∀ d, D.atKey (.int .i64 z) d = .lit (.int .i64 (k : Int)))
theorem looks_nil : Looks (plcD []) [] := fun z => .inl ⟨by simp [atN], rfl⟩
theorem looks_snoc {ps : List Nat} {p : Nat} (h : Looks (plcD ps) ps) (hp : ∀ q ∈ ps, q < p) : Looks (plcD (ps ++ [p])) (ps ++ [p]) := by
 intro z
 rw [plcD_snoc, atN_snoc]
 by_cases e : (p : Int) = z
 ·have hn : atN ps z = -1 := atN_none fun q hq => by have := hp q hq; omega
  right
  refine ⟨ps.length, ?_, by simp, ?_, fun d => ?_⟩
  ·rw [hn, if_neg (by omega), if_pos e]
  ·rw [← e]; exact Maps.has_put_same (plcD_isMap ps) (show WideAt.IsKeyLit (.int .i64 _) from trivial) _
  ·rw [← e]; exact Maps.atKey_put_same (plcD_isMap ps) (show WideAt.IsKeyLit (.int .i64 _) from trivial) _ _
 ·have hk : (Lit.int .i64 z) ≠ (Lit.int .i64 (p : Int)) := fun h => by injection h with _ h; exact e h.symm
  rcases h z with ⟨h1, h2⟩ | ⟨k, h1, h2, h3, h4⟩
  ·left
   refine ⟨?_, ?_⟩
   ·rw [h1, if_neg (by omega), if_neg e]
   ·rw [Maps.has_put_other hk]; exact h2
  ·right
   refine ⟨k, ?_, by simp; omega, ?_, fun d => ?_⟩
   ·rw [h1, if_pos (by omega)]
   ·rw [Maps.has_put_other hk]; exact h3
   ·rw [Maps.atKey_put_other hk]; exact h4 d
/-- F: the block of the function; M: the block of the map; B: from where on rows are owned -/
structure DiS (B F M : Nat) (p s : Int) (w2 w : World) (iv : Value) (xs : List Mi) (ps : List Nat) : Prop where
 fb : Blk w F [.int .i64 p, .int .i64 s, iv]
 ins : OwnIns B w iv xs
 mp : w.ownsMap Tryd.prog 3 (plainElem Tryd.prog 3) M ps.length (plcD ps)
 only : Only [F, M] w2 w
 low : F < B ∧ M < B ∧ F ≠ M
 base : B = w2.heap.size
theorem ownsMap_same {w w' : World} {k : TypeId} {R : Value → Option (DataW Unit × List MemPlace)} {b n : Nat} {D : DataW Unit} (h : w.ownsMap Tryd.prog k R b n D) (hb : w'.heap[b]? = w.heap[b]?) : w'.ownsMap Tryd.prog k R b n D := by
 obtain ⟨es, clock, h1, r⟩ := h
 exact ⟨es, clock, by rw [hb]; exact h1, r⟩
theorem DiS.below {B F M : Nat} {p s : Int} {w2 w w' : World} {iv : Value} {xs : List Mi} {ps : List Nat} (h : DiS B F M p s w2 w iv xs ps) (hb : Below w.heap.size w w') : DiS B F M p s w2 w' iv xs ps :=
 ⟨h.fb.below hb, h.ins.only (Only.of_below hb []) (by simp), ownsMap_same h.mp (hb.block _ h.mp.lt), h.only.trans (Only.of_below hb _), h.low, h.base⟩
theorem DiS.c3 {B F M : Nat} {p s : Int} {w2 w : World} {iv : Value} {xs : List Mi} {ps : List Nat} (h : DiS B F M p s w2 w iv xs ps) :
  w.cell? ⟨F, 0, none⟩ = some (.int .i64 p) ∧ w.cell? ⟨F, 1, none⟩ = some (.int .i64 s) ∧ w.cell? ⟨F, 2, none⟩ = some iv ∧ w.frozen? ⟨F, 2, none⟩ = false := by
 obtain ⟨a, b, c⟩ := c3_of h.fb
 exact ⟨a, b, c, h.fb.frozen 2⟩
theorem DiS.size {B F M : Nat} {p s : Int} {w2 w : World} {iv : Value} {xs : List Mi} {ps : List Nat} (h : DiS B F M p s w2 w iv xs ps) : B ≤ w.heap.size := by have := h.only.size; have := h.base; omega
/-- behind the append of an instruction, ahead of the store -/
theorem DiS.app {B F M : Nat} {p s : Int} {w2 w w6 : World} {iv v6 : Value} {xs : List Mi} {ps : List Nat} {ys : List Value} {y0 y1 y2 y3 y4 : Int} (h : DiS B F M p s w2 w iv xs ps) (hy : w.ownsRow B 124 5 iv xs.length ys) (hx : ∀ i x, xs[i]? = some x → MiIn ys i x)
  (ho : w6.ownsRow B 124 5 v6 (xs.length + 1) (ys ++ [.int .i64 y0, .int .i64 y1, .int .i64 y2, .int .i64 y3, .int .i64 y4])) (hg : w.grownBy w6 iv.ownBlock) :
  Blk w6 F [.int .i64 p, .int .i64 s, iv] ∧ DiS B F M p s w2 (w6.setCell ⟨F, 2, none⟩ v6) v6 (xs ++ [⟨y0, y1, y2, y3, y4⟩]) ps := by
 have hn : iv.ownBlock ≠ some F := fun e => by have := (World.ownsRow.lt hy _ e).1; have := h.low; omega
 have hnM : some M ≠ iv.ownBlock := fun e => by have := (World.ownsRow.lt hy _ e.symm).1; have := h.low; omega
 have hf := h.fb.grown hg hn
 have hs : Only [F] w6 (w6.setCell ⟨F, 2, none⟩ v6) := (Only.refl [F] w6).setCell (p := ⟨F, 2, none⟩) (by simp) _
 have hlo : ∀ b ∈ [F], b < B := fun b hb => by have := List.mem_singleton.1 hb; have := h.low; omega
 refine ⟨hf, hf.set 2 _, ?_, ?_, ?_, h.low, h.base⟩
 ·exact (OwnIns.snoc hx hy.1 ho).only hs hlo
 ·exact (h.mp.kept hg hnM).setCell (fun e => h.low.2.2 e.symm) _
 ·refine (h.only.grown hg (fun k hk => by have := (World.ownsRow.lt hy k hk).1; have := h.base; omega)).trans (hs.mono (by simp))
/-- behind the store into the map -/
theorem DiS.upd {B F M n : Nat} {p s : Int} {w2 w w6 : World} {iv : Value} {xs : List Mi} {ps : List Nat} {z : Nat} (h : DiS B F M p s w2 w iv xs ps) (hn : n = ps.length)
  (ho : w6.ownsMap Tryd.prog 3 (plainElem Tryd.prog 3) M (n + 1) ((plcD ps).put (.int .i64 (z : Int)) (.lit (.int .i64 (n : Int))))) (hg : w.grownBy w6 (some M)) : DiS B F M p s w2 w6 iv xs (ps ++ [z]) := by
 subst hn
 have hlow := h.low
 obtain ⟨ys, hy, hx⟩ := h.ins
 refine ⟨h.fb.grown hg (fun e => by injection e with e; omega), ⟨ys, hy.kept hg ?_, hx⟩, ?_, ?_, hlow, h.base⟩
 ·rcases h1 : iv.ownBlock with _ | q
  ·exact .inl rfl
  ·right
   intro e
   injection e with e
   have := (World.ownsRow.lt hy q h1).1
   omega
 ·rw [List.length_append, List.length_singleton, plcD_snoc]; exact ho
 ·exact h.only.trans ⟨hg.os, hg.tape, hg.output, hg.size, fun k hk hn => hg.block k hk (fun e => by injection e with e; subst e; exact hn (by simp))⟩
/-- the N of an instruction is stored -/
theorem DiS.set {B F M : Nat} {p s : Int} {w2 w : World} {g n ic : Nat} {xs : List Mi} {ps : List Nat} (h : DiS B F M p s w2 w (.slice (some ⟨g, 0, none⟩) n ic) xs ps) (hn : xs.length = n) {k : Nat} {x : Mi} (hk : xs[k]? = some x) (z : Int) :
  DiS B F M p s w2 (w.setCell ⟨g, k * 5 + 4, none⟩ (.int .i64 z)) (.slice (some ⟨g, 0, none⟩) n ic) (xs.set k ⟨x.op, x.a, x.b, x.c, z⟩) ps := by
 subst hn
 obtain ⟨ys, hy, hx⟩ := h.ins
 have hg := (ownsRow_lt hy).2.1
 have hlow := h.low
 have hkl := idx_lt hk
 refine ⟨h.fb.other (by simp only []; omega) _, ⟨ys.set (k * 5 + 4) (.int .i64 z), ?_, fun i y hi => ?_⟩, h.mp.setCell (by simp only []; omega) _, h.only.setCellNew (by have := h.base; simp only []; omega) _, hlow, h.base⟩
 ·rw [List.length_set]; exact (hy.stored (k * 5 + 4) _).1
 ·by_cases e : i = k
  ·subst e
   have hy' : y = ⟨x.op, x.a, x.b, x.c, z⟩ := by
    rw [List.getElem?_set_self hkl] at hi
    exact (Option.some.inj hi).symm
   subst hy'
   obtain ⟨h0, h1, h2, h3, h4⟩ := hx i x hk
   have := idx_lt h4
   refine ⟨?_, ?_, ?_, ?_, ?_⟩
   ·rw [List.getElem?_set_ne (by omega)]; exact h0
   ·rw [List.getElem?_set_ne (by omega)]; exact h1
   ·rw [List.getElem?_set_ne (by omega)]; exact h2
   ·rw [List.getElem?_set_ne (by omega)]; exact h3
   ·rw [List.getElem?_set_self this]
  ·rw [List.getElem?_set_ne (fun h => e h.symm)] at hi
   obtain ⟨h0, h1, h2, h3, h4⟩ := hx i y hi
   unfold MiIn
   rw [List.getElem?_set_ne (by omega), List.getElem?_set_ne (by omega), List.getElem?_set_ne (by omega), List.getElem?_set_ne (by omega), List.getElem?_set_ne (by omega)]
   exact ⟨h0, h1, h2, h3, h4⟩
theorem DiS.cells {B F M : Nat} {p s : Int} {w2 w : World} {g n ic : Nat} {xs : List Mi} {ps : List Nat} (h : DiS B F M p s w2 w (.slice (some ⟨g, 0, none⟩) n ic) xs ps) (hn : xs.length = n) {k : Nat} {x : Mi} (hk : xs[k]? = some x) :
  w.cell? ⟨g, k * 5, none⟩ = some (.int .i64 x.op) ∧ w.cell? ⟨g, k * 5 + 1, none⟩ = some (.int .i64 x.a) ∧ w.cell? ⟨g, k * 5 + 2, none⟩ = some (.int .i64 x.b) ∧ w.cell? ⟨g, k * 5 + 3, none⟩ = some (.int .i64 x.c) ∧ w.cell? ⟨g, k * 5 + 4, none⟩ = some (.int .i64 x.n) ∧ w.frozen? ⟨g, k * 5 + 4, none⟩ = false := by
 subst hn
 obtain ⟨ys, hy, hx⟩ := h.ins
 obtain ⟨h0, h1, h2, h3, h4⟩ := hx k x hk
 have hl := idx_lt hk
 refine ⟨?_, ?_, ?_, ?_, ?_, hy.frozenAt _⟩
 ·rw [hy.cellAt _ (by omega)]; exact h0
 ·rw [hy.cellAt _ (by omega)]; exact h1
 ·rw [hy.cellAt _ (by omega)]; exact h2
 ·rw [hy.cellAt _ (by omega)]; exact h3
 ·rw [hy.cellAt _ (by omega)]; exact h4
theorem DiS.insForm {B F M : Nat} {p s : Int} {w2 w : World} {ia : Option Addr} {n ic : Nat} {xs : List Mi} {ps : List Nat} (h : DiS B F M p s w2 w (.slice ia n ic) xs ps) (hn : xs.length = n) (h0 : 0 < n) : ∃ g, ia = some ⟨g, 0, none⟩ := by
 subst hn
 obtain ⟨ys, hy, _⟩ := h.ins
 obtain ⟨g, cap, he⟩ := own_form hy h0
 injection he with e1 _ _
 exact ⟨g, e1⟩
theorem wf_int {z : Int} (h1 : -10000000 ≤ z) (h2 : z ≤ 10000000) : (Lit.int .i64 z).wf = true := WalkArith.wf_i64 ⟨by omega, by omega⟩
set_option maxHeartbeats 1000000 in
theorem beq_any (w : World) (va vb : Value) (xs bs : List Nat) (ha : CsAt w va xs) (hb : CsAt w vb bs) : Calls Tryd.prog 91 #[va, vb] w fun e w' => e = .returned (.bool (decide (xs = bs))) ∧ w = w' := by
 have h1 := conv_cs ha
 have h2 := conv_cs hb
 obtain ⟨_, _, rfl, hsa, _⟩ := ha
 obtain ⟨_, _, rfl, hsb, _⟩ := hb
 have he := strN_eq hsa hsb
 obtain ⟨q, hq⟩ : ∃ q, q = decide (xs = bs) := ⟨_, rfl⟩
 rw [← hq] at he ⊢
 generalize strN xs = s1 at *
 generalize strN bs = s2 at *
 obtain ⟨n1, hn1⟩ : ∃ n1, n1 = xs.length := ⟨_, rfl⟩
 obtain ⟨n2, hn2⟩ : ∃ n2, n2 = bs.length := ⟨_, rfl⟩
 rw [← hn1] at h1 ⊢
 rw [← hn2] at h2 ⊢
 clear hsa hsb hq hn1 hn2
 go_enter Tryd.func91, Tryd.ntmps91
 go_wp2_with (fail)
 go_ret
 exact ⟨by rw [← he]; rfl, rfl⟩
/-- the N of what was decoded is small -/
theorem one_bound {cs : List Nat} {p n : Nat} {x : Mi} (hs : ∀ x ∈ cs, x < 256) (hl : cs.length ≤ 1048576) (h : oneN cs p = some (x, n)) : -1000 ≤ x.n ∧ x.n ≤ 2000000 := by
 have hz := oneN_size h
 unfold oneN at h
 split at h
 ·injection h with h; injection h with h1 h2
  have hb : ∀ i, byteN cs i < 256 := fun i => byteN_lt hs i
  have b1 := hb (p + 1); have b2 := hb (p + 2); have b3 := hb (p + sizAt cs p - 1); have b4 := hb (p + sizAt cs p - 2)
  have hg := sgnN_le b3
  subst h1
  unfold decI
  repeat' split
  all_goals first | omega | (simp only []; omega) | (simp; omega)
 ·cases h
theorem DecTo.bound {cs : List Nat} {xs : List Mi} {ps : List Nat} {p : Nat} (hs : ∀ x ∈ cs, x < 256) (hl : cs.length ≤ 1048576) (h : DecTo cs xs ps p) : ∀ x ∈ xs, -1000 ≤ x.n ∧ x.n ≤ 2000000 := by
 induction h with
 |start => intro x hx; cases hx
 |more _ _ ho ih =>
  intro x hx
  rcases List.mem_append.1 hx with hx | hx
  ·exact ih x hx
  ·obtain rfl := List.mem_singleton.1 hx
   exact one_bound hs hl ho
/-- a jump to no place: no function -/
theorem no_place {p s : Int} {xs : List Mi} {ps : List Nat} {x : Mi} (hx : x ∈ xs) (hj : jmpI x = true) (hn : atN ps x.n = -1) : ¬ CanS ⟨p, s, xs.map (rsv ps)⟩ := by
 intro h
 have hF := CanS.fn h.1
 have hm : rsv ps x ∈ xs.map (rsv ps) := List.mem_map_of_mem hx
 have h1 : ∀ y ∈ xs.map (rsv ps), y.ni.mi = y := fun y hy => by
  have hmi := hF.mi
  unfold nisOf at hmi
  rw [List.map_map] at hmi
  obtain ⟨i, hi⟩ := List.getElem?_of_mem hy
  have := congrArg (fun l => l[i]?) hmi
  simp only [List.getElem?_map] at this
  have hi' : (xs.map (rsv ps))[i]? = some y := hi
  rw [List.getElem?_map] at hi'
  rw [hi'] at this
  simpa using this
 have h2 := h1 _ hm
 unfold rsv at h2
 rw [if_pos hj, hn] at h2
 have := congrArg Mi.n h2
 simp [Mi.ni, Ni.mi] at this
theorem one_nonneg {cs : List Nat} {p n : Nat} {x : Mi} (h : oneN cs p = some (x, n)) : 0 ≤ x.n ∨ jmpI x = true := by
 unfold oneN at h
 split at h
 ·injection h with h; injection h with h1 h2
  subst h1
  unfold decI
  by_cases hj : jmpN (opAt cs p) = true
  ·right
   rw [if_pos hj]
   unfold jmpI
   simpa using hj
  ·left
   rw [if_neg hj]
   repeat' split
   all_goals first | exact Int.natCast_nonneg _ | exact Int.le_refl _ | (simp; omega)
 ·cases h
theorem DecTo.nonneg {cs : List Nat} {xs : List Mi} {ps : List Nat} {p : Nat} (h : DecTo cs xs ps p) : ∀ x ∈ xs, 0 ≤ x.n ∨ jmpI x = true := by
 induction h with
 |start => intro x hx; cases hx
 |more _ _ ho ih =>
  intro x hx
  rcases List.mem_append.1 hx with hx | hx
  ·exact ih x hx
  ·obtain rfl := List.mem_singleton.1 hx
   exact one_nonneg ho
theorem rsv_ge {xs : List Mi} {ps : List Nat} (h : ∀ x ∈ xs, 0 ≤ x.n ∨ jmpI x = true) : ∀ y ∈ xs.map (rsv ps), -9223372036854775808 ≤ y.n := by
 intro y hy
 obtain ⟨x, hx, rfl⟩ := List.mem_map.1 hy
 unfold rsv
 rcases h x hx with h | h
 ·split
  ·have := atN_ge ps x.n; simp only []; omega
  ·omega
 ·rw [if_pos h]
  have := atN_ge ps x.n
  simp only []
  omega
end Go.Proofs.YtbdbmmdnidonjaaDoor
