/- What a decoder has so far: rows of instructions and of places, the function in its block. No program in sight but types. The places of instructions, on impl's side: settle, offset. How far a jump goes, on impl's side: offset. -/
import Derived.Test.YtbdbmmdnidonjaaDoorUJq
import Derived.Test.YtbdbmmdnidonjaaDoorUJr
import Derived.Test.YtbdbmmdnidonjaaDoorUJp
import Derived.Test.YtbdbmmdnidonjaaDoorUCe
import Derived.Laws.BytesArg
import Derived.Test.YtbdbmmdnidonjaaDoorUJd
import Derived.Deep.CutRange
import Derived.Deep.CutBlock
import Derived.Deep.AppendLies
set_option linter.unusedVariables false
set_option linter.unusedSimpArgs false
set_option maxRecDepth 100000
namespace Go.Proofs.YtbdbmmdnidonjaaDoor
open Go.RowKit
/-- rows of different kinds lie in different blocks -/
theorem rows_ne {B B' : Nat} {w : World} {e e' : TypeId} {k k' n m : Nat} {v v' : Value} {ys zs : List Value} (h : w.ownsRow B e k v n ys) (h' : w.ownsRow B' e' k' v' m zs) (he : e ≠ e') : v.ownBlock = none ∨ v.ownBlock ≠ v'.ownBlock := by
 rcases h.2 with ⟨rfl, _⟩ | ⟨g, cap, cur, rfl, _, hg, _⟩
 ·exact .inl rfl
 ·right
  intro hh
  rcases h'.2 with ⟨rfl, _⟩ | ⟨g', cap', cur', rfl, _, hg', _⟩
  ·simp [Value.ownBlock] at hh
  ·simp only [Value.ownBlock, Option.some.injEq] at hh
   subst hh
   rw [hg] at hg'
   simp at hg'
   exact he hg'.2
/-- F: the block of the function; B: from where on rows are owned -/
structure DeS (B F : Nat) (p s : Int) (w2 w : World) (iv pv : Value) (xs : List Mi) (ps : List Nat) : Prop where
 fb : Blk w F [.int .i64 p, .int .i64 s, iv]
 ins : OwnIns B w iv xs
 plc : w.ownsRow B 3 1 pv ps.length (nats ps)
 only : Only [F] w2 w
 low : F < B
 base : B = w2.heap.size
theorem DeS.below {B F : Nat} {p s : Int} {w2 w w' : World} {iv pv : Value} {xs : List Mi} {ps : List Nat} (h : DeS B F p s w2 w iv pv xs ps) (hb : Below w.heap.size w w') : DeS B F p s w2 w' iv pv xs ps :=
 ⟨h.fb.below hb, h.ins.only (Only.of_below hb []) (by simp), ownsRow_below h.plc hb, h.only.trans (Only.of_below hb _), h.low, h.base⟩
theorem DeS.c3 {B F : Nat} {p s : Int} {w2 w : World} {iv pv : Value} {xs : List Mi} {ps : List Nat} (h : DeS B F p s w2 w iv pv xs ps) :
  w.cell? ⟨F, 0, none⟩ = some (.int .i64 p) ∧ w.cell? ⟨F, 1, none⟩ = some (.int .i64 s) ∧ w.cell? ⟨F, 2, none⟩ = some iv ∧ w.frozen? ⟨F, 2, none⟩ = false := by
 refine ⟨?_, ?_, ?_, h.fb.frozen 2⟩
 all_goals rw [h.fb.cell]; rfl
theorem c3_of {w : World} {p : Nat} {x0 x1 x2 : Value} (h : Blk w p [x0, x1, x2]) : w.cell? ⟨p, 0, none⟩ = some x0 ∧ w.cell? ⟨p, 1, none⟩ = some x1 ∧ w.cell? ⟨p, 2, none⟩ = some x2 := by
 refine ⟨?_, ?_, ?_⟩
 all_goals rw [h.cell]; rfl
theorem DeS.size {B F : Nat} {p s : Int} {w2 w : World} {iv pv : Value} {xs : List Mi} {ps : List Nat} (h : DeS B F p s w2 w iv pv xs ps) : w2.heap.size ≤ w.heap.size := h.only.size
/-- behind the append of an instruction, ahead of the store -/
theorem DeS.app {B F : Nat} {p s : Int} {w2 w w6 : World} {iv pv v6 : Value} {xs : List Mi} {ps : List Nat} {ys : List Value} {y0 y1 y2 y3 y4 : Int} (h : DeS B F p s w2 w iv pv xs ps) (hy : w.ownsRow B 124 5 iv xs.length ys) (hx : ∀ i x, xs[i]? = some x → MiIn ys i x)
  (ho : w6.ownsRow B 124 5 v6 (xs.length + 1) (ys ++ [.int .i64 y0, .int .i64 y1, .int .i64 y2, .int .i64 y3, .int .i64 y4])) (hg : w.grownBy w6 iv.ownBlock) :
  Blk w6 F [.int .i64 p, .int .i64 s, iv] ∧ DeS B F p s w2 (w6.setCell ⟨F, 2, none⟩ v6) v6 pv (xs ++ [⟨y0, y1, y2, y3, y4⟩]) ps := by
 have hn : iv.ownBlock ≠ some F := fun e => by have := (World.ownsRow.lt hy _ e).1; have := h.low; omega
 have hf := h.fb.grown hg hn
 have hs : Only [F] w6 (w6.setCell ⟨F, 2, none⟩ v6) := (Only.refl [F] w6).setCell (p := ⟨F, 2, none⟩) (by simp) _
 have hlo : ∀ b ∈ [F], b < B := fun b hb => by have := List.mem_singleton.1 hb; have := h.low; omega
 refine ⟨hf, hf.set 2 _, ?_, ?_, ?_, h.low, h.base⟩
 ·exact (OwnIns.snoc hx hy.1 ho).only hs hlo
 ·exact ownsRow_only (h.plc.kept hg (rows_ne h.plc hy (by decide))) hs hlo
 ·refine (h.only.grown hg (fun k hk => by have := (World.ownsRow.lt hy k hk).1; have := h.base; omega)).trans hs
/-- behind the append of a place -/
theorem DeS.app2 {B F : Nat} {p s : Int} {w2 w w6 : World} {iv pv v6 : Value} {xs : List Mi} {ps : List Nat} {z : Nat} (h : DeS B F p s w2 w iv pv xs ps)
  (ho : w6.ownsRow B 3 1 v6 (ps.length + 1) (nats ps ++ [.int .i64 (z : Int)])) (hg : w.grownBy w6 pv.ownBlock) : DeS B F p s w2 w6 iv v6 xs (ps ++ [z]) := by
 have hn : pv.ownBlock ≠ some F := fun e => by have := (World.ownsRow.lt h.plc _ e).1; have := h.low; omega
 obtain ⟨ys, hy, hx⟩ := h.ins
 refine ⟨h.fb.grown hg hn, ⟨ys, hy.kept hg (rows_ne hy h.plc (by decide)), hx⟩, ?_, h.only.grown hg (fun k hk => by have := (World.ownsRow.lt h.plc k hk).1; have := h.base; omega), h.low, h.base⟩
 rw [List.length_append, List.length_singleton, show nats (ps ++ [z]) = nats ps ++ [.int .i64 (z : Int)] by simp [nats]]
 exact ho
/-- the N of an instruction is stored -/
theorem DeS.set {B F : Nat} {p s : Int} {w2 w : World} {pv : Value} {g n ic : Nat} {xs : List Mi} {ps : List Nat} (h : DeS B F p s w2 w (.slice (some ⟨g, 0, none⟩) n ic) pv xs ps) (hn : xs.length = n) {k : Nat} {x : Mi} (hk : xs[k]? = some x) (z : Int) :
  DeS B F p s w2 (w.setCell ⟨g, k * 5 + 4, none⟩ (.int .i64 z)) (.slice (some ⟨g, 0, none⟩) n ic) pv (xs.set k ⟨x.op, x.a, x.b, x.c, z⟩) ps := by
 subst hn
 obtain ⟨ys, hy, hx⟩ := h.ins
 have hg := (ownsRow_lt hy).2.1
 have hlow := h.low
 have hkl := idx_lt hk
 refine ⟨h.fb.other (by simp only []; omega) _, ⟨ys.set (k * 5 + 4) (.int .i64 z), ?_, fun i y hi => ?_⟩, ?_, h.only.setCellNew (by have := h.base; simp only []; omega) _, hlow, h.base⟩
 ·rw [List.length_set]; exact (hy.stored (k * 5 + 4) _).1
 ·by_cases e : i = k
  ·subst e
   have hy' : y = ⟨x.op, x.a, x.b, x.c, z⟩ := by
    rw [List.getElem?_set_self hkl] at hi
    exact (Option.some.inj hi).symm
   subst hy'
   obtain ⟨h0, h1, h2, h3, h4⟩ := hx i x hk
   have := idx_lt h4
   refine ⟨?_, ?_, ?_, ?_, ?_⟩
   ·rw [List.getElem?_set_ne (by omega)]; exact h0
   ·rw [List.getElem?_set_ne (by omega)]; exact h1
   ·rw [List.getElem?_set_ne (by omega)]; exact h2
   ·rw [List.getElem?_set_ne (by omega)]; exact h3
   ·rw [List.getElem?_set_self this]
  ·rw [List.getElem?_set_ne (fun h => e h.symm)] at hi
   obtain ⟨h0, h1, h2, h3, h4⟩ := hx i y hi
   unfold MiIn
   rw [List.getElem?_set_ne (by omega), List.getElem?_set_ne (by omega), List.getElem?_set_ne (by omega), List.getElem?_set_ne (by omega), List.getElem?_set_ne (by omega)]
   exact ⟨h0, h1, h2, h3, h4⟩
 ·refine ownsRow_same h.plc fun q hq => Below.heap_setCell _ _ _ _ (fun e => ?_)
  rcases rows_ne h.plc hy (by decide) with hh | hh
  ·rw [hh] at hq; cases hq
  ·rw [hq, e] at hh; exact hh rfl
/-- the cells of an instruction -/
theorem DeS.cells {B F : Nat} {p s : Int} {w2 w : World} {pv : Value} {g n ic : Nat} {xs : List Mi} {ps : List Nat} (h : DeS B F p s w2 w (.slice (some ⟨g, 0, none⟩) n ic) pv xs ps) (hn : xs.length = n) {k : Nat} {x : Mi} (hk : xs[k]? = some x) :
  w.cell? ⟨g, k * 5, none⟩ = some (.int .i64 x.op) ∧ w.cell? ⟨g, k * 5 + 1, none⟩ = some (.int .i64 x.a) ∧ w.cell? ⟨g, k * 5 + 2, none⟩ = some (.int .i64 x.b) ∧ w.cell? ⟨g, k * 5 + 3, none⟩ = some (.int .i64 x.c) ∧ w.cell? ⟨g, k * 5 + 4, none⟩ = some (.int .i64 x.n) ∧ w.frozen? ⟨g, k * 5 + 4, none⟩ = false := by
 subst hn
 obtain ⟨ys, hy, hx⟩ := h.ins
 obtain ⟨h0, h1, h2, h3, h4⟩ := hx k x hk
 have hl := idx_lt hk
 refine ⟨?_, ?_, ?_, ?_, ?_, hy.frozenAt _⟩
 ·rw [hy.cellAt _ (by omega)]; exact h0
 ·rw [hy.cellAt _ (by omega)]; exact h1
 ·rw [hy.cellAt _ (by omega)]; exact h2
 ·rw [hy.cellAt _ (by omega)]; exact h3
 ·rw [hy.cellAt _ (by omega)]; exact h4
theorem DeS.drew {B F : Nat} {p s : Int} {w2 w : World} {iv pv : Value} {xs : List Mi} {ps : List Nat} (h : DeS B F p s w2 w iv pv xs ps) : DeS B F p s w2 w.drew iv pv xs ps := h.below (Below.refl _ _).drew
theorem DeS.insForm {B F : Nat} {p s : Int} {w2 w : World} {ia : Option Addr} {n ic : Nat} {pv : Value} {xs : List Mi} {ps : List Nat} (h : DeS B F p s w2 w (.slice ia n ic) pv xs ps) (hn : xs.length = n) (h0 : 0 < n) : ∃ g, ia = some ⟨g, 0, none⟩ := by
 subst hn
 obtain ⟨ys, hy, _⟩ := h.ins
 obtain ⟨g, cap, he⟩ := own_form hy h0
 injection he with e1 _ _
 exact ⟨g, e1⟩
theorem DeS.mis {B F : Nat} {p s : Int} {w2 w : World} {iv pv : Value} {xs : List Mi} {ps : List Nat} (h : DeS B F p s w2 w iv pv xs ps) : MisAt w iv xs := h.ins.at
theorem DeS.nats {B F : Nat} {p s : Int} {w2 w : World} {iv pv : Value} {xs : List Mi} {ps : List Nat} (h : DeS B F p s w2 w iv pv xs ps) : NatsAt w pv ps := NatsAt.of h.plc
/-- bytes as a text -/
def strN (bs : List Nat) : ByteArray := strOfNums (bs.map fun (n : Nat) => (n : Int))
theorem strN_inj {a b : List Nat} (ha : ∀ x ∈ a, x < 256) (hb : ∀ x ∈ b, x < 256) (h : strN a = strN b) : a = b := by
 have h1 := congrArg (fun s : ByteArray => s.data.toList) h
 simp only [strN, strOfNums_data, List.map_map] at h1
 have key : ∀ l : List Nat, (∀ x ∈ l, x < 256) → (l.map ((fun n : Int => UInt8.ofNat n.toNat) ∘ fun (n : Nat) => (n : Int))).map UInt8.toNat = l := fun l hl => by
  rw [List.map_map]
  conv => rhs; rw [← List.map_id l]
  refine List.map_congr_left fun x hx => ?_
  have := hl x hx
  simp [Nat.mod_eq_of_lt this]
 rw [← key a ha, ← key b hb, h1]
theorem conv_cs {w : World} {v : Value} {cs : List Nat} (h : CsAt w v cs) : (convert 22 9 v).run Tryd.prog w = .ok (.string (strN cs)) w := by
 obtain ⟨a, cap, rfl, _, hc⟩ := h
 rcases Nat.eq_zero_or_pos cs.length with h0 | h0
 ·have : cs = [] := by simpa using h0
  subst this
  cases a with
  |none => exact run_convert_bytes_nil w 22 5 Tryd.underlying22 Tryd.underlying5 _ _ 9 Tryd.underlying9
  |some a =>
   have := run_convert_bytes_back (P := Tryd.prog) w 22 9 5 a cap [] Tryd.underlying22 Tryd.underlying5 Tryd.underlying9 (fun j hj => by simp at hj)
   exact this
 ·obtain ⟨b, off, rfl, _⟩ := hc 0 h0
  refine run_convert_bytes_arg w 22 5 Tryd.underlying22 Tryd.underlying5 b off cs.length cap (cs.map fun (n : Nat) => (n : Int)) (by simp) (fun i hi => ?_) 9 Tryd.underlying9
  obtain ⟨b', off', he, h1⟩ := hc i hi
  injection he with he; injection he with e1 e2 e3; subst e1 e2
  rw [h1]
  simp [byteN, List.getD_eq_getElem?_getD, hi]
theorem strN_eq {a b : List Nat} (ha : ∀ x ∈ a, x < 256) (hb : ∀ x ∈ b, x < 256) : ((strN a).toList == (strN b).toList) = decide (a = b) := by
 rw [ByteArray.toList_eq, ByteArray.toList_eq, Bool.eq_iff_iff]
 simp only [beq_iff_eq, decide_eq_true_eq]
 constructor
 ·intro h
  exact strN_inj ha hb (by
   have h := Array.toList_inj.mp h
   cases h1 : strN a; cases h2 : strN b
   rw [h1, h2] at h; simp only [] at h; rw [h])
 ·intro h; rw [h]
theorem CsAt.of {w : World} {B : Nat} {v : Value} {bs : List Nat} (h : w.ownsRow B 5 1 v bs.length (u8s bs)) (hs : ∀ x ∈ bs, x < 256) : CsAt w v bs := by
 rcases Nat.eq_zero_or_pos bs.length with h0 | h0
 ·rcases h.2 with ⟨hv, hn⟩ | ⟨g, cap, cur, hv, _⟩
  ·exact ⟨none, 0, by rw [hv, h0], hs, fun i hi => by omega⟩
  ·exact ⟨_, cap, hv, hs, fun i hi => by omega⟩
 ·obtain ⟨g, cap, rfl⟩ := own_form h h0
  refine ⟨_, _, rfl, hs, fun i hi => ⟨g, 0, rfl, ?_⟩⟩
  rw [Nat.zero_add, own_cell1 h hi]
  simp [u8s, byteN, List.getD_eq_getElem?_getD, hi]
theorem encI_small {xs : List Ni} {lg : List Bool} {i : Nat} (hx : BOk (niAt xs i)) (hj : jmpN (niAt xs i).op = true → plcN xs lg (niAt xs i).n < 65536) : ∀ b ∈ encI xs lg i, b < 256 := by
 intro b hb
 have h1 := hx.op; have h2 := hx.a; have h3 := hx.b; have h4 := hx.c; have h5 := hx.n
 unfold encI at hb
 cases hjj : jmpN (niAt xs i).op with
 |true =>
  rw [hjj] at hb
  have hp := hj hjj
  simp only [if_true, List.mem_cons, List.mem_append] at hb
  rcases hb with rfl | hb | hb
  ·split <;> omega
  ·split at hb
   ·rcases List.mem_singleton.1 hb with rfl; omega
   ·cases hb
  ·split at hb
   ·simp only [List.mem_cons, List.not_mem_nil, or_false] at hb
    rcases hb with rfl | rfl
    ·omega
    ·omega
   ·rcases List.mem_singleton.1 hb with rfl; omega
 |false =>
  rw [hjj] at hb
  simp only [Bool.false_eq_true, if_false] at hb
  unfold encB at hb
  repeat' split at hb
  all_goals simp only [List.mem_cons, List.not_mem_nil, or_false] at hb
  all_goals omega
theorem encF_small {xs : List Ni} {lg : List Bool} (hx : ∀ i, i < xs.length → BOk (niAt xs i)) (hj : ∀ i, i < xs.length → jmpN (niAt xs i).op = true → plcN xs lg (niAt xs i).n < 65536) : ∀ k, k ≤ xs.length → ∀ b ∈ encF xs lg k, b < 256
 |0, _, b, hb => by cases hb
 |k + 1, hk, b, hb => by
  unfold encF at hb
  rcases List.mem_append.1 hb with hb | hb
  ·exact encF_small hx hj k (by omega) b hb
  ·exact encI_small (hx k (by omega)) (hj k (by omega)) b hb
theorem encO_small {f : Mf} (h : CanS f) : ∀ b ∈ encO f, b < 256 := by
 have hF := CanS.fn h.1
 refine encF_small hF.ok (fun i hi hj => ?_) _ (Nat.le_refl _)
 have h1 := hF.jmp i hi hj
 have h2 := hF.len
 have h3 := plcN_le (nisOf f) (longN (nisOf f)) (niAt (nisOf f) i).n
 have h4 := nisOf_len f
 omega
theorem oneN_nat {cs : List Nat} {p n : Nat} {x : Mi} (h : oneN cs p = some (x, n)) : ∃ o : Nat, x.op = (o : Int) := by
 unfold oneN at h
 split at h
 ·injection h with h; injection h with h1 h2
  subst h1
  refine ⟨opAt cs p, ?_⟩
  unfold decI
  repeat' split
  all_goals rfl
 ·cases h
theorem DecTo.nat {cs : List Nat} {xs : List Mi} {ps : List Nat} {p : Nat} (h : DecTo cs xs ps p) : ∀ x ∈ xs, ∃ o : Nat, x.op = (o : Int) := by
 induction h with
 |start => intro x hx; cases hx
 |more _ _ ho ih =>
  intro x hx
  rcases List.mem_append.1 hx with hx | hx
  ·exact ih x hx
  ·obtain rfl := List.mem_singleton.1 hx
   exact oneN_nat ho
theorem one_q (w : World) (v : Value) (cs : List Nat) (at_ : Nat) (h : CsAt w v cs) (hlt : at_ < cs.length) (hle : cs.length ≤ 1048576) :
  Calls Tryd.prog 115 #[v, .int .i64 (at_ : Int)] w fun e w' => ∃ (o a b c z : Int) (n : Nat) (ok : Bool), e = .returned (.tuple #[.agg #[.int .i64 o, .int .i64 a, .int .i64 b, .int .i64 c, .int .i64 z], .int .i64 (n : Int), .bool ok]) ∧ (ok = true → oneN cs at_ = some (⟨o, a, b, c, z⟩, n)) ∧ (ok = false → oneN cs at_ = none) ∧ Below w.heap.size w w' :=
 (one_any w v cs at_ h hlt hle).mono fun _ _ ⟨x, n, ok, h1, h2, h3, h4⟩ => ⟨x.op, x.a, x.b, x.c, x.n, n, ok, h1, h2, h3, h4⟩
end Go.Proofs.YtbdbmmdnidonjaaDoor
set_option maxRecDepth 100000
namespace Go.Proofs.YtbdbmmdnidonjaaDoor
open Go.RowKit
def sizs (xs : List Ni) (lg : List Bool) (k : Nat) : List Nat := (List.range k).map fun i => sizN (niAt xs i) (lg.getD i false)
theorem sizs_len (xs : List Ni) (lg : List Bool) (k : Nat) : (sizs xs lg k).length = k := by simp [sizs]
theorem plcs_len (xs : List Ni) (lg : List Bool) (k : Nat) : (plcs xs lg k).length = k := by simp [plcs]
/-- the two rows of a layout, and its block -/
structure LayS (B pl : Nat) (p s : Int) (iv lv : Value) (w2 w : World) (sv pv : Value) (z : Nat) (xs ys : List Nat) : Prop where
 blk : Blk w pl [.int .i64 p, .int .i64 s, iv, lv, sv, pv, .int .i64 (z : Int)]
 siz : w.ownsRow B 3 1 sv xs.length (nats xs)
 plc : w.ownsRow B 3 1 pv ys.length (nats ys)
 ne : sv.ownBlock = none ∨ sv.ownBlock ≠ pv.ownBlock
 only : Only [pl] w2 w
 low : pl < B
 base : B = w2.heap.size
theorem LayS.cells {B pl : Nat} {p s : Int} {iv lv : Value} {w2 w : World} {sv pv : Value} {z : Nat} {xs ys : List Nat} (h : LayS B pl p s iv lv w2 w sv pv z xs ys) :
  w.cell? ⟨pl, 2, none⟩ = some iv ∧ w.cell? ⟨pl, 3, none⟩ = some lv ∧ w.cell? ⟨pl, 4, none⟩ = some sv ∧ w.cell? ⟨pl, 5, none⟩ = some pv ∧ w.cell? ⟨pl, 6, none⟩ = some (.int .i64 (z : Int)) ∧ w.frozen? ⟨pl, 4, none⟩ = false ∧ w.frozen? ⟨pl, 5, none⟩ = false ∧ w.frozen? ⟨pl, 6, none⟩ = false := by
 refine ⟨?_, ?_, ?_, ?_, ?_, h.blk.frozen 4, h.blk.frozen 5, h.blk.frozen 6⟩
 all_goals rw [h.blk.cell]; rfl
theorem LayS.below {B pl : Nat} {p s : Int} {iv lv : Value} {w2 w w' : World} {sv pv : Value} {z : Nat} {xs ys : List Nat} (h : LayS B pl p s iv lv w2 w sv pv z xs ys) (hb : Below w.heap.size w w') : LayS B pl p s iv lv w2 w' sv pv z xs ys :=
 ⟨h.blk.below hb, ownsRow_below h.siz hb, ownsRow_below h.plc hb, h.ne, h.only.trans (Only.of_below hb _), h.low, h.base⟩
def SetP (B pl : Nat) (p s : Int) (iv lv : Value) (xs : List Ni) (lg : List Bool) (w : World) (e : Ending) (w' : World) : Prop :=
 ∃ sv pv, e = .returned (.tuple #[]) ∧ LayS B pl p s iv lv w w' sv pv (totN xs lg) (sizs xs lg xs.length) (plcs xs lg xs.length)
theorem news_of_blk {w : World} {q : Nat} {vs : List Value} (h : Blk w q vs) : ∀ j u, vs[j]? = some u → w.cell? ((⟨q, 0, none⟩ : Addr).add j) = some u := fun j u hu => by
 have := h.cell j
 rw [hu] at this
 by_cases e : j = 0
 ·subst e; simpa [Addr.add] using this
 ·simpa [Addr.add, e] using this
/-- while the rows grow: the block still has what it had -/
structure LayT (B pl : Nat) (V : List Value) (w2 w : World) (sv pv : Value) (xs ys : List Nat) : Prop where
 blk : Blk w pl V
 siz : w.ownsRow B 3 1 sv xs.length (nats xs)
 plc : w.ownsRow B 3 1 pv ys.length (nats ys)
 ne : sv.ownBlock = none ∨ sv.ownBlock ≠ pv.ownBlock
 only : Only [pl] w2 w
 low : pl < B
 base : B = w2.heap.size
theorem LayT.below {B pl : Nat} {V : List Value} {w2 w w' : World} {sv pv : Value} {xs ys : List Nat} (h : LayT B pl V w2 w sv pv xs ys) (hb : Below w.heap.size w w') : LayT B pl V w2 w' sv pv xs ys :=
 ⟨h.blk.below hb, ownsRow_below h.siz hb, ownsRow_below h.plc hb, h.ne, h.only.trans (Only.of_below hb _), h.low, h.base⟩
theorem ne_sym {a b : Option Nat} (h : a = none ∨ a ≠ b) : b = none ∨ b ≠ a := by
 cases b with
 |none => exact .inl rfl
 |some x =>
  refine .inr fun e => ?_
  rcases h with h | h
  ·rw [h] at e; cases e
  ·exact h e.symm
theorem LayT.size {B pl : Nat} {V : List Value} {w2 w : World} {sv pv : Value} {xs ys : List Nat} (h : LayT B pl V w2 w sv pv xs ys) : B ≤ w.heap.size := by have := h.only.size; have := h.base; omega
theorem LayT.appS {B pl : Nat} {V : List Value} {w2 w w6 : World} {sv pv v6 : Value} {xs ys : List Nat} {z : Nat} (h : LayT B pl V w2 w sv pv xs ys)
  (ho : w6.ownsRow B 3 1 v6 (xs.length + 1) (nats xs ++ [.int .i64 (z : Int)])) (hg : w.grownBy w6 sv.ownBlock) (hat : v6.ownBlock = sv.ownBlock ∨ v6.ownBlock = some w.heap.size) : LayT B pl V w2 w6 v6 pv (xs ++ [z]) ys := by
 have hn : sv.ownBlock ≠ some pl := fun e => by have := (World.ownsRow.lt h.siz _ e).1; have := h.low; omega
 refine ⟨h.blk.grown hg hn, ?_, h.plc.kept hg (ne_sym h.ne), ?_, h.only.grown hg (fun k hk => by have := (World.ownsRow.lt h.siz k hk).1; have := h.base; omega), h.low, h.base⟩
 ·rw [List.length_append, List.length_singleton, show nats (xs ++ [z]) = nats xs ++ [.int .i64 (z : Int)] by simp [nats]]
  exact ho
 ·rcases hat with e | e
  ·rw [e]; exact h.ne
  ·rw [e]
   refine .inr fun e2 => ?_
   have := (World.ownsRow.lt h.plc _ e2.symm).2
   omega
theorem LayT.appP {B pl : Nat} {V : List Value} {w2 w w6 : World} {sv pv v6 : Value} {xs ys : List Nat} {z : Nat} (h : LayT B pl V w2 w sv pv xs ys)
  (ho : w6.ownsRow B 3 1 v6 (ys.length + 1) (nats ys ++ [.int .i64 (z : Int)])) (hg : w.grownBy w6 pv.ownBlock) (hat : v6.ownBlock = pv.ownBlock ∨ v6.ownBlock = some w.heap.size) : LayT B pl V w2 w6 sv v6 xs (ys ++ [z]) := by
 have hn : pv.ownBlock ≠ some pl := fun e => by have := (World.ownsRow.lt h.plc _ e).1; have := h.low; omega
 refine ⟨h.blk.grown hg hn, h.siz.kept hg h.ne, ?_, ?_, h.only.grown hg (fun k hk => by have := (World.ownsRow.lt h.plc k hk).1; have := h.base; omega), h.low, h.base⟩
 ·rw [List.length_append, List.length_singleton, show nats (ys ++ [z]) = nats ys ++ [.int .i64 (z : Int)] by simp [nats]]
  exact ho
 ·rcases hat with e | e
  ·rw [e]; exact h.ne
  ·rw [e]
   rcases h.ne with e1 | _
   ·exact .inl e1
   ·refine .inr fun e2 => ?_
    have := (World.ownsRow.lt h.siz _ e2).2
    omega
/-- the new rows are stored -/
theorem LayT.stored {B pl : Nat} {p s : Int} {iv lv sv0 pv0 : Value} {z : Nat} {w2 w : World} {sv pv : Value} {xs ys : List Nat} (h : LayT B pl [.int .i64 p, .int .i64 s, iv, lv, sv0, pv0, .int .i64 (z : Int)] w2 w sv pv xs ys) :
  LayS B pl p s iv lv w2 ((w.setCell ⟨pl, 4, none⟩ sv).setCell ⟨pl, 5, none⟩ pv) sv pv z xs ys := by
 have hlo : ∀ b ∈ [pl], b < B := fun b hb => by have := List.mem_singleton.1 hb; have := h.low; omega
 have hs : Only [pl] w ((w.setCell ⟨pl, 4, none⟩ sv).setCell ⟨pl, 5, none⟩ pv) := ((Only.refl [pl] w).setCell (p := ⟨pl, 4, none⟩) (by simp) _).setCell (p := ⟨pl, 5, none⟩) (by simp) _
 exact ⟨(h.blk.set 4 _).set 5 _, ownsRow_only h.siz hs hlo, ownsRow_only h.plc hs hlo, h.ne, h.only.trans hs, h.low, h.base⟩
theorem LayS.sized {B pl : Nat} {p s : Int} {iv lv : Value} {w2 w : World} {sv pv : Value} {z : Nat} {xs ys : List Nat} (h : LayS B pl p s iv lv w2 w sv pv z xs ys) (z' : Nat) :
  LayS B pl p s iv lv w2 (w.setCell ⟨pl, 6, none⟩ (.int .i64 (z' : Int))) sv pv z' xs ys := by
 have hlo : ∀ b ∈ [pl], b < B := fun b hb => by have := List.mem_singleton.1 hb; have := h.low; omega
 have hs : Only [pl] w (w.setCell ⟨pl, 6, none⟩ (.int .i64 (z' : Int))) := (Only.refl [pl] w).setCell (p := ⟨pl, 6, none⟩) (by simp) _
 exact ⟨h.blk.set 6 _, ownsRow_only h.siz hs hlo, ownsRow_only h.plc hs hlo, h.ne, h.only.trans hs, h.low, h.base⟩
theorem LayS.t {B pl : Nat} {p s : Int} {iv lv : Value} {w2 w : World} {sv pv : Value} {z : Nat} {xs ys : List Nat} (h : LayS B pl p s iv lv w2 w sv pv z xs ys) : LayT B pl [.int .i64 p, .int .i64 s, iv, lv, sv, pv, .int .i64 (z : Int)] w2 w sv pv xs ys :=
 ⟨h.blk, h.siz, h.plc, h.ne, h.only, h.low, h.base⟩
theorem lies_wp {P : Program} {o : Oper} {a : Act} {w : World} {K : Act → World → Prop} {Q : Exit → Act → World → Prop} (h : Region.wanted o (yielded #[] a.tmps) = true) (k : if Region.wanted o (yielded #[] a.tmps) = true then Oper.wp P o a w K Q else False) : Oper.wp P o a w K Q := by rwa [if_pos h] at k
theorem news_blk1 {w : World} {q : Nat} {vs : List Value} (h : Blk w q vs) : ∀ j u, vs[j]? = some u → w.cell? ((⟨q, 0, none⟩ : Addr).add j) = some u := news_of_blk h
set_option maxHeartbeats 8000000 in
theorem settle_any (w : World) (pl ib io ic lb lo lc n : Nat) (p s : Int) (sv0 pv0 : Value) (z0 : Int) (xs : List Ni) (lg : List Bool) (hn0 : n = xs.length)
  (hb : Blk w pl [.int .i64 p, .int .i64 s, .slice (some ⟨ib, io, none⟩) n ic, .slice (some ⟨lb, lo, none⟩) n lc, sv0, pv0, .int .i64 z0]) (hm : NisAt w (.slice (some ⟨ib, io, none⟩) n ic) xs) (hl : ∀ i, i < n → w.cell? ⟨lb, lo + i, none⟩ = some (.bool (lg.getD i false)))
  (hn : n ≤ 2000) (hx : ∀ i, i < n → BOk (niAt xs i)) (hib : ib ≠ pl) (hlb : lb ≠ pl) :
  Calls Tryd.prog 152 #[.pointer (some ⟨pl, 0, none⟩)] w (SetP w.heap.size pl p s (.slice (some ⟨ib, io, none⟩) n ic) (.slice (some ⟨lb, lo, none⟩) n lc) xs lg w) := by
 obtain ⟨i0, hi, hz0, hz1, hz2⟩ := info_parts info_int
 have HM : Hid (∀ i, i < n → w.cell? ⟨ib, io + i * 5, none⟩ = some (.int .i64 ((niAt xs i).op : Int)) ∧ w.cell? ⟨ib, io + i * 5 + 1, none⟩ = some (.int .i64 ((niAt xs i).a : Int)) ∧ w.cell? ⟨ib, io + i * 5 + 2, none⟩ = some (.int .i64 ((niAt xs i).b : Int)) ∧ w.cell? ⟨ib, io + i * 5 + 3, none⟩ = some (.int .i64 ((niAt xs i).c : Int)) ∧ w.cell? ⟨ib, io + i * 5 + 4, none⟩ = some (.int .i64 ((niAt xs i).n : Int))) := Lib.hid (by
  obtain ⟨a, cap, hv, hc⟩ := hm
  injection hv with e1 e2 e3
  intro i hi
  obtain ⟨b, off, ha, h0, h1, h2, h3, h4⟩ := hc i (by omega)
  rw [ha] at e1
  injection e1 with e1; injection e1 with e4 e5 e6; subst e4 e5
  exact ⟨h0, h1, h2, h3, h4⟩)
 have HL := Lib.hid hl
 have HX := Lib.hid hx
 have hpl := hb.lt
 have HB := Lib.hid hb
 have HN0 := Lib.hid hn0
 obtain ⟨Q, hQ⟩ : ∃ Q, Q = SetP w.heap.size pl p s (.slice (some ⟨ib, io, none⟩) n ic) (.slice (some ⟨lb, lo, none⟩) n lc) xs lg w := ⟨_, rfl⟩
 have HQ : Hid (∀ w' sv pv, LayS w.heap.size pl p s (.slice (some ⟨ib, io, none⟩) n ic) (.slice (some ⟨lb, lo, none⟩) n lc) w w' sv pv (plcN xs lg n) (sizs xs lg n) (plcs xs lg n) → Q (.returned (.tuple #[])) w') := Lib.hid (fun w' sv pv h => by
  rw [hQ]; unfold SetP totN; rw [← hn0]; exact ⟨sv, pv, rfl, h⟩)
 rw [← hQ]
 obtain ⟨x0, x1, x2, x3, x4, x5, x6⟩ := (⟨hb.cell 0, hb.cell 1, hb.cell 2, hb.cell 3, hb.cell 4, hb.cell 5, hb.cell 6⟩ : _ ∧ _ ∧ _ ∧ _ ∧ _ ∧ _ ∧ _)
 simp only [List.getElem?_cons_zero, List.getElem?_cons_succ] at x2 x4 x5 x6
 have xf4 := hb.frozen 4; have xf5 := hb.frozen 5; have xf6 := hb.frozen 6
 have hn1 : (n : Int) ≤ 2000 := by omega
 clear hQ hm hl hx hb hn0 x0 x1 x3
 go_enter Tryd.func152, Tryd.ntmps152
 go_wp2_with (fail)
 go_loopw [20] (fun iv wr => ∃ (k : Nat) (sv pv : Value), k ≤ n ∧ iv = .int .i64 (k : Int) ∧ Hid (LayS w.heap.size pl p s (.slice (some ⟨ib, io, none⟩) n ic) (.slice (some ⟨lb, lo, none⟩) n lc) w wr sv pv (plcN xs lg k) (sizs xs lg k) (plcs xs lg k))) (fun iv _ => n - (intOf iv).toNat)
 case atStart =>
  refine ⟨0, .slice none 0 0, .slice none 0 0, Nat.zero_le _, rfl, Lib.hid ⟨((HB.out.set 4 _).set 5 _).set 6 _, World.ownsRow_nil _ _ _ _, World.ownsRow_nil _ _ _ _, .inl rfl, ?_, hpl, rfl⟩⟩
  exact (((Only.refl [pl] w).setCell (p := ⟨pl, 4, none⟩) (by simp) _).setCell (p := ⟨pl, 5, none⟩) (by simp) _).setCell (p := ⟨pl, 6, none⟩) (by simp) _
 case round =>
  obtain ⟨k, sv, pv, hk, rfl, HS⟩ := hrel
  obtain ⟨wi, rfl⟩ : ∃ wi : World, wi = wr := ⟨_, rfl⟩
  by_cases hkn : k < n
  ·have k0 : (0 : Int) ≤ k := by omega
   have k1 : (k : Int) < n := by omega
   obtain ⟨h0, h1, h2, h3, h4⟩ := HM.out k hkn
   have hibl := World.block_lt_of_cell? w _ h0
   simp only at hibl
   have HC : Hid (∀ a u, w.cell? a = some u → a.block ≠ pl → wi.cell? a = some u) := Lib.hid (fun a u h hne => by
    rw [HS.out.only.cell (World.block_lt_of_cell? w _ h) (by simpa using hne)]; exact h)
   have c0 := HC.out _ _ h0 hib; have c1 := HC.out _ _ h1 hib; have c2 := HC.out _ _ h2 hib; have c3 := HC.out _ _ h3 hib; have c4 := HC.out _ _ h4 hib
   have cl := HC.out _ _ (HL.out k hkn) hlb
   have CL := Lib.hid cl
   obtain ⟨x, hxe⟩ : ∃ x, x = niAt xs k := ⟨_, rfl⟩
   obtain ⟨l, hle⟩ : ∃ l, l = lg.getD k false := ⟨_, rfl⟩
   rw [← hxe] at c0 c1 c2 c3 c4
   have HXK : Hid (BOk x) := Lib.hid (by rw [hxe]; exact HX.out k hkn)
   have HP1 : Hid (plcN xs lg (k + 1) = plcN xs lg k + sizN x l) := Lib.hid (by rw [hxe, hle]; rfl)
   have HS1 : Hid (sizs xs lg (k + 1) = sizs xs lg k ++ [sizN x l]) := Lib.hid (by rw [hxe, hle]; simp [sizs, List.range_succ])
   have HP2 : Hid (plcs xs lg (k + 1) = plcs xs lg k ++ [plcN xs lg k]) := Lib.hid (by simp [plcs, List.range_succ])
   have hz4 := plcN_le xs lg k
   have hsz := sizN_le x l
   rw [← hle] at CL
   obtain ⟨Z, hZ⟩ : ∃ Z, Z = plcN xs lg k := ⟨_, rfl⟩
   rw [← hZ] at HS HP1 HP2 hz4
   obtain ⟨zs, hzs⟩ : ∃ zs, zs = sizs xs lg k := ⟨_, rfl⟩
   obtain ⟨ys, hys⟩ : ∃ ys, ys = plcs xs lg k := ⟨_, rfl⟩
   have hzl : zs.length = k := by rw [hzs, sizs_len]
   have hyl : ys.length = k := by rw [hys, plcs_len]
   have HZL := Lib.hid hzl; have HYL := Lib.hid hyl
   rw [← hzs] at HS HS1
   rw [← hys] at HS HP2
   have HJ := Lib.hid (fun w' => jump_any w' x.op)
   obtain ⟨jp, hjp⟩ : ∃ jp, jp = jmpN x.op := ⟨_, rfl⟩
   rw [← hjp] at HJ
   have HJP := Lib.hid hjp
   obtain ⟨N, hN⟩ : ∃ N, N = sizN x l := ⟨_, rfl⟩
   have HN := Lib.hid hN
   rw [← hN] at HP1 HS1 hsz
   obtain ⟨op, xa, xb, xc, xn⟩ := x
   clear h0 h1 h2 h3 h4 hxe hle cl hZ hzs hys hzl hyl hjp hN x2 x4 x5 x6 xf4 xf5 xf6
   simp only at c0 c1 c2 c3 c4 HJ HJP
   go_upto_if 28 with (first | (go_at_call 120; refine (HJ.out _).mono ?_; rintro e _ ⟨rfl, rfl⟩) | fail)
   generalize hwx : wi.alloc _ = wx
   obtain ⟨hbx, e0, e1, e2, e3, e4⟩ := box5 hwx
   have HSX := Lib.hid (HS.out.below hbx)
   have clx := cellB hbx CL.out
   have hl3 := HSX.out.cells.2.1
   clear hwx hbx c0 c1 c2 c3 c4 HS HC CL
   go_cut [4, 20] from 20 to 77 (fun nv kv wy => nv = .int .i64 (N : Int) ∧ kv = .int .i64 (k : Int) ∧ Hid (Below wx.heap.size wx wy))
   case first =>
    cases jp with
    |false =>
     have hne : N = (encB ⟨op, xa, xb, xc, xn⟩).length := by rw [HN.out]; unfold sizN; rw [← HJP.out]; rfl
     have hen : (encB ⟨op, xa, xb, xc, xn⟩).length ≤ 3 := by unfold encB; (repeat' split) <;> simp
     have HEC := Lib.hid (encoded_any wx ⟨op, xa, xb, xc, xn⟩ HXK.out HJP.out.symm)
     unfold NewU8 at HEC
     rw [← hne] at HEC
     clear hne hen
     go_wp2_with (fail)
     go_at_call 147
     refine HEC.out.mono ?_
     rintro e w5 ⟨g5, c5, rfl, _, hb5⟩
     go_wp2_with (fail)
     go_meet
     exact ⟨rfl, rfl, Lib.hid hb5⟩
    |true =>
     have hnv : N = 2 + (if op = 21 then 1 else 0) + (if l then 1 else 0) := by rw [HN.out]; unfold sizN; rw [← HJP.out]; rfl
     have HNV := Lib.hid hnv
     clear hnv
     by_cases h21 : op = 21
     ·have b21 : ((op : Int) == 21) = true := by simp; omega
      have h21' := Lib.hid h21
      clear h21
      cases l with
      |true =>
       go_wp2_with (fail)
       go_meet
       exact ⟨by rw [HNV.out, if_pos h21'.out]; rfl, rfl, Lib.hid (Below.refl _ _)⟩
      |false =>
       go_wp2_with (fail)
       go_meet
       exact ⟨by rw [HNV.out, if_pos h21'.out]; rfl, rfl, Lib.hid (Below.refl _ _)⟩
     ·have b21 : ((op : Int) == 21) = false := by simp; omega
      have h21' := Lib.hid h21
      clear h21
      cases l with
      |true =>
       go_wp2_with (fail)
       go_meet
       exact ⟨by rw [HNV.out, if_neg h21'.out]; rfl, rfl, Lib.hid (Below.refl _ _)⟩
      |false =>
       go_wp2_with (fail)
       go_meet
       exact ⟨by rw [HNV.out, if_neg h21'.out]; rfl, rfl, Lib.hid (Below.refl _ _)⟩
   case rest =>
    obtain ⟨rfl, rfl, HBC⟩ := hcut
    have HSC := Lib.hid (HSX.out.below HBC.out)
    clear e0 e1 e2 e3 e4 clx hl3 HSX
    go_wp2_with (fail)
    obtain ⟨c2, c3, c4, c5, c6, f4, f5, f6⟩ := HSC.out.cells
    refine wp_region_tree (fun W => W.cell? ⟨pl, 4, none⟩ = some sv ∧ W.cell? ⟨pl, 5, none⟩ = some pv ∧ W.cell? ⟨pl, 6, none⟩ = some (.int .i64 (Z : Int))) [(0, false), (1, false), (2, false), (3, false), (4, false), (5, true), (6, false), (9, false), (10, false), (11, false), (12, true), (13, false), (14, false), (15, false), (16, true)] (.alt 7 (.alt 8 (.alt 17 (.alt 18 (.alt 19 (.alt 20 (.alt 21 (.alt 22 (.alt 23 (.alt 24 .fin .none) .none) .none) .none) .none) .none) .none) .none) (.alt 17 (.alt 8 (.alt 18 (.alt 19 (.alt 20 (.alt 21 (.alt 22 (.alt 23 (.alt 24 .fin .none) .none) .none) .none) .none) .none) .none) .none) .none)) (.alt 17 (.alt 7 (.alt 8 (.alt 18 (.alt 19 (.alt 20 (.alt 21 (.alt 22 (.alt 23 (.alt 24 .fin .none) .none) .none) .none) .none) .none) .none) .none) .none) .none)) 18 (by kernel_rfl) (by kernel_rfl) (fun d v c a w h => by cases d <;> exact h) ⟨c4, c5, c6⟩ ?_
    simp only [pickO, List.map_cons, List.map_nil, List.getD_cons_zero, List.getD_cons_succ]
    refine heldO_stepY (v := ?_) rfl ?_ ?_
    rotate_left
    ·intro W
     go_simp
     try rfl
    simp only [Act.put, List.setIfInBounds_toArray, List.set_cons_zero, List.set_cons_succ]
    refine heldO_stepY (v := ?_) rfl ?_ ?_
    rotate_left
    ·intro W
     go_simp
     try rfl
    simp only [Act.put, List.setIfInBounds_toArray, List.set_cons_zero, List.set_cons_succ]
    refine heldO_stepY (v := ?_) rfl ?_ ?_
    rotate_left
    ·intro W
     go_simp
     try rfl
    simp only [Act.put, List.setIfInBounds_toArray, List.set_cons_zero, List.set_cons_succ]
    refine heldO_stepY (v := ?_) rfl ?_ ?_
    rotate_left
    ·intro W
     go_simp
     try rfl
    simp only [Act.put, List.setIfInBounds_toArray, List.set_cons_zero, List.set_cons_succ]
    refine heldO_stepY (v := ?_) rfl ?_ ?_
    rotate_left
    ·intro W
     go_simp
     try rfl
    simp only [Act.put, List.setIfInBounds_toArray, List.set_cons_zero, List.set_cons_succ]
    refine heldO_step (v := ?_) rfl ?_ ?_
    rotate_left
    ·intro W hS
     obtain ⟨k0, k1, k2⟩ := hS
     go_simp
     try rfl
    simp only [Act.put, List.setIfInBounds_toArray, List.set_cons_zero, List.set_cons_succ]
    refine heldO_stepY (v := ?_) rfl ?_ ?_
    rotate_left
    ·intro W
     go_simp
     try rfl
    simp only [Act.put, List.setIfInBounds_toArray, List.set_cons_zero, List.set_cons_succ]
    refine heldO_stepY (v := ?_) rfl ?_ ?_
    rotate_left
    ·intro W
     go_simp
     try rfl
    simp only [Act.put, List.setIfInBounds_toArray, List.set_cons_zero, List.set_cons_succ]
    refine heldO_stepY (v := ?_) rfl ?_ ?_
    rotate_left
    ·intro W
     go_simp
     try rfl
    simp only [Act.put, List.setIfInBounds_toArray, List.set_cons_zero, List.set_cons_succ]
    refine heldO_stepY (v := ?_) rfl ?_ ?_
    rotate_left
    ·intro W
     go_simp
     try rfl
    simp only [Act.put, List.setIfInBounds_toArray, List.set_cons_zero, List.set_cons_succ]
    refine heldO_step (v := ?_) rfl ?_ ?_
    rotate_left
    ·intro W hS
     obtain ⟨k0, k1, k2⟩ := hS
     go_simp
     try rfl
    simp only [Act.put, List.setIfInBounds_toArray, List.set_cons_zero, List.set_cons_succ]
    refine heldO_stepY (v := ?_) rfl ?_ ?_
    rotate_left
    ·intro W
     go_simp
     try rfl
    simp only [Act.put, List.setIfInBounds_toArray, List.set_cons_zero, List.set_cons_succ]
    refine heldO_stepY (v := ?_) rfl ?_ ?_
    rotate_left
    ·intro W
     go_simp
     try rfl
    simp only [Act.put, List.setIfInBounds_toArray, List.set_cons_zero, List.set_cons_succ]
    refine heldO_stepY (v := ?_) rfl ?_ ?_
    rotate_left
    ·intro W
     go_simp
     try rfl
    simp only [Act.put, List.setIfInBounds_toArray, List.set_cons_zero, List.set_cons_succ]
    refine heldO_step (v := ?_) rfl ?_ ?_
    rotate_left
    ·intro W hS
     obtain ⟨k0, k1, k2⟩ := hS
     go_simp
     try rfl
    simp only [Act.put, List.setIfInBounds_toArray, List.set_cons_zero, List.set_cons_succ]
    refine heldO_nil ?_
    have HT0 := Lib.hid (HSC.out.below (Below.refl _ _).drew).t
    have HZ1 : Hid (IntKind.i64.wrap ((Z : Int) + (N : Int)) = ((Z + N : Nat) : Int)) := Lib.hid (by rw [IntWalk.i64_in _ (by omega)]; omega)
    have HEND : Hid (IntKind.i64.wrap ((k : Int) + 1) = ((k + 1 : Nat) : Int)) := Lib.hid (by rw [IntWalk.i64_in _ (by omega)]; omega)
    clear c2 c3 c4 c5 c6 f4 f5 f6 HSC HBC HXK HJ HJP HN
    generalize World.drew _ = wd at *
    refine treeO_alt rfl rfl ?_ ?_
    ·
     intro K hK
     go_simp
     have hTa := HT0.out.below (below1 wd (.cells #[.int .i64 (N : Int)] 3))
     have hBa : Blk (wd.alloc (.cells #[.int .i64 (N : Int)] 3)) wd.heap.size [.int .i64 (N : Int)] := Blk.new _ _ _
     have hSa : (wd.alloc (.cells #[.int .i64 (N : Int)] 3)).heap.size = wd.heap.size + 1 := by simp
     refine hK _ _ (fun _ => (by have h := hTa.blk; exact ⟨h.cell 4, h.cell 5, h.cell 6⟩)) ?_
     clear hK K
     generalize wd.alloc _ = waa at *
     have HTa := Lib.hid hTa; have HBa := Lib.hid hBa; have HWa := Lib.hid hSa
     clear hTa hBa hSa
     refine treeO_alt rfl rfl ?_ ?_
     ·-- 8 17 18
      intro K hK
      have hszb := HTa.out.size
      refine lies_wp rfl ?_
      refine step_append_lies (E := False) _ rfl _ _ 26 (by rfl) w.heap.size 3 i0 (.int .i64 0) 1 8 Tryd.underlying26 hi hz0 hz1 hz2 rfl (by decide) sv k (nats zs) (by rfl) (by rw [← HZL.out]; exact HTa.out.siz) ⟨wd.heap.size, 0, none⟩ 1 1 [.int .i64 (N : Int)] (by rfl) rfl (news_blk1 HBa.out) (by simp [Value.oneCell']) (by omega) (by unfold maxLen; omega) (by omega) hszb _ rfl ?_
      intro gb cb wbb hob hgb hatb hltb
      have hTb := HTa.out.appS (v6 := .slice (some ⟨gb, 0, none⟩) (k + 1) cb) (by rw [HZL.out]; exact hob) hgb (hatb.elim (fun h => .inl h.symm) (fun h => .inr (congrArg some h)))
      refine hK _ _ (fun _ => (by have h := hTb.blk; exact ⟨h.cell 4, h.cell 5, h.cell 6⟩)) ?_
      clear hK K
      have HTb := Lib.hid hTb
      clear hTb hob hgb hatb hszb
      refine treeO_alt rfl rfl ?_ treeO_none
      intro K hK
      go_simp
      have hTc := HTb.out.below (below1 wbb (.cells #[.int .i64 (Z : Int)] 3))
      have hBc : Blk (wbb.alloc (.cells #[.int .i64 (Z : Int)] 3)) wbb.heap.size [.int .i64 (Z : Int)] := Blk.new _ _ _
      have hSc : (wbb.alloc (.cells #[.int .i64 (Z : Int)] 3)).heap.size = wbb.heap.size + 1 := by simp
      refine hK _ _ (fun _ => (by have h := hTc.blk; exact ⟨h.cell 4, h.cell 5, h.cell 6⟩)) ?_
      clear hK K
      generalize wbb.alloc _ = wac at *
      have HTc := Lib.hid hTc; have HBc := Lib.hid hBc; have HWc := Lib.hid hSc
      clear hTc hBc hSc
      refine treeO_alt rfl rfl ?_ treeO_none
      intro K hK
      have hszd := HTc.out.size
      refine lies_wp rfl ?_
      refine step_append_lies (E := False) _ rfl _ _ 26 (by rfl) w.heap.size 3 i0 (.int .i64 0) 1 8 Tryd.underlying26 hi hz0 hz1 hz2 rfl (by decide) pv k (nats ys) (by rfl) (by rw [← HYL.out]; exact HTc.out.plc) ⟨wbb.heap.size, 0, none⟩ 1 1 [.int .i64 (Z : Int)] (by rfl) rfl (news_blk1 HBc.out) (by simp [Value.oneCell']) (by omega) (by unfold maxLen; omega) (by omega) hszd _ rfl ?_
      intro gd cd wbd hod hgd hatd hltd
      have hTd := HTc.out.appP (v6 := .slice (some ⟨gd, 0, none⟩) (k + 1) cd) (by rw [HYL.out]; exact hod) hgd (hatd.elim (fun h => .inl h.symm) (fun h => .inr (congrArg some h)))
      refine hK _ _ (fun h => absurd h (by decide)) ?_
      clear hK K
      have HTd := Lib.hid hTd
      clear hTd hod hgd hatd hszd
      obtain ⟨x4, x5, x6, y4, y5⟩ := (by have h := HTd.out.blk; exact ⟨h.cell 4, h.cell 5, h.cell 6, h.frozen 4, h.frozen 5⟩ : _ ∧ _ ∧ _ ∧ _ ∧ _)
      simp only [List.getElem?_cons_zero, List.getElem?_cons_succ] at x4 x5 x6
      refine treeO_alt rfl rfl ?_ treeO_none
      intro K hK
      go_simp
      refine hK _ _ (fun h => absurd h (by decide)) ?_
      clear hK K
      refine treeO_alt rfl rfl ?_ treeO_none
      intro K hK
      go_simp
      refine hK _ _ (fun h => absurd h (by decide)) ?_
      clear hK K
      refine treeO_alt rfl rfl ?_ treeO_none
      intro K hK
      go_simp
      refine hK _ _ (fun h => absurd h (by decide)) ?_
      clear hK K
      refine treeO_alt rfl rfl ?_ treeO_none
      intro K hK
      go_simp
      refine hK _ _ (fun h => absurd h (by decide)) ?_
      clear hK K
      refine treeO_alt rfl rfl ?_ treeO_none
      intro K hK
      go_simp
      refine hK _ _ (fun h => absurd h (by decide)) ?_
      clear hK K
      refine treeO_alt rfl rfl ?_ treeO_none
      intro K hK
      go_simp
      refine hK _ _ (fun h => absurd h (by decide)) ?_
      clear hK K
      refine treeO_fin ?_
      have HL := Lib.hid HTd.out.stored
      clear x4 x5 x6 y4 y5 HTd
      generalize World.setCell _ _ _ = w9 at *
      have hc6 := HL.out.cells.2.2.2.2.1
      have hf6 := HL.out.cells.2.2.2.2.2.2.2
      have hzw := HZ1.out
      go_wp2_with (fail)
      go_roundw
      case rel =>
       refine ⟨k + 1, .slice (some ⟨gb, 0, none⟩) (k + 1) cb, .slice (some ⟨gd, 0, none⟩) (k + 1) cd, by omega, by go_num, Lib.hid ?_⟩
       rw [HP1.out, HS1.out, HP2.out]
       exact HL.out.sized (Z + N)
      case measure => simp [intOf]; omega
     ·-- 17 8 18
      refine treeO_alt rfl rfl ?_ treeO_none
      intro K hK
      go_simp
      have hTe := HTa.out.below (below1 waa (.cells #[.int .i64 (Z : Int)] 3))
      have hBe : Blk (waa.alloc (.cells #[.int .i64 (Z : Int)] 3)) waa.heap.size [.int .i64 (Z : Int)] := Blk.new _ _ _
      have hSe : (waa.alloc (.cells #[.int .i64 (Z : Int)] 3)).heap.size = waa.heap.size + 1 := by simp
      have hOe := HBa.out.alloc (.cells #[.int .i64 (Z : Int)] 3)
      refine hK _ _ (fun _ => (by have h := hTe.blk; exact ⟨h.cell 4, h.cell 5, h.cell 6⟩)) ?_
      clear hK K
      generalize waa.alloc _ = wae at *
      have HTe := Lib.hid hTe; have HBe := Lib.hid hBe; have HWe := Lib.hid hSe
      have HOe := Lib.hid hOe; clear hOe
      clear hTe hBe hSe
      refine treeO_alt rfl rfl ?_ treeO_none
      intro K hK
      have hszf := HTe.out.size
      refine lies_wp rfl ?_
      refine step_append_lies (E := False) _ rfl _ _ 26 (by rfl) w.heap.size 3 i0 (.int .i64 0) 1 8 Tryd.underlying26 hi hz0 hz1 hz2 rfl (by decide) sv k (nats zs) (by rfl) (by rw [← HZL.out]; exact HTe.out.siz) ⟨wd.heap.size, 0, none⟩ 1 1 [.int .i64 (N : Int)] (by rfl) rfl (news_blk1 HOe.out) (by simp [Value.oneCell']) (by omega) (by unfold maxLen; omega) (by omega) hszf _ rfl ?_
      intro gf cf wbf hof hgf hatf hltf
      have hTf := HTe.out.appS (v6 := .slice (some ⟨gf, 0, none⟩) (k + 1) cf) (by rw [HZL.out]; exact hof) hgf (hatf.elim (fun h => .inl h.symm) (fun h => .inr (congrArg some h)))
      have HOf := Lib.hid (HBe.out.grown hgf (fun h => by have h1 := World.ownsRow.lt HTe.out.siz _ h; have h2 := HTa.out.size; have h3 := HWa.out; have := (World.ownsRow.lt HTa.out.siz _ h).2; omega))
      refine hK _ _ (fun _ => (by have h := hTf.blk; exact ⟨h.cell 4, h.cell 5, h.cell 6⟩)) ?_
      clear hK K
      have HTf := Lib.hid hTf
      clear hTf hof hgf hatf hszf
      refine treeO_alt rfl rfl ?_ treeO_none
      intro K hK
      have hszg := HTf.out.size
      refine lies_wp rfl ?_
      refine step_append_lies (E := False) _ rfl _ _ 26 (by rfl) w.heap.size 3 i0 (.int .i64 0) 1 8 Tryd.underlying26 hi hz0 hz1 hz2 rfl (by decide) pv k (nats ys) (by rfl) (by rw [← HYL.out]; exact HTf.out.plc) ⟨waa.heap.size, 0, none⟩ 1 1 [.int .i64 (Z : Int)] (by rfl) rfl (news_blk1 HOf.out) (by simp [Value.oneCell']) (by omega) (by unfold maxLen; omega) (by omega) hszg _ rfl ?_
      intro gg cg wbg hog hgg hatg hltg
      have hTg := HTf.out.appP (v6 := .slice (some ⟨gg, 0, none⟩) (k + 1) cg) (by rw [HYL.out]; exact hog) hgg (hatg.elim (fun h => .inl h.symm) (fun h => .inr (congrArg some h)))
      refine hK _ _ (fun h => absurd h (by decide)) ?_
      clear hK K
      have HTg := Lib.hid hTg
      clear hTg hog hgg hatg hszg
      obtain ⟨x4, x5, x6, y4, y5⟩ := (by have h := HTg.out.blk; exact ⟨h.cell 4, h.cell 5, h.cell 6, h.frozen 4, h.frozen 5⟩ : _ ∧ _ ∧ _ ∧ _ ∧ _)
      simp only [List.getElem?_cons_zero, List.getElem?_cons_succ] at x4 x5 x6
      refine treeO_alt rfl rfl ?_ treeO_none
      intro K hK
      go_simp
      refine hK _ _ (fun h => absurd h (by decide)) ?_
      clear hK K
      refine treeO_alt rfl rfl ?_ treeO_none
      intro K hK
      go_simp
      refine hK _ _ (fun h => absurd h (by decide)) ?_
      clear hK K
      refine treeO_alt rfl rfl ?_ treeO_none
      intro K hK
      go_simp
      refine hK _ _ (fun h => absurd h (by decide)) ?_
      clear hK K
      refine treeO_alt rfl rfl ?_ treeO_none
      intro K hK
      go_simp
      refine hK _ _ (fun h => absurd h (by decide)) ?_
      clear hK K
      refine treeO_alt rfl rfl ?_ treeO_none
      intro K hK
      go_simp
      refine hK _ _ (fun h => absurd h (by decide)) ?_
      clear hK K
      refine treeO_alt rfl rfl ?_ treeO_none
      intro K hK
      go_simp
      refine hK _ _ (fun h => absurd h (by decide)) ?_
      clear hK K
      refine treeO_fin ?_
      have HL := Lib.hid HTg.out.stored
      clear x4 x5 x6 y4 y5 HTg
      generalize World.setCell _ _ _ = w9 at *
      have hc6 := HL.out.cells.2.2.2.2.1
      have hf6 := HL.out.cells.2.2.2.2.2.2.2
      have hzw := HZ1.out
      go_wp2_with (fail)
      go_roundw
      case rel =>
       refine ⟨k + 1, .slice (some ⟨gf, 0, none⟩) (k + 1) cf, .slice (some ⟨gg, 0, none⟩) (k + 1) cg, by omega, by go_num, Lib.hid ?_⟩
       rw [HP1.out, HS1.out, HP2.out]
       exact HL.out.sized (Z + N)
      case measure => simp [intOf]; omega
    ·-- 17 7 8 18
     refine treeO_alt rfl rfl ?_ treeO_none
     intro K hK
     go_simp
     have hTh := HT0.out.below (below1 wd (.cells #[.int .i64 (Z : Int)] 3))
     have hBh : Blk (wd.alloc (.cells #[.int .i64 (Z : Int)] 3)) wd.heap.size [.int .i64 (Z : Int)] := Blk.new _ _ _
     have hSh : (wd.alloc (.cells #[.int .i64 (Z : Int)] 3)).heap.size = wd.heap.size + 1 := by simp
     refine hK _ _ (fun _ => (by have h := hTh.blk; exact ⟨h.cell 4, h.cell 5, h.cell 6⟩)) ?_
     clear hK K
     generalize wd.alloc _ = wah at *
     have HTh := Lib.hid hTh; have HBh := Lib.hid hBh; have HWh := Lib.hid hSh
     clear hTh hBh hSh
     refine treeO_alt rfl rfl ?_ treeO_none
     intro K hK
     go_simp
     have hTi := HTh.out.below (below1 wah (.cells #[.int .i64 (N : Int)] 3))
     have hBi : Blk (wah.alloc (.cells #[.int .i64 (N : Int)] 3)) wah.heap.size [.int .i64 (N : Int)] := Blk.new _ _ _
     have hSi : (wah.alloc (.cells #[.int .i64 (N : Int)] 3)).heap.size = wah.heap.size + 1 := by simp
     have hOi := HBh.out.alloc (.cells #[.int .i64 (N : Int)] 3)
     refine hK _ _ (fun _ => (by have h := hTi.blk; exact ⟨h.cell 4, h.cell 5, h.cell 6⟩)) ?_
     clear hK K
     generalize wah.alloc _ = wai at *
     have HTi := Lib.hid hTi; have HBi := Lib.hid hBi; have HWi := Lib.hid hSi
     have HOi := Lib.hid hOi; clear hOi
     clear hTi hBi hSi
     refine treeO_alt rfl rfl ?_ treeO_none
     intro K hK
     have hszj := HTi.out.size
     refine lies_wp rfl ?_
     refine step_append_lies (E := False) _ rfl _ _ 26 (by rfl) w.heap.size 3 i0 (.int .i64 0) 1 8 Tryd.underlying26 hi hz0 hz1 hz2 rfl (by decide) sv k (nats zs) (by rfl) (by rw [← HZL.out]; exact HTi.out.siz) ⟨wah.heap.size, 0, none⟩ 1 1 [.int .i64 (N : Int)] (by rfl) rfl (news_blk1 HBi.out) (by simp [Value.oneCell']) (by omega) (by unfold maxLen; omega) (by omega) hszj _ rfl ?_
     intro gj cj wbj hoj hgj hatj hltj
     have hTj := HTi.out.appS (v6 := .slice (some ⟨gj, 0, none⟩) (k + 1) cj) (by rw [HZL.out]; exact hoj) hgj (hatj.elim (fun h => .inl h.symm) (fun h => .inr (congrArg some h)))
     have HOj := Lib.hid (HOi.out.grown hgj (fun h => by have := (World.ownsRow.lt HT0.out.siz _ h).2; omega))
     refine hK _ _ (fun _ => (by have h := hTj.blk; exact ⟨h.cell 4, h.cell 5, h.cell 6⟩)) ?_
     clear hK K
     have HTj := Lib.hid hTj
     clear hTj hoj hgj hatj hszj
     refine treeO_alt rfl rfl ?_ treeO_none
     intro K hK
     have hszk := HTj.out.size
     refine lies_wp rfl ?_
     refine step_append_lies (E := False) _ rfl _ _ 26 (by rfl) w.heap.size 3 i0 (.int .i64 0) 1 8 Tryd.underlying26 hi hz0 hz1 hz2 rfl (by decide) pv k (nats ys) (by rfl) (by rw [← HYL.out]; exact HTj.out.plc) ⟨wd.heap.size, 0, none⟩ 1 1 [.int .i64 (Z : Int)] (by rfl) rfl (news_blk1 HOj.out) (by simp [Value.oneCell']) (by omega) (by unfold maxLen; omega) (by omega) hszk _ rfl ?_
     intro gk ck wbk hok hgk hatk hltk
     have hTk := HTj.out.appP (v6 := .slice (some ⟨gk, 0, none⟩) (k + 1) ck) (by rw [HYL.out]; exact hok) hgk (hatk.elim (fun h => .inl h.symm) (fun h => .inr (congrArg some h)))
     refine hK _ _ (fun h => absurd h (by decide)) ?_
     clear hK K
     have HTk := Lib.hid hTk
     clear hTk hok hgk hatk hszk
     obtain ⟨x4, x5, x6, y4, y5⟩ := (by have h := HTk.out.blk; exact ⟨h.cell 4, h.cell 5, h.cell 6, h.frozen 4, h.frozen 5⟩ : _ ∧ _ ∧ _ ∧ _ ∧ _)
     simp only [List.getElem?_cons_zero, List.getElem?_cons_succ] at x4 x5 x6
     refine treeO_alt rfl rfl ?_ treeO_none
     intro K hK
     go_simp
     refine hK _ _ (fun h => absurd h (by decide)) ?_
     clear hK K
     refine treeO_alt rfl rfl ?_ treeO_none
     intro K hK
     go_simp
     refine hK _ _ (fun h => absurd h (by decide)) ?_
     clear hK K
     refine treeO_alt rfl rfl ?_ treeO_none
     intro K hK
     go_simp
     refine hK _ _ (fun h => absurd h (by decide)) ?_
     clear hK K
     refine treeO_alt rfl rfl ?_ treeO_none
     intro K hK
     go_simp
     refine hK _ _ (fun h => absurd h (by decide)) ?_
     clear hK K
     refine treeO_alt rfl rfl ?_ treeO_none
     intro K hK
     go_simp
     refine hK _ _ (fun h => absurd h (by decide)) ?_
     clear hK K
     refine treeO_alt rfl rfl ?_ treeO_none
     intro K hK
     go_simp
     refine hK _ _ (fun h => absurd h (by decide)) ?_
     clear hK K
     refine treeO_fin ?_
     have HL := Lib.hid HTk.out.stored
     clear x4 x5 x6 y4 y5 HTk
     generalize World.setCell _ _ _ = w9 at *
     have hc6 := HL.out.cells.2.2.2.2.1
     have hf6 := HL.out.cells.2.2.2.2.2.2.2
     have hzw := HZ1.out
     go_wp2_with (fail)
     go_roundw
     case rel =>
      refine ⟨k + 1, .slice (some ⟨gj, 0, none⟩) (k + 1) cj, .slice (some ⟨gk, 0, none⟩) (k + 1) ck, by omega, by go_num, Lib.hid ?_⟩
      rw [HP1.out, HS1.out, HP2.out]
      exact HL.out.sized (Z + N)
     case measure => simp [intOf]; omega
  ·obtain rfl : k = n := by omega
   go_wp2_with (fail)
   go_end0
   exact HQ.out _ _ _ HS.out
end Go.Proofs.YtbdbmmdnidonjaaDoor
set_option maxRecDepth 100000
namespace Go.Proofs.YtbdbmmdnidonjaaDoor
open Go.RowKit
def OffP (r : Int) (w : World) (e : Ending) (w' : World) : Prop := e = .returned (.int .i64 r) ∧ Below w.heap.size w w'
set_option maxHeartbeats 4000000 in
theorem offset_any (w : World) (B pl ib io ic n i N : Nat) (p s z : Int) (lv sv pv : Value) (zs ys : List Nat) (hb : Blk w pl [.int .i64 p, .int .i64 s, .slice (some ⟨ib, io, none⟩) n ic, lv, sv, pv, .int .i64 z])
  (hN : w.cell? ⟨ib, io + i * 5 + 4, none⟩ = some (.int .i64 (N : Int))) (hs : w.ownsRow B 3 1 sv n (nats zs)) (hp : w.ownsRow B 3 1 pv n (nats ys)) (hi : i < n) (hNn : N < n) (hzl : zs.length = n) (hyl : ys.length = n)
  (hz : zs.getD i 0 ≤ 10000) (hy : ys.getD i 0 ≤ 10000) (hyN : ys.getD N 0 ≤ 10000) :
  Calls Tryd.prog 148 #[.pointer (some ⟨pl, 0, none⟩), .int .i64 (i : Int)] w (OffP ((ys.getD N 0 : Int) - ys.getD i 0 - zs.getD i 0) w) := by
 obtain ⟨gz, cz, rfl⟩ := own_form hs (by omega)
 obtain ⟨gy, cy, rfl⟩ := own_form hp (by omega)
 have a1 := own_cell1 hs (j := i) (by omega)
 have a2 := own_cell1 hp (j := i) (by omega)
 have a3 := own_cell1 hp (j := N) (by omega)
 rw [nats_get (by omega)] at a1 a2 a3
 obtain ⟨x2, x3, x4, x5⟩ := (⟨hb.cell 2, hb.cell 3, hb.cell 4, hb.cell 5⟩ : _ ∧ _ ∧ _ ∧ _)
 simp only [List.getElem?_cons_zero, List.getElem?_cons_succ] at x2 x3 x4 x5
 obtain ⟨u, hu⟩ : ∃ u, u = zs.getD i 0 := ⟨_, rfl⟩
 obtain ⟨v, hv⟩ : ∃ v, v = ys.getD i 0 := ⟨_, rfl⟩
 obtain ⟨t, ht⟩ : ∃ t, t = ys.getD N 0 := ⟨_, rfl⟩
 rw [← hu] at a1 hz ⊢
 rw [← hv] at a2 hy ⊢
 rw [← ht] at a3 hyN ⊢
 have i0 : (0 : Int) ≤ i := by omega
 have i1 : (i : Int) < n := by omega
 have n0 : (0 : Int) ≤ N := by omega
 have n1 : (N : Int) < n := by omega
 have s1 : IntKind.i64.wrap ((t : Int) - (v : Int)) = (t : Int) - (v : Int) := IntWalk.i64_in _ (by omega)
 have s2 : IntKind.i64.wrap ((t : Int) - (v : Int) - (u : Int)) = (t : Int) - (v : Int) - (u : Int) := IntWalk.i64_in _ (by omega)
 clear hu hv ht hs hp hb hi hNn hzl hyl x3
 go_enter Tryd.func148, Tryd.ntmps148
 go_wp2_with (fail)
 go_quiet (fail)
 go_wp2_with (fail)
 go_ret
 refine ⟨rfl, ?_⟩
 (repeat' (first | exact Below.refl _ _ | assumption | (refine Below.setCell ?_ ?_ _) | (refine Below.alloc ?_ ?_ _) | (refine belowDrewN ?_ _) | omega | (simp; done) | (simp; omega)))
end Go.Proofs.YtbdbmmdnidonjaaDoor
