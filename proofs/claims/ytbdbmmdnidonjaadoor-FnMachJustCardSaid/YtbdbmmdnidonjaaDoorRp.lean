/- How the machine's run lies in the memory of impl: the machine's block, a call's block. No program in sight. -/
import Derived.Test.YtbdbmmdnidonjaaDoorBlk
set_option maxRecDepth 100000
namespace Go.Proofs.YtbdbmmdnidonjaaDoor
open Go.RowKit

theorem Fr.transNew {fx nw : List Nat} {sa sb sc : Value} {a b c : World} (h : Fr fx sa a sb b) (k : Fr (fx ++ nw) sb b sc c) (hn : ∀ x ∈ nw, a.heap.size ≤ x) : Fr fx sa a sc c := by
  refine ⟨⟨k.only.os.trans h.only.os, k.only.tape.trans h.only.tape, k.only.output.trans h.only.output, Nat.le_trans h.only.size k.only.size, fun i hi hm => ?_⟩, ?_⟩
  · have hs : sa.ownBlock ≠ some i := fun e => hm (List.mem_append_right _ (by rw [e]; simp))
    have hf : i ∉ fx := fun e => hm (List.mem_append_left _ e)
    rw [k.block (Nat.lt_of_lt_of_le hi h.size) (fun hm2 => (List.mem_append.1 hm2).elim hf (fun h2 => by have := hn i h2; omega)) (h.ne hi hs)]
    exact h.block hi hf hs
  · rcases k.row with he | he
    · rw [he]; exact h.row
    · exact .inr fun i hi => Nat.le_trans h.only.size (he i hi)

def mkMac (T u : Nat) (sv : Value) (cells : List Nat) (rest : List Value) : List Value :=
  .int .i64 (T : Int) :: .int .i64 (u : Int) :: sv :: (nats cells ++ rest)
def mkCall (pm : Nat) (regs : List Nat) (slv inv : Value) (gives : List Nat) (res : Nat) : List Value :=
  .pointer (some ⟨pm, 0, none⟩) :: (nats regs ++ (slv :: inv :: (nats gives ++ [.int .i64 (res : Int)])))

theorem mkMac_cell {T u : Nat} {sv : Value} {cells : List Nat} {rest : List Value} {i : Nat} (hi : i < cells.length) : (mkMac T u sv cells rest)[3 + i]? = some (.int .i64 ((cells.getD i 0 : Nat) : Int)) := by
  rw [show 3 + i = i + 1 + 1 + 1 by omega]
  unfold mkMac
  simp only [List.getElem?_cons_succ]
  rw [List.getElem?_append_left (by rw [nats_len]; exact hi), nats_get hi]
theorem mkMac_used (T u u' : Nat) (sv : Value) (cells : List Nat) (rest : List Value) : (mkMac T u sv cells rest).set 1 (.int .i64 (u' : Int)) = mkMac T u' sv cells rest := rfl
theorem mkMac_said (T u : Nat) (sv sv' : Value) (cells : List Nat) (rest : List Value) : (mkMac T u sv cells rest).set 2 sv' = mkMac T u sv' cells rest := rfl
theorem mkMac_set {T u : Nat} {sv : Value} {cells : List Nat} {rest : List Value} {i : Nat} (hi : i < cells.length) (v : Nat) : (mkMac T u sv cells rest).set (3 + i) (.int .i64 (v : Int)) = mkMac T u sv (cells.set i v) rest := by
  rw [show 3 + i = i + 1 + 1 + 1 by omega]
  unfold mkMac
  simp only [List.set_cons_succ]
  rw [List.set_append_left _ _ (by rw [nats_len]; exact hi), nats_set]

section
variable {pm : Nat} {regs : List Nat} {slv inv : Value} {gives : List Nat} {res : Nat}
theorem mkCall_reg {a : Nat} (ha : a < regs.length) : (mkCall pm regs slv inv gives res)[1 + a]? = some (.int .i64 ((regs.getD a 0 : Nat) : Int)) := by
  rw [show 1 + a = a + 1 by omega]
  unfold mkCall
  simp only [List.getElem?_cons_succ]
  rw [List.getElem?_append_left (by rw [nats_len]; exact ha), nats_get ha]
theorem mkCall_behind (hr : regs.length = 8) (j : Nat) : (mkCall pm regs slv inv gives res)[9 + j]? = (slv :: inv :: (nats gives ++ [.int .i64 (res : Int)]))[j]? := by
  rw [show 9 + j = (8 + j) + 1 by omega]
  unfold mkCall
  simp only [List.getElem?_cons_succ]
  rw [List.getElem?_append_right (by rw [nats_len]; omega), nats_len, hr]
  congr 1
  omega
theorem mkCall_slots (hr : regs.length = 8) : (mkCall pm regs slv inv gives res)[9]? = some slv := mkCall_behind hr 0
theorem mkCall_in (hr : regs.length = 8) : (mkCall pm regs slv inv gives res)[10]? = some inv := mkCall_behind hr 1
theorem mkCall_give (hr : regs.length = 8) {j : Nat} (hj : j < gives.length) : (mkCall pm regs slv inv gives res)[11 + j]? = some (.int .i64 ((gives.getD j 0 : Nat) : Int)) := by
  rw [show 11 + j = 9 + (j + 1 + 1) by omega, mkCall_behind hr]
  simp only [List.getElem?_cons_succ]
  rw [List.getElem?_append_left (by rw [nats_len]; exact hj), nats_get hj]
theorem mkCall_res (hr : regs.length = 8) (hg : gives.length = 3) : (mkCall pm regs slv inv gives res)[14]? = some (.int .i64 (res : Int)) := by
  rw [show 14 = 9 + (3 + 1 + 1) by omega, mkCall_behind hr]
  simp only [List.getElem?_cons_succ]
  rw [List.getElem?_append_right (by rw [nats_len]; omega), nats_len, hg]
  rfl
theorem mkCall_setReg {a : Nat} (ha : a < regs.length) (v : Nat) : (mkCall pm regs slv inv gives res).set (1 + a) (.int .i64 (v : Int)) = mkCall pm (regs.set a v) slv inv gives res := by
  rw [show 1 + a = a + 1 by omega]
  unfold mkCall
  simp only [List.set_cons_succ]
  rw [List.set_append_left _ _ (by rw [nats_len]; exact ha), nats_set]
theorem mkCall_setGive (hr : regs.length = 8) {j : Nat} (hj : j < gives.length) (v : Nat) : (mkCall pm regs slv inv gives res).set (11 + j) (.int .i64 (v : Int)) = mkCall pm regs slv inv (gives.set j v) res := by
  rw [show 11 + j = (10 + j) + 1 by omega]
  unfold mkCall
  simp only [List.set_cons_succ]
  rw [List.set_append_right _ _ (by rw [nats_len]; omega), nats_len, hr, show 10 + j - 8 = j + 1 + 1 by omega]
  simp only [List.set_cons_succ]
  rw [List.set_append_left _ _ (by rw [nats_len]; exact hj), nats_set]
theorem mkCall_setRes (hr : regs.length = 8) (hg : gives.length = 3) (v : Nat) : (mkCall pm regs slv inv gives res).set 14 (.int .i64 (v : Int)) = mkCall pm regs slv inv gives v := by
  rw [show 14 = 13 + 1 by omega]
  unfold mkCall
  simp only [List.set_cons_succ]
  rw [List.set_append_right _ _ (by rw [nats_len]; omega), nats_len, hr, show 13 - 8 = 3 + 1 + 1 by omega]
  simp only [List.set_cons_succ]
  rw [List.set_append_right _ _ (by rw [nats_len]; omega), nats_len, hg]
  rfl
end

/-- the machine lies at pm -/
structure MacAt (B : Nat) (w : World) (pm : Nat) (rest : List Value) (T : Nat) (s : Cm) (sv : Value) : Prop where
  blk : Blk w pm (mkMac T (T - s.left) sv s.cells rest)
  said : Said w B sv s.said
  sep : sv.ownBlock ≠ some pm
  left : s.left ≤ T
  ge : B ≤ pm

/-- the numbers that a call was given -/
def InAt (w : World) (inv : Value) (xs : List Nat) (P : Nat → Prop) : Prop :=
  ∃ a cap, inv = .slice a xs.length cap ∧ (xs = [] ∨ ∃ pi rest, a = some ⟨pi, 0, none⟩ ∧ Blk w pi (nats xs ++ rest) ∧ P pi)

/-- a call lies at pc, its slots at pl -/
structure CallAt (w : World) (pm : Nat) (sv : Value) (pc pl : Nat) (par : Nat) (l : Lc) : Prop where
  blk : ∃ inv, Blk w pc (mkCall pm l.regs (.slice (some ⟨pl, 0, none⟩) l.slots.length l.slots.length) inv l.gives l.res) ∧
    InAt w inv (l.args.take par) (fun pi => pi ≠ pm ∧ pi ≠ pc ∧ pi ≠ pl ∧ sv.ownBlock ≠ some pi)
  slots : Blk w pl (nats l.slots)
  cm : pc ≠ pm
  lm : pl ≠ pm
  lc : pl ≠ pc
  sc : sv.ownBlock ≠ some pc
  sl : sv.ownBlock ≠ some pl

theorem InAt.mono {w w' : World} {inv : Value} {xs : List Nat} {P Q : Nat → Prop} (h : InAt w inv xs P) (hw : ∀ pi, pi < w.heap.size → P pi → w'.heap[pi]? = w.heap[pi]? ∧ Q pi) : InAt w' inv xs Q := by
  obtain ⟨a, cap, hv, h⟩ := h
  refine ⟨a, cap, hv, ?_⟩
  rcases h with h | ⟨pi, rest, ha, hb, hp⟩
  · exact .inl h
  · obtain ⟨h1, h2⟩ := hw pi hb.lt hp
    exact .inr ⟨pi, rest, ha, hb.same h1, h2⟩

/-- a call stands where its blocks stand, and the said row is still another -/
theorem CallAt.keep {w w' : World} {pm : Nat} {sv sv' : Value} {pc pl par : Nat} {l : Lc} (h : CallAt w pm sv pc pl par l) (hf : Fr [pm] sv w sv' w') : CallAt w' pm sv' pc pl par l := by
  obtain ⟨⟨inv, hb, hi⟩, hs, h1, h2, h3, h4, h5⟩ := h
  refine ⟨⟨inv, hf.blk hb (by simpa using h1) h4, hi.mono fun pi hlt hp => ⟨hf.block hlt (by simpa using hp.1) hp.2.2.2, hp.1, hp.2.1, hp.2.2.1, hf.ne hlt hp.2.2.2⟩⟩, hf.blk hs (by simpa using h2) h5, h1, h2, h3, hf.ne hb.lt h4, hf.ne hs.lt h5⟩

/-- a cell of the call's block is set -/
theorem CallAt.setC {w : World} {pm : Nat} {sv : Value} {pc pl par : Nat} {l l2 : Lc} (h : CallAt w pm sv pc pl par l) (j : Nat) (u : Value) (hs : l2.slots = l.slots) (ha : l2.args = l.args)
    (hm : ∀ slv inv, (mkCall pm l.regs slv inv l.gives l.res).set j u = mkCall pm l2.regs slv inv l2.gives l2.res) : CallAt (w.setCell ⟨pc, j, none⟩ u) pm sv pc pl par l2 := by
  obtain ⟨⟨inv, hb, hi⟩, hsl, h1, h2, h3, h4, h5⟩ := h
  refine ⟨⟨inv, ?_, ?_⟩, ?_, h1, h2, h3, h4, h5⟩
  · rw [hs, ← hm]; exact hb.set j u
  · rw [ha]; exact hi.mono fun pi hlt hp => ⟨Below.heap_setCell _ _ _ _ hp.2.1, hp⟩
  · rw [hs]; exact hsl.other h3 u
theorem CallAt.setReg {w : World} {pm : Nat} {sv : Value} {pc pl par : Nat} {l : Lc} (h : CallAt w pm sv pc pl par l) {a : Nat} (ha : a < l.regs.length) (v : Nat) : CallAt (w.setCell ⟨pc, 1 + a, none⟩ (.int .i64 (v : Int))) pm sv pc pl par (l.put a v) :=
  h.setC _ _ rfl rfl fun _ _ => mkCall_setReg ha v
theorem CallAt.setGive {w : World} {pm : Nat} {sv : Value} {pc pl par : Nat} {l : Lc} (h : CallAt w pm sv pc pl par l) (hr : l.regs.length = 8) {j : Nat} (hj : j < l.gives.length) (v : Nat) : CallAt (w.setCell ⟨pc, 11 + j, none⟩ (.int .i64 (v : Int))) pm sv pc pl par { l with gives := l.gives.set j v } :=
  h.setC _ _ rfl rfl fun _ _ => mkCall_setGive hr hj v
theorem CallAt.setRes {w : World} {pm : Nat} {sv : Value} {pc pl par : Nat} {l : Lc} (h : CallAt w pm sv pc pl par l) (hr : l.regs.length = 8) (hg : l.gives.length = 3) (v : Nat) : CallAt (w.setCell ⟨pc, 14, none⟩ (.int .i64 (v : Int))) pm sv pc pl par { l with res := v } :=
  h.setC _ _ rfl rfl fun _ _ => mkCall_setRes hr hg v
theorem CallAt.setSlot {w : World} {pm : Nat} {sv : Value} {pc pl par : Nat} {l : Lc} (h : CallAt w pm sv pc pl par l) (j v : Nat) : CallAt (w.setCell ⟨pl, j, none⟩ (.int .i64 (v : Int))) pm sv pc pl par { l with slots := l.slots.set j v } := by
  obtain ⟨⟨inv, hb, hi⟩, hsl, h1, h2, h3, h4, h5⟩ := h
  refine ⟨⟨inv, ?_, ?_⟩, ?_, h1, h2, h3, h4, h5⟩
  · simp only [List.length_set]; exact hb.other (fun e => h3 e.symm) _
  · exact hi.mono fun pi hlt hp => ⟨Below.heap_setCell _ _ _ _ hp.2.2.1, hp⟩
  · rw [← nats_set]; exact hsl.set j _
/-- a store into a block that is none of the call's -/
theorem CallAt.other {w : World} {pm : Nat} {sv : Value} {pc pl par : Nat} {l : Lc} (h : CallAt w pm sv pc pl par l) (j : Nat) (u : Value) : CallAt (w.setCell ⟨pm, j, none⟩ u) pm sv pc pl par l :=
  h.keep ((Fr.refl _ _ _).setIn (by simp) u)
theorem CallAt.drew {w : World} {pm : Nat} {sv : Value} {pc pl par : Nat} {l : Lc} (h : CallAt w pm sv pc pl par l) : CallAt w.drew pm sv pc pl par l := h.keep (Fr.refl _ _ _).drew
theorem CallAt.below {w w' : World} {pm : Nat} {sv : Value} {pc pl par : Nat} {l : Lc} (h : CallAt w pm sv pc pl par l) (hb : Below w.heap.size w w') : CallAt w' pm sv pc pl par l := h.keep (Fr.below hb)

theorem MacAt.below {B : Nat} {w w' : World} {pm : Nat} {rest : List Value} {T : Nat} {s : Cm} {sv : Value} (h : MacAt B w pm rest T s sv) (hb : Below w.heap.size w w') : MacAt B w' pm rest T s sv :=
  ⟨h.blk.below hb, h.said.below hb, h.sep, h.left, h.ge⟩
theorem MacAt.drew {B : Nat} {w : World} {pm : Nat} {rest : List Value} {T : Nat} {s : Cm} {sv : Value} (h : MacAt B w pm rest T s sv) : MacAt B w.drew pm rest T s sv := h.below (Below.refl _ _).drew
/-- a store into a block of a call -/
theorem MacAt.other {B : Nat} {w : World} {pm : Nat} {rest : List Value} {T : Nat} {s : Cm} {sv : Value} (h : MacAt B w pm rest T s sv) {a : Addr} (ha : a.block ≠ pm) (hs : sv.ownBlock ≠ some a.block) (u : Value) : MacAt B (w.setCell a u) pm rest T s sv :=
  ⟨h.blk.other (fun e => ha e.symm) u, h.said.set hs u, h.sep, h.left, h.ge⟩
theorem MacAt.setCell {B : Nat} {w : World} {pm : Nat} {rest : List Value} {T : Nat} {s : Cm} {sv : Value} (h : MacAt B w pm rest T s sv) {i : Nat} (hi : i < s.cells.length) (v : Nat) : MacAt B (w.setCell ⟨pm, 3 + i, none⟩ (.int .i64 (v : Int))) pm rest T { s with cells := s.cells.set i v } sv :=
  ⟨by rw [← mkMac_set hi]; exact h.blk.set _ _, h.said.set h.sep _, h.sep, h.left, h.ge⟩
theorem MacAt.tick {B : Nat} {w : World} {pm : Nat} {rest : List Value} {T : Nat} {s : Cm} {sv : Value} (h : MacAt B w pm rest T s sv) (hl : s.left ≠ 0) (p : Nat) : MacAt B (w.setCell ⟨pm, 1, none⟩ (.int .i64 ((T - s.left + 1 : Nat) : Int))) pm rest T (s.step p) sv := by
  have hle := h.left
  refine ⟨?_, h.said.set h.sep _, h.sep, by show s.left - 1 ≤ T; omega, h.ge⟩
  show Blk _ pm (mkMac T (T - (s.left - 1)) sv s.cells rest)
  rw [show T - (s.left - 1) = T - s.left + 1 by omega, ← mkMac_used]
  exact h.blk.set _ _

end Go.Proofs.YtbdbmmdnidonjaaDoor
