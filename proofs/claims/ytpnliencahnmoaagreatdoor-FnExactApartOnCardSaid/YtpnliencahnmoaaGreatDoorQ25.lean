/- Rows of elements of more cells than one; texts and expressions are copied. Statements are copied. -/
import Derived.Test.YtpnliencahnmoaaGreatDoorQ24
import Derived.Test.YtpnliencahnmoaaGreatDoorQ8
import Derived.Test.YtpnliencahnmoaaGreatDoorQ1
set_option linter.unusedVariables false
set_option linter.unusedSimpArgs false
set_option linter.unusedVariables false
set_option linter.unusedSimpArgs false
set_option maxRecDepth 100000
namespace Go.Proofs.YtpnliencahnmoaaGreatDoor
open Go.RowKit
/-- a row of 3-cell elements -/
theorem own3 {w : World} {B : Nat} {e : TypeId} {g n cap : Nat} {ys : List Value} (h : w.ownsRow B e 3 (.slice (some ⟨g, 0, none⟩) n cap) n ys) (k : Nat) (hk : k < n) :
    (∃ y, w.cell? ⟨g, k * 3, none⟩ = some y) ∧ (∃ y, w.cell? ⟨g, k * 3 + 1, none⟩ = some y) ∧ (∃ y, w.cell? ⟨g, k * 3 + 2, none⟩ = some y) ∧
    w.frozen? ⟨g, k * 3, none⟩ = false ∧ w.frozen? ⟨g, k * 3 + 1, none⟩ = false ∧ w.frozen? ⟨g, k * 3 + 2, none⟩ = false := by
  have hlen : ys.length = n * 3 := h.1
  have at' : ∀ j, j < n * 3 → ∃ y, w.cell? ⟨g, j, none⟩ = some y := fun j hj => by
    rw [h.cellAt j hj, List.getElem?_eq_getElem (by omega)]
    exact ⟨_, rfl⟩
  exact ⟨at' _ (by omega), at' _ (by omega), at' _ (by omega), h.frozenAt _, h.frozenAt _, h.frozenAt _⟩
def set3 (ys : List Value) (k : Nat) (u0 u1 u2 : Value) : List Value := ((ys.set (k * 3) u0).set (k * 3 + 1) u1).set (k * 3 + 2) u2
theorem stored3 {w : World} {B : Nat} {e : TypeId} {g n cap : Nat} {ys : List Value} (h : w.ownsRow B e 3 (.slice (some ⟨g, 0, none⟩) n cap) n ys) (k : Nat) (u0 u1 u2 : Value) :
    (((w.setCell ⟨g, k * 3, none⟩ u0).setCell ⟨g, k * 3 + 1, none⟩ u1).setCell ⟨g, k * 3 + 2, none⟩ u2).ownsRow B e 3 (.slice (some ⟨g, 0, none⟩) n cap) n (set3 ys k u0 u1 u2) :=
  (((h.stored _ u0).1.stored _ u1).1.stored _ u2).1
theorem below_3 {w a : World} {B g : Nat} (h : Below B a w) (hg : B ≤ g) (k : Nat) (u0 u1 u2 : Value) :
    Below B a (((w.setCell ⟨g, k * 3, none⟩ u0).setCell ⟨g, k * 3 + 1, none⟩ u1).setCell ⟨g, k * 3 + 2, none⟩ u2) :=
  ((h.setCell (p := ⟨g, k * 3, none⟩) hg _).setCell (p := ⟨g, k * 3 + 1, none⟩) hg _).setCell (p := ⟨g, k * 3 + 2, none⟩) hg _
theorem heap_3 (w : World) (g k q : Nat) (u0 u1 u2 : Value) (h : q ≠ g) :
    (((w.setCell ⟨g, k * 3, none⟩ u0).setCell ⟨g, k * 3 + 1, none⟩ u1).setCell ⟨g, k * 3 + 2, none⟩ u2).heap[q]? = w.heap[q]? := by
  rw [Below.heap_setCell _ _ _ _ h, Below.heap_setCell _ _ _ _ h, Below.heap_setCell _ _ _ _ h]
theorem set3_ne0 {ys : List Value} {k i : Nat} {u0 u1 u2 : Value} (h : i ≠ k) : (set3 ys k u0 u1 u2)[i * 3]? = ys[i * 3]? := by
  unfold set3
  rw [List.getElem?_set_ne (by omega), List.getElem?_set_ne (by omega), List.getElem?_set_ne (by omega)]
theorem set3_ne1 {ys : List Value} {k i : Nat} {u0 u1 u2 : Value} (h : i ≠ k) : (set3 ys k u0 u1 u2)[i * 3 + 1]? = ys[i * 3 + 1]? := by
  unfold set3
  rw [List.getElem?_set_ne (by omega), List.getElem?_set_ne (by omega), List.getElem?_set_ne (by omega)]
theorem set3_ne2 {ys : List Value} {k i : Nat} {u0 u1 u2 : Value} (h : i ≠ k) : (set3 ys k u0 u1 u2)[i * 3 + 2]? = ys[i * 3 + 2]? := by
  unfold set3
  rw [List.getElem?_set_ne (by omega), List.getElem?_set_ne (by omega), List.getElem?_set_ne (by omega)]
theorem set3_at0 {ys : List Value} {k : Nat} {u0 u1 u2 : Value} (h : k * 3 + 2 < ys.length) : (set3 ys k u0 u1 u2)[k * 3]? = some u0 := by
  unfold set3
  rw [List.getElem?_set_ne (by omega), List.getElem?_set_ne (by omega), List.getElem?_set_self (by first | omega | (simp only [List.length_set]; omega))]
theorem set3_at1 {ys : List Value} {k : Nat} {u0 u1 u2 : Value} (h : k * 3 + 2 < ys.length) : (set3 ys k u0 u1 u2)[k * 3 + 1]? = some u1 := by
  unfold set3
  rw [List.getElem?_set_ne (by omega), List.getElem?_set_self (by first | omega | (simp only [List.length_set]; omega))]
theorem set3_at2 {ys : List Value} {k : Nat} {u0 u1 u2 : Value} (h : k * 3 + 2 < ys.length) : (set3 ys k u0 u1 u2)[k * 3 + 2]? = some u2 := by
  unfold set3
  rw [List.getElem?_set_self (by first | omega | (simp only [List.length_set]; omega))]
/-- a row of 4-cell elements -/
theorem own4 {w : World} {B : Nat} {e : TypeId} {g n cap : Nat} {ys : List Value} (h : w.ownsRow B e 4 (.slice (some ⟨g, 0, none⟩) n cap) n ys) (k : Nat) (hk : k < n) :
    (∃ y, w.cell? ⟨g, k * 4, none⟩ = some y) ∧ (∃ y, w.cell? ⟨g, k * 4 + 1, none⟩ = some y) ∧ (∃ y, w.cell? ⟨g, k * 4 + 2, none⟩ = some y) ∧ (∃ y, w.cell? ⟨g, k * 4 + 3, none⟩ = some y) ∧
    w.frozen? ⟨g, k * 4, none⟩ = false ∧ w.frozen? ⟨g, k * 4 + 1, none⟩ = false ∧ w.frozen? ⟨g, k * 4 + 2, none⟩ = false ∧ w.frozen? ⟨g, k * 4 + 3, none⟩ = false := by
  have hlen : ys.length = n * 4 := h.1
  have at' : ∀ j, j < n * 4 → ∃ y, w.cell? ⟨g, j, none⟩ = some y := fun j hj => by
    rw [h.cellAt j hj, List.getElem?_eq_getElem (by omega)]
    exact ⟨_, rfl⟩
  exact ⟨at' _ (by omega), at' _ (by omega), at' _ (by omega), at' _ (by omega), h.frozenAt _, h.frozenAt _, h.frozenAt _, h.frozenAt _⟩
def set4 (ys : List Value) (k : Nat) (u0 u1 u2 u3 : Value) : List Value := (((ys.set (k * 4) u0).set (k * 4 + 1) u1).set (k * 4 + 2) u2).set (k * 4 + 3) u3
theorem stored4 {w : World} {B : Nat} {e : TypeId} {g n cap : Nat} {ys : List Value} (h : w.ownsRow B e 4 (.slice (some ⟨g, 0, none⟩) n cap) n ys) (k : Nat) (u0 u1 u2 u3 : Value) :
    ((((w.setCell ⟨g, k * 4, none⟩ u0).setCell ⟨g, k * 4 + 1, none⟩ u1).setCell ⟨g, k * 4 + 2, none⟩ u2).setCell ⟨g, k * 4 + 3, none⟩ u3).ownsRow B e 4 (.slice (some ⟨g, 0, none⟩) n cap) n (set4 ys k u0 u1 u2 u3) :=
  ((((h.stored _ u0).1.stored _ u1).1.stored _ u2).1.stored _ u3).1
theorem below_4 {w a : World} {B g : Nat} (h : Below B a w) (hg : B ≤ g) (k : Nat) (u0 u1 u2 u3 : Value) :
    Below B a ((((w.setCell ⟨g, k * 4, none⟩ u0).setCell ⟨g, k * 4 + 1, none⟩ u1).setCell ⟨g, k * 4 + 2, none⟩ u2).setCell ⟨g, k * 4 + 3, none⟩ u3) :=
  (((h.setCell (p := ⟨g, k * 4, none⟩) hg _).setCell (p := ⟨g, k * 4 + 1, none⟩) hg _).setCell (p := ⟨g, k * 4 + 2, none⟩) hg _).setCell (p := ⟨g, k * 4 + 3, none⟩) hg _
theorem heap_4 (w : World) (g k q : Nat) (u0 u1 u2 u3 : Value) (h : q ≠ g) :
    ((((w.setCell ⟨g, k * 4, none⟩ u0).setCell ⟨g, k * 4 + 1, none⟩ u1).setCell ⟨g, k * 4 + 2, none⟩ u2).setCell ⟨g, k * 4 + 3, none⟩ u3).heap[q]? = w.heap[q]? := by
  rw [Below.heap_setCell _ _ _ _ h, Below.heap_setCell _ _ _ _ h, Below.heap_setCell _ _ _ _ h, Below.heap_setCell _ _ _ _ h]
theorem set4_ne0 {ys : List Value} {k i : Nat} {u0 u1 u2 u3 : Value} (h : i ≠ k) : (set4 ys k u0 u1 u2 u3)[i * 4]? = ys[i * 4]? := by
  unfold set4
  rw [List.getElem?_set_ne (by omega), List.getElem?_set_ne (by omega), List.getElem?_set_ne (by omega), List.getElem?_set_ne (by omega)]
theorem set4_ne1 {ys : List Value} {k i : Nat} {u0 u1 u2 u3 : Value} (h : i ≠ k) : (set4 ys k u0 u1 u2 u3)[i * 4 + 1]? = ys[i * 4 + 1]? := by
  unfold set4
  rw [List.getElem?_set_ne (by omega), List.getElem?_set_ne (by omega), List.getElem?_set_ne (by omega), List.getElem?_set_ne (by omega)]
theorem set4_ne2 {ys : List Value} {k i : Nat} {u0 u1 u2 u3 : Value} (h : i ≠ k) : (set4 ys k u0 u1 u2 u3)[i * 4 + 2]? = ys[i * 4 + 2]? := by
  unfold set4
  rw [List.getElem?_set_ne (by omega), List.getElem?_set_ne (by omega), List.getElem?_set_ne (by omega), List.getElem?_set_ne (by omega)]
theorem set4_ne3 {ys : List Value} {k i : Nat} {u0 u1 u2 u3 : Value} (h : i ≠ k) : (set4 ys k u0 u1 u2 u3)[i * 4 + 3]? = ys[i * 4 + 3]? := by
  unfold set4
  rw [List.getElem?_set_ne (by omega), List.getElem?_set_ne (by omega), List.getElem?_set_ne (by omega), List.getElem?_set_ne (by omega)]
theorem set4_at0 {ys : List Value} {k : Nat} {u0 u1 u2 u3 : Value} (h : k * 4 + 3 < ys.length) : (set4 ys k u0 u1 u2 u3)[k * 4]? = some u0 := by
  unfold set4
  rw [List.getElem?_set_ne (by omega), List.getElem?_set_ne (by omega), List.getElem?_set_ne (by omega), List.getElem?_set_self (by first | omega | (simp only [List.length_set]; omega))]
theorem set4_at1 {ys : List Value} {k : Nat} {u0 u1 u2 u3 : Value} (h : k * 4 + 3 < ys.length) : (set4 ys k u0 u1 u2 u3)[k * 4 + 1]? = some u1 := by
  unfold set4
  rw [List.getElem?_set_ne (by omega), List.getElem?_set_ne (by omega), List.getElem?_set_self (by first | omega | (simp only [List.length_set]; omega))]
theorem set4_at2 {ys : List Value} {k : Nat} {u0 u1 u2 u3 : Value} (h : k * 4 + 3 < ys.length) : (set4 ys k u0 u1 u2 u3)[k * 4 + 2]? = some u2 := by
  unfold set4
  rw [List.getElem?_set_ne (by omega), List.getElem?_set_self (by first | omega | (simp only [List.length_set]; omega))]
theorem set4_at3 {ys : List Value} {k : Nat} {u0 u1 u2 u3 : Value} (h : k * 4 + 3 < ys.length) : (set4 ys k u0 u1 u2 u3)[k * 4 + 3]? = some u3 := by
  unfold set4
  rw [List.getElem?_set_self (by first | omega | (simp only [List.length_set]; omega))]
/-- a row of 5-cell elements -/
theorem own5 {w : World} {B : Nat} {e : TypeId} {g n cap : Nat} {ys : List Value} (h : w.ownsRow B e 5 (.slice (some ⟨g, 0, none⟩) n cap) n ys) (k : Nat) (hk : k < n) :
    (∃ y, w.cell? ⟨g, k * 5, none⟩ = some y) ∧ (∃ y, w.cell? ⟨g, k * 5 + 1, none⟩ = some y) ∧ (∃ y, w.cell? ⟨g, k * 5 + 2, none⟩ = some y) ∧ (∃ y, w.cell? ⟨g, k * 5 + 3, none⟩ = some y) ∧ (∃ y, w.cell? ⟨g, k * 5 + 4, none⟩ = some y) ∧
    w.frozen? ⟨g, k * 5, none⟩ = false ∧ w.frozen? ⟨g, k * 5 + 1, none⟩ = false ∧ w.frozen? ⟨g, k * 5 + 2, none⟩ = false ∧ w.frozen? ⟨g, k * 5 + 3, none⟩ = false ∧ w.frozen? ⟨g, k * 5 + 4, none⟩ = false := by
  have hlen : ys.length = n * 5 := h.1
  have at' : ∀ j, j < n * 5 → ∃ y, w.cell? ⟨g, j, none⟩ = some y := fun j hj => by
    rw [h.cellAt j hj, List.getElem?_eq_getElem (by omega)]
    exact ⟨_, rfl⟩
  exact ⟨at' _ (by omega), at' _ (by omega), at' _ (by omega), at' _ (by omega), at' _ (by omega), h.frozenAt _, h.frozenAt _, h.frozenAt _, h.frozenAt _, h.frozenAt _⟩
def set5 (ys : List Value) (k : Nat) (u0 u1 u2 u3 u4 : Value) : List Value := ((((ys.set (k * 5) u0).set (k * 5 + 1) u1).set (k * 5 + 2) u2).set (k * 5 + 3) u3).set (k * 5 + 4) u4
theorem stored5 {w : World} {B : Nat} {e : TypeId} {g n cap : Nat} {ys : List Value} (h : w.ownsRow B e 5 (.slice (some ⟨g, 0, none⟩) n cap) n ys) (k : Nat) (u0 u1 u2 u3 u4 : Value) :
    (((((w.setCell ⟨g, k * 5, none⟩ u0).setCell ⟨g, k * 5 + 1, none⟩ u1).setCell ⟨g, k * 5 + 2, none⟩ u2).setCell ⟨g, k * 5 + 3, none⟩ u3).setCell ⟨g, k * 5 + 4, none⟩ u4).ownsRow B e 5 (.slice (some ⟨g, 0, none⟩) n cap) n (set5 ys k u0 u1 u2 u3 u4) :=
  (((((h.stored _ u0).1.stored _ u1).1.stored _ u2).1.stored _ u3).1.stored _ u4).1
theorem below_5 {w a : World} {B g : Nat} (h : Below B a w) (hg : B ≤ g) (k : Nat) (u0 u1 u2 u3 u4 : Value) :
    Below B a (((((w.setCell ⟨g, k * 5, none⟩ u0).setCell ⟨g, k * 5 + 1, none⟩ u1).setCell ⟨g, k * 5 + 2, none⟩ u2).setCell ⟨g, k * 5 + 3, none⟩ u3).setCell ⟨g, k * 5 + 4, none⟩ u4) :=
  ((((h.setCell (p := ⟨g, k * 5, none⟩) hg _).setCell (p := ⟨g, k * 5 + 1, none⟩) hg _).setCell (p := ⟨g, k * 5 + 2, none⟩) hg _).setCell (p := ⟨g, k * 5 + 3, none⟩) hg _).setCell (p := ⟨g, k * 5 + 4, none⟩) hg _
theorem heap_5 (w : World) (g k q : Nat) (u0 u1 u2 u3 u4 : Value) (h : q ≠ g) :
    (((((w.setCell ⟨g, k * 5, none⟩ u0).setCell ⟨g, k * 5 + 1, none⟩ u1).setCell ⟨g, k * 5 + 2, none⟩ u2).setCell ⟨g, k * 5 + 3, none⟩ u3).setCell ⟨g, k * 5 + 4, none⟩ u4).heap[q]? = w.heap[q]? := by
  rw [Below.heap_setCell _ _ _ _ h, Below.heap_setCell _ _ _ _ h, Below.heap_setCell _ _ _ _ h, Below.heap_setCell _ _ _ _ h, Below.heap_setCell _ _ _ _ h]
theorem set5_ne0 {ys : List Value} {k i : Nat} {u0 u1 u2 u3 u4 : Value} (h : i ≠ k) : (set5 ys k u0 u1 u2 u3 u4)[i * 5]? = ys[i * 5]? := by
  unfold set5
  rw [List.getElem?_set_ne (by omega), List.getElem?_set_ne (by omega), List.getElem?_set_ne (by omega), List.getElem?_set_ne (by omega), List.getElem?_set_ne (by omega)]
theorem set5_ne1 {ys : List Value} {k i : Nat} {u0 u1 u2 u3 u4 : Value} (h : i ≠ k) : (set5 ys k u0 u1 u2 u3 u4)[i * 5 + 1]? = ys[i * 5 + 1]? := by
  unfold set5
  rw [List.getElem?_set_ne (by omega), List.getElem?_set_ne (by omega), List.getElem?_set_ne (by omega), List.getElem?_set_ne (by omega), List.getElem?_set_ne (by omega)]
theorem set5_ne2 {ys : List Value} {k i : Nat} {u0 u1 u2 u3 u4 : Value} (h : i ≠ k) : (set5 ys k u0 u1 u2 u3 u4)[i * 5 + 2]? = ys[i * 5 + 2]? := by
  unfold set5
  rw [List.getElem?_set_ne (by omega), List.getElem?_set_ne (by omega), List.getElem?_set_ne (by omega), List.getElem?_set_ne (by omega), List.getElem?_set_ne (by omega)]
theorem set5_ne3 {ys : List Value} {k i : Nat} {u0 u1 u2 u3 u4 : Value} (h : i ≠ k) : (set5 ys k u0 u1 u2 u3 u4)[i * 5 + 3]? = ys[i * 5 + 3]? := by
  unfold set5
  rw [List.getElem?_set_ne (by omega), List.getElem?_set_ne (by omega), List.getElem?_set_ne (by omega), List.getElem?_set_ne (by omega), List.getElem?_set_ne (by omega)]
theorem set5_ne4 {ys : List Value} {k i : Nat} {u0 u1 u2 u3 u4 : Value} (h : i ≠ k) : (set5 ys k u0 u1 u2 u3 u4)[i * 5 + 4]? = ys[i * 5 + 4]? := by
  unfold set5
  rw [List.getElem?_set_ne (by omega), List.getElem?_set_ne (by omega), List.getElem?_set_ne (by omega), List.getElem?_set_ne (by omega), List.getElem?_set_ne (by omega)]
theorem set5_at0 {ys : List Value} {k : Nat} {u0 u1 u2 u3 u4 : Value} (h : k * 5 + 4 < ys.length) : (set5 ys k u0 u1 u2 u3 u4)[k * 5]? = some u0 := by
  unfold set5
  rw [List.getElem?_set_ne (by omega), List.getElem?_set_ne (by omega), List.getElem?_set_ne (by omega), List.getElem?_set_ne (by omega), List.getElem?_set_self (by first | omega | (simp only [List.length_set]; omega))]
theorem set5_at1 {ys : List Value} {k : Nat} {u0 u1 u2 u3 u4 : Value} (h : k * 5 + 4 < ys.length) : (set5 ys k u0 u1 u2 u3 u4)[k * 5 + 1]? = some u1 := by
  unfold set5
  rw [List.getElem?_set_ne (by omega), List.getElem?_set_ne (by omega), List.getElem?_set_ne (by omega), List.getElem?_set_self (by first | omega | (simp only [List.length_set]; omega))]
theorem set5_at2 {ys : List Value} {k : Nat} {u0 u1 u2 u3 u4 : Value} (h : k * 5 + 4 < ys.length) : (set5 ys k u0 u1 u2 u3 u4)[k * 5 + 2]? = some u2 := by
  unfold set5
  rw [List.getElem?_set_ne (by omega), List.getElem?_set_ne (by omega), List.getElem?_set_self (by first | omega | (simp only [List.length_set]; omega))]
theorem set5_at3 {ys : List Value} {k : Nat} {u0 u1 u2 u3 u4 : Value} (h : k * 5 + 4 < ys.length) : (set5 ys k u0 u1 u2 u3 u4)[k * 5 + 3]? = some u3 := by
  unfold set5
  rw [List.getElem?_set_ne (by omega), List.getElem?_set_self (by first | omega | (simp only [List.length_set]; omega))]
theorem set5_at4 {ys : List Value} {k : Nat} {u0 u1 u2 u3 u4 : Value} (h : k * 5 + 4 < ys.length) : (set5 ys k u0 u1 u2 u3 u4)[k * 5 + 4]? = some u4 := by
  unfold set5
  rw [List.getElem?_set_self (by first | omega | (simp only [List.length_set]; omega))]
theorem exW_le {es : List Ex} {i : Nat} {e : Ex} (h : es[i]? = some e) : 1 + exW e ≤ exsW es := by
  induction es generalizing i with
  | nil => simp at h
  | cons x r ih =>
    simp only [exsW]
    cases i with
    | zero => simp at h; subst h; omega
    | succ i => simp at h; have := ih h; omega
theorem stW_le {ss : List St} {i : Nat} {s : St} (h : ss[i]? = some s) : 1 + stW s ≤ stsW ss := by
  induction ss generalizing i with
  | nil => simp at h
  | cons x r ih =>
    simp only [stsW]
    cases i with
    | zero => simp at h; subst h; omega
    | succ i => simp at h; have := ih h; omega
theorem exsW_len (es : List Ex) : es.length ≤ exsW es := by rw [exsW_sum]; omega
theorem stsW_len (ss : List St) : ss.length ≤ stsW ss := by rw [stsW_sum]; omega
theorem strsW_len (ss : List ByteArray) : ss.length ≤ strsW ss := by unfold strsW; omega
/-- how toStringS answers -/
def ToStr (ss : List ByteArray) (w : World) (e : Ending) (w' : World) : Prop := ∃ v, e = .returned v ∧ Below w.heap.size w w' ∧ OStrs w' w.heap.size w'.heap.size v ss
/-- how toExprS answers -/
def ToEs (es : List Ex) (w : World) (e : Ending) (w' : World) : Prop := ∃ v, e = .returned v ∧ Below w.heap.size w w' ∧ OExs w' w.heap.size w'.heap.size v es
def ToEx (x : Ex) (w : World) (e : Ending) (w' : World) : Prop := ∃ v, e = .returned (.agg #[.int .i64 x.op, .int .i64 x.n, .string x.name, v]) ∧ Below w.heap.size w w' ∧ OExs w' w.heap.size w'.heap.size v x.kids
theorem OExs.form {w : World} {lo hi : Nat} {v : Value} {es : List Ex} (h : OExs w lo hi v es) : ∃ g, v = .slice (some ⟨g, 0, none⟩) es.length es.length ∧ lo ≤ g ∧ g < hi := by
  cases h with
  | mk lo hi g n es ys vals ls hs hn hm hsz hg hgh hlo hhi hd hrow hc hk => subst hn; exact ⟨g, rfl, hg, hgh⟩
set_option maxHeartbeats 1000000 in
theorem toStrs_any (w : World) (v : Value) (ss : List ByteArray) (h : StrsAt w v ss) (hw : strsW ss ≤ 1048576) : Calls Tryz.prog 83 #[v] w (ToStr ss w) := by
  obtain ⟨i0, hi, hz0, hz1, hz2⟩ := info_parts info_str
  have hlen := strsW_len ss
  obtain ⟨a, cap, hvf, hm, hc⟩ := h
  have hsz0 : ∀ s ∈ ss, s.size ≤ big := fun s hs => by obtain ⟨i, hi⟩ := List.mem_iff_getElem?.1 hs; exact (hc i s hi).1
  subst hvf
  obtain ⟨n, hn⟩ : ∃ n, n = ss.length := ⟨_, rfl⟩
  rw [← hn] at hlen hm ⊢
  have Hc := Lib.hid hc; have Hl := Lib.hid hn; have HS := Lib.hid hsz0; have HM := Lib.hid hm
  have hnm : n ≤ 1048576 := by omega
  clear hc hn hw hlen hsz0 hm
  go_enter Tryz.func83, Tryz.ntmps83
  go_wp2_with (refine wpList_make_full _ rfl _ _ 61 rfl w.heap.size 9 i0 _ 1 Tryz.underlying61 hi hz0 hz1 .i64 .i64 n n n (by rfl) (by rfl) rfl rfl (by rw [hz2]; omega) (by unfold maxLen; omega) (Nat.le_refl _) ?_; intro w1 hown hg; have HOWN := Lib.hid hown; have HB := Lib.hid ((Below.refl w.heap.size w).grown hg (Nat.le_refl _) (fun k hk => by cases hk)); clear hown hg)
  go_loopw [4] (fun i wr => ∃ (k : Nat) (ys : List Value), k ≤ n ∧ i = .int .i64 k ∧ wr.ownsRow w.heap.size 9 1 (.slice (some ⟨w.heap.size, 0, none⟩) n n) n ys ∧ Hid (∀ i s, i < k → ss[i]? = some s → ys[i]? = some (.string s)) ∧ Below w.heap.size w wr) (fun i _ => n - (intOf i).toNat)
  case atStart => exact ⟨0, _, Nat.zero_le _, rfl, HOWN.out, fun i x hi => by omega, HB.out⟩
  case round =>
    obtain ⟨k, ys, hk, rfl, hown, hys, hB⟩ := hrel
    by_cases hlt : k < n
    · obtain ⟨s, hs⟩ : ∃ s, ss[k]? = some s := ⟨_, List.getElem?_eq_getElem (by rw [← Hl.out]; exact hlt)⟩
      obtain ⟨_, b, off, rfl, c0⟩ := Hc.out k s hs
      have c0 := cellB hB c0
      have HB' := Lib.hid hB; have HOW := Lib.hid hown; have HSK := Lib.hid hs
      have hyl : ys.length = n * 1 := hown.1
      have d0 : wr.cell? ⟨w.heap.size, k, none⟩ = some (ys[k]'(by omega)) := by rw [hown.cellAt k (by omega), List.getElem?_eq_getElem (by omega)]
      have f0 : wr.frozen? ⟨w.heap.size, k, none⟩ = false := hown.frozenAt _
      have hg0 := (ownsRow_lt hown).1
      have k0 : (0 : Int) ≤ k := by omega
      have k1 : (k : Int) < n := by omega
      generalize ys[k]'(by omega) = yk at d0
      have HYL := Lib.hid hyl
      clear hB hown hs hyl
      go_wp2_with (fail)
      go_roundw
      case rel =>
        refine ⟨k + 1, ys.set k (.string s), by omega, by go_num, (HOW.out.stored k _).1, ?_, HB'.out.setCell (p := ⟨w.heap.size, k, none⟩) (Nat.le_refl _) _⟩
        show ∀ i y, _
        intro i y hi hy
        by_cases hik : i = k
        · subst hik
          rw [HSK.out] at hy
          injection hy with hy
          subst hy
          rw [List.getElem?_set_self (by have := HYL.out; omega)]
        · rw [List.getElem?_set_ne (by omega)]
          exact hys.out i y (by omega) hy
      case measure => simp [intOf]; omega
    · obtain rfl : k = n := by omega
      have HO := Lib.hid hown; have HB' := Lib.hid hB
      clear hown hB
      go_wp2_with (fail)
      go_ret
      have hg0 := (ownsRow_lt HO.out).1
      have he : ys = strsV ss := by
        refine List.ext_getElem? (fun i => ?_)
        rcases Nat.lt_or_ge i ss.length with e | e
        · rw [hys.out i ss[i] (by rw [Hl.out]; exact e) (List.getElem?_eq_getElem e)]
          simp [strsV, e]
        · have h1 := HO.out.1
          have h2 := Hl.out
          rw [List.getElem?_eq_none (by omega), List.getElem?_eq_none (by simp [strsV]; omega)]
      refine ⟨_, rfl, HB'.out, w.heap.size, by rw [← Hl.out]; rfl, Nat.le_refl _, hg0, by rw [← Hl.out]; exact HM.out, HS.out, ?_⟩
      rw [← Hl.out, ← he]
      exact HO.out
set_option maxHeartbeats 1000000 in
theorem toEx_of (w : World) (x : Ex) (kv : Value) (hz : x.name.size ≤ big) (hk : ∀ w', Below w.heap.size w w' → Calls Tryz.prog 157 #[kv] w' (ToEs x.kids w')) :
    Calls Tryz.prog 194 #[.agg #[.int .i64 x.op, .int .i64 x.n, .string x.name, kv]] w (ToEx x w) := by
  have HK := Lib.hid hk
  obtain ⟨op, hop⟩ : ∃ z, z = x.op := ⟨_, rfl⟩
  obtain ⟨en, hen⟩ : ∃ z, z = x.n := ⟨_, rfl⟩
  obtain ⟨nm, hnm⟩ : ∃ z, z = x.name := ⟨_, rfl⟩
  unfold ToEx
  rw [← hop, ← hen, ← hnm]
  rw [← hnm] at hz
  unfold big at hz
  clear hk hop hen hnm
  go_enter Tryz.func194, Tryz.ntmps194
  go_wp2_with (fail)
  go_at_call 157
  refine (HK.out _ (below3 _ _ _ _)).mono ?_
  rintro e w1 ⟨v, rfl, hb, hO⟩
  obtain ⟨g, hvf, hg1, hg2⟩ := hO.form
  obtain ⟨m, hm⟩ : ∃ m, m = x.kids.length := ⟨_, rfl⟩
  rw [← hm] at hvf
  subst hvf
  obtain ⟨hc, hf⟩ := bcell hb
  have hsz : w.heap.size + 3 ≤ w1.heap.size := by have := hb.size; simp at this; omega
  have HB := Lib.hid ((below3 w _ _ _).trans (hb.mono (by simp; omega)))
  have HO := Lib.hid hO
  clear hb hO hm HK
  go_wp2_with (fail)
  refine bodyPost_ret (v := .agg #[.int .i64 op, .int .i64 en, .string nm, .slice (some ⟨g, 0, none⟩) m m]) (by simp [results, Tryz.results194, go_sem, hc]) rfl ⟨_, rfl, ?_, ?_⟩
  · repeat' (first | exact HB.out | (refine Below.setCell ?_ ?_ _))
    all_goals (first | omega | (simp; done) | (simp; omega))
  · refine (HO.out.keep (fun k h1 h2 => ?_)).wide (by simp; omega) (by simp)
    simp at h1
    repeat rw [Below.heap_setCell _ _ _ _ (by simp only []; omega)]
/-- the first elements are copied -/
def ExD (w : World) (g hi k : Nat) (es : List Ex) (ys : List Value) (vals : Nat → Value) (ls hs : Nat → Nat) : Prop :=
  ∀ (i : Nat) (e : Ex), i < k → es[i]? = some e → g < ls i ∧ hs i ≤ hi ∧ (∀ j, j < i → hs j ≤ ls i) ∧ ExIn ys i e (vals i) ∧ OExs w (ls i) (hs i) (vals i) e.kids
theorem ExD.done {w : World} {B g hi n : Nat} {es : List Ex} {ys : List Value} {vals : Nat → Value} {ls hs : Nat → Nat} (h : ExD w g hi n es ys vals ls hs) (hn : n = es.length) (hl : es.length ≤ big ∧ ∀ (i : Nat) (e : Ex), es[i]? = some e → e.name.size ≤ big) (hB : B ≤ g) (hg : g < hi)
    (ho : w.ownsRow B 67 4 (.slice (some ⟨g, 0, none⟩) n n) n ys) : OExs w B hi (.slice (some ⟨g, 0, none⟩) n n) es := by
  have hx : ∀ i, i < n → ∃ e, es[i]? = some e := fun i hi => ⟨es[i]'(by omega), List.getElem?_eq_getElem (by omega)⟩
  refine .mk B hi g n es ys vals ls hs hn hl.1 hl.2 hB hg (fun i hi => ?_) (fun i hi => ?_) (fun i j hij hj => ?_) ho (fun i e hi => ?_) (fun i e hi => ?_)
  · obtain ⟨e, he⟩ := hx i hi; exact (h i e hi he).1
  · obtain ⟨e, he⟩ := hx i hi; exact (h i e hi he).2.1
  · obtain ⟨e, he⟩ := hx j hj; exact (h j e hj he).2.2.1 i hij
  · exact (h i e (by have := idx_lt hi; omega) hi).2.2.2.1
  · exact (h i e (by have := idx_lt hi; omega) hi).2.2.2.2
theorem ExD.step {w w2 : World} {g k n : Nat} {es : List Ex} {ys : List Value} {vals : Nat → Value} {ls hs : Nat → Nat} {x : Ex} {kv : Value} (h : ExD w g w.heap.size k es ys vals ls hs) (hx : es[k]? = some x) (hk : k < n) (hy : ys.length = n * 4) (hb : Below w.heap.size w w2) (hg : g < w.heap.size)
    (hO : OExs w2 w.heap.size w2.heap.size kv x.kids) {W : World} (hW : W = (((w2.setCell ⟨g, k * 4, none⟩ (.int .i64 x.op)).setCell ⟨g, k * 4 + 1, none⟩ (.int .i64 x.n)).setCell ⟨g, k * 4 + 2, none⟩ (.string x.name)).setCell ⟨g, k * 4 + 3, none⟩ kv) : ExD W g W.heap.size (k + 1) es (set4 ys k (.int .i64 x.op) (.int .i64 x.n) (.string x.name) kv)
      (fun i => if i = k then kv else vals i) (fun i => if i = k then w.heap.size else ls i) (fun i => if i = k then w2.heap.size else hs i) := by
  have hWs : W.heap.size = w2.heap.size := by rw [hW]; simp
  rw [hWs]
  subst hW
  intro i e hi he
  by_cases hik : i = k
  · subst hik
    rw [hx] at he
    injection he with he
    subst he
    simp only [if_pos]
    refine ⟨hg, Nat.le_refl _, fun j hj => ?_, ⟨set4_at0 (by omega), set4_at1 (by omega), set4_at2 (by omega), set4_at3 (by omega)⟩, hO.keep (fun q h1 h2 => heap_4 _ _ _ _ _ _ _ _ (by omega))⟩
    rw [if_neg (by omega)]
    exact (h j (es[j]'(by have := idx_lt hx; omega)) hj (List.getElem?_eq_getElem _)).2.1
  · obtain ⟨h1, h2, h3, ⟨i0, i1, i2, i3⟩, h5⟩ := h i e (by omega) he
    simp only [if_neg hik]
    refine ⟨h1, Nat.le_trans h2 hb.size, fun j hj => ?_, ⟨(set4_ne0 hik).trans i0, (set4_ne1 hik).trans i1, (set4_ne2 hik).trans i2, (set4_ne3 hik).trans i3⟩, h5.keep (fun q q1 q2 => ?_)⟩
    · rw [if_neg (by omega)]; exact h3 j hj
    · rw [heap_4 _ _ _ _ _ _ _ _ (by omega), hb.block q (by omega)]
set_option maxHeartbeats 2000000 in
theorem toExs_any {w0 : World} {v : Value} {es : List Ex} (h : ExsAt w0 v es) : ∀ (w : World), Below w0.heap.size w0 w → exsW es ≤ 1048576 → Calls Tryz.prog 157 #[v] w (ToEs es w) := by
  induction h with
  | mk a n cap es vals hn hm hs hc hk ih =>
    intro w hb0 hw
    obtain ⟨i0, hi, hz0, hz1, hz2⟩ := info_parts info_ex
    have hlen := exsW_len es
    have hnm : n ≤ 1048576 := by omega
    have Hc := Lib.hid hc; have Hl := Lib.hid hn; have IH := Lib.hid (fun i e hi => ih i e hi); have HL := Lib.hid (And.intro hm hs); have HB0 := Lib.hid hb0; have HW := Lib.hid hw
    clear hc hn hm hs hk ih hb0 hw hlen
    go_enter Tryz.func157, Tryz.ntmps157
    go_wp2_with (refine wpList_make_full _ rfl _ _ 65 rfl w.heap.size 67 i0 _ 4 Tryz.underlying65 hi hz0 hz1 .i64 .i64 n n n (by rfl) (by rfl) rfl rfl (by rw [hz2]; omega) (by unfold maxLen; omega) (Nat.le_refl _) ?_; intro w1 hown hg; have HOWN := Lib.hid hown; have HB := Lib.hid ((Below.refl w.heap.size w).grown hg (Nat.le_refl _) (fun k hk => by cases hk)); clear hown hg)
    go_loopw [4] (fun i wr => ∃ (k : Nat) (ys : List Value) (vals : Nat → Value) (ls hs : Nat → Nat), k ≤ n ∧ i = .int .i64 k ∧ wr.ownsRow w.heap.size 67 4 (.slice (some ⟨w.heap.size, 0, none⟩) n n) n ys ∧ Hid (ExD wr w.heap.size wr.heap.size k es ys vals ls hs) ∧ Below w.heap.size w wr) (fun i _ => n - (intOf i).toNat)
    case atStart => exact ⟨0, _, fun _ => .slice none 0 0, fun _ => 0, fun _ => 0, Nat.zero_le _, rfl, HOWN.out, Lib.hid (fun i x hi => by omega), HB.out⟩
    case round =>
      obtain ⟨k, ys, va, ls, hs, hk, rfl, hown, hys, hB⟩ := hrel
      by_cases hlt : k < n
      · obtain ⟨x, hx⟩ : ∃ x, es[k]? = some x := ⟨_, List.getElem?_eq_getElem (by rw [← Hl.out]; exact hlt)⟩
        obtain ⟨b, off, rfl, c0, c1, c2, c3⟩ := Hc.out k x hx
        have hb1 := HB0.out.trans (hB.mono HB0.out.size)
        have c0 := cellB hb1 c0
        have c1 := cellB hb1 c1
        have c2 := cellB hb1 c2
        have c3 := cellB hb1 c3
        have HE := Lib.hid (toEx_of wr x (vals k) (HL.out.2 k x hx) (fun w2 hb => IH.out k x hx w2 (hb1.trans (hb.mono hb1.size)) (by have h1 := exW_le hx; have h2 := HW.out; have h3 := exW_eq x; omega)))
        have HB' := Lib.hid hB; have HOW := Lib.hid hown; have HXK := Lib.hid hx
        have hg0 := (ownsRow_lt hown).1
        generalize hvk : vals k = vk at *
        clear hvk
        have k0 : (0 : Int) ≤ k := by omega
        have k1 : (k : Int) < n := by omega
        clear hB hown hx hb1
        go_wp2_with (fail)
        go_at_call 194
        refine HE.out.mono ?_
        rintro e w2 ⟨kv, rfl, hb, hO⟩
        obtain ⟨g, hvf, hg1, hg2⟩ := hO.form
        obtain ⟨m, hm⟩ : ∃ m, m = x.kids.length := ⟨_, rfl⟩
        rw [← hm] at hvf
        subst hvf
        have hsz := HB'.out.size
        have hO2 := ownsRow_below HOW.out hb
        obtain ⟨⟨y0, d0⟩, ⟨y1, d1⟩, ⟨y2, d2⟩, ⟨y3, d3⟩, f0, f1, f2, f3⟩ := own4 hO2 k hlt
        have HD := Lib.hid (hys.out.step HXK.out hlt HOW.out.1 hb hg0 hO rfl)
        have HB2 := Lib.hid (HB'.out.trans (hb.mono hsz)); have HO2 := Lib.hid hO2
        generalize x.op = op at *
        generalize x.n = en at *
        generalize x.name = nm at *
        clear hb hO hO2 c0 c1 c2 c3 hys HE hm
        go_wp2_with (fail)
        go_roundw
        case rel =>
          exact ⟨k + 1, _, _, _, _, by omega, by go_num, stored4 HO2.out k _ _ _ _, HD, below_4 HB2.out (Nat.le_refl _) k _ _ _ _⟩
        case measure => simp [intOf]; omega
      · obtain rfl : k = n := by omega
        have HO := Lib.hid hown; have HB' := Lib.hid hB
        clear hown hB
        go_wp2_with (fail)
        go_ret
        exact ⟨_, rfl, HB'.out, hys.out.done Hl.out HL.out (Nat.le_refl _) (ownsRow_lt HO.out).1 HO.out⟩
end Go.Proofs.YtpnliencahnmoaaGreatDoor

set_option linter.unusedVariables false
set_option linter.unusedSimpArgs false
set_option maxRecDepth 100000
namespace Go.Proofs.YtpnliencahnmoaaGreatDoor
open Go.RowKit
theorem info_stW : (Tryz.prog.info? 70).map (fun i => (i.zero, i.size, i.bytes)) = some (some (.agg #[.int .i64 0, .string .empty, .slice none 0 0, .slice none 0 0, .slice none 0 0]), 5, 96) := by kernel_rfl
theorem blkq5 {w : World} {p : Nat} {a b c d e : Value} (h : Blk w p [a, b, c, d, e]) : w.cell? ⟨p, 0, none⟩ = some a ∧ w.cell? ⟨p, 1, none⟩ = some b ∧ w.cell? ⟨p, 2, none⟩ = some c ∧ w.cell? ⟨p, 3, none⟩ = some d ∧ w.cell? ⟨p, 4, none⟩ = some e := by
  refine ⟨?_, ?_, ?_, ?_, ?_⟩
  all_goals rw [h.cell]; rfl
/-- how toStmtS, toStmt answer -/
def ToSs (ss : List St) (w : World) (e : Ending) (w' : World) : Prop := ∃ v, e = .returned v ∧ Below w.heap.size w w' ∧ OSts w' w.heap.size w'.heap.size v ss
def StO (w : World) (lo m1 m2 hi : Nat) (x : St) (av bv ev : Value) : Prop := lo ≤ m1 ∧ m1 ≤ m2 ∧ m2 ≤ hi ∧ OExs w lo m1 av x.args ∧ OSts w m1 m2 bv x.body ∧ OSts w m2 hi ev x.els
theorem StO.keep {w w' : World} {lo m1 m2 hi : Nat} {x : St} {av bv ev : Value} (h : StO w lo m1 m2 hi x av bv ev) (hh : ∀ k, lo ≤ k → k < hi → w'.heap[k]? = w.heap[k]?) : StO w' lo m1 m2 hi x av bv ev := by
  obtain ⟨h1, h2, h3, h4, h5, h6⟩ := h
  exact ⟨h1, h2, h3, h4.keep (fun k a b => hh k (by omega) (by omega)), h5.keep (fun k a b => hh k (by omega) (by omega)), h6.keep (fun k a b => hh k (by omega) (by omega))⟩
def ToSt (x : St) (w : World) (e : Ending) (w' : World) : Prop := ∃ av bv ev m1 m2, e = .returned (.agg #[.int .i64 x.op, .string x.name, av, bv, ev]) ∧ Below w.heap.size w w' ∧ StO w' w.heap.size m1 m2 w'.heap.size x av bv ev
theorem OSts.form {w : World} {lo hi : Nat} {v : Value} {es : List St} (h : OSts w lo hi v es) : ∃ g, v = .slice (some ⟨g, 0, none⟩) es.length es.length ∧ lo ≤ g ∧ g < hi := by
  cases h with
  | mk lo hi g n ss ys av bv ev ls m1 m2 hs hn hm hsz hg hgh hlo hhi hmid hd hrow hc ha hb he => subst hn; exact ⟨g, rfl, hg, hgh⟩
set_option maxHeartbeats 4000000 in
theorem toSt_of (w : World) (x : St) (av bv ev : Value) (hz : x.name.size ≤ big) (hA : ∀ w', Below w.heap.size w w' → Calls Tryz.prog 157 #[av] w' (ToEs x.args w')) (hB : ∀ w', Below w.heap.size w w' → Calls Tryz.prog 84 #[bv] w' (ToSs x.body w')) (hE : ∀ w', Below w.heap.size w w' → Calls Tryz.prog 84 #[ev] w' (ToSs x.els w')) :
    Calls Tryz.prog 122 #[.agg #[.int .i64 x.op, .string x.name, av, bv, ev]] w (ToSt x w) := by
  have HA := Lib.hid hA; have HB := Lib.hid hB; have HE := Lib.hid hE
  unfold ToSt
  obtain ⟨op, hop⟩ : ∃ z, z = x.op := ⟨_, rfl⟩
  obtain ⟨nm, hnm⟩ : ∃ z, z = x.name := ⟨_, rfl⟩
  rw [← hop, ← hnm]
  rw [← hnm] at hz
  unfold big at hz
  obtain ⟨P, hP⟩ : ∃ p, p = w.heap.size := ⟨_, rfl⟩
  obtain ⟨R, hR⟩ : ∃ p, p = P + 1 := ⟨_, rfl⟩
  obtain ⟨O, hO⟩ : ∃ p, p = R + 1 := ⟨_, rfl⟩
  obtain ⟨w1, hw1⟩ : ∃ w1, w1 = ((w.alloc (.cells #[.int .i64 op, .string nm, av, bv, ev] 160)).alloc (.cells #[.int .i64 0, .string ⟨#[]⟩, .slice none 0 0, .slice none 0 0, .slice none 0 0] 70)).alloc (.cells #[.int .i64 op, .string nm, .slice none 0 0, .slice none 0 0, .slice none 0 0] 70) := ⟨_, rfl⟩
  have HW1 : Hid (Below P w w1 ∧ w1.heap.size = O + 1 ∧ Blk w1 P [.int .i64 op, .string nm, av, bv, ev] ∧ Blk w1 R [.int .i64 0, .string ⟨#[]⟩, .slice none 0 0, .slice none 0 0, .slice none 0 0] ∧ Blk w1 O [.int .i64 op, .string nm, .slice none 0 0, .slice none 0 0, .slice none 0 0]) := Lib.hid (by
    rw [hw1]
    refine ⟨by rw [hP]; exact below3 _ _ _ _, by rw [hO, hR, hP]; simp, ?_, ?_, ?_⟩
    · rw [hP]; exact ((Blk.new _ _ _).alloc _).alloc _
    · exact (Blk.fresh (by rw [hR, hP]; simp) rfl).alloc _
    · exact Blk.fresh (by rw [hO, hR, hP]; simp) rfl)
  have HP : Hid (P = w.heap.size ∧ R = P + 1 ∧ O = R + 1) := Lib.hid ⟨hP, hR, hO⟩
  clear hA hB hE hop hnm
  go_enter Tryz.func122, Tryz.ntmps122
  go_upto_region 4 with (fail)
  rw [← hP, ← hR, ← hO]
  rw [← hw1]
  clear hP hR hO hw1
  obtain ⟨p0, p1, p2, p3, p4⟩ := blkq5 HW1.out.2.2.1
  go_wp2_with (fail)
  go_at_call 157
  have hbp : ∀ W, Below P w W → Below w.heap.size w W := fun W h => by rw [← HP.out.1]; exact h
  have HBP := Lib.hid hbp
  refine (HA.out _ (hbp _ HW1.out.1)).mono ?_
  rintro e w2 ⟨av', rfl, hb2, hO2⟩
  obtain ⟨g1, hvf, _, _⟩ := hO2.form
  obtain ⟨n1, hn1⟩ : ∃ m, m = x.args.length := ⟨_, rfl⟩
  rw [← hn1] at hvf
  subst hvf
  have hQ2 := HW1.out.2.2.2.2.below hb2
  obtain ⟨o0, o1, o2, o3, o4⟩ := blkq5 hQ2
  have y2 := hQ2.frozen 2
  have hol := hQ2.lt
  obtain ⟨w3, hw3⟩ : ∃ w3, w3 = w2.setCell ⟨O, 2, none⟩ (.slice (some ⟨g1, 0, none⟩) n1 n1) := ⟨_, rfl⟩
  have HW3 : Hid (Below P w w3 ∧ w3.heap.size = w2.heap.size ∧ w1.heap.size ≤ w2.heap.size ∧ Blk w3 P [.int .i64 op, .string nm, av, bv, ev] ∧ Blk w3 R [.int .i64 0, .string ⟨#[]⟩, .slice none 0 0, .slice none 0 0, .slice none 0 0] ∧ Blk w3 O [.int .i64 op, .string nm, .slice (some ⟨g1, 0, none⟩) n1 n1, .slice none 0 0, .slice none 0 0] ∧ OExs w3 w1.heap.size w2.heap.size (.slice (some ⟨g1, 0, none⟩) n1 n1) x.args) := Lib.hid (by
    rw [hw3]
    have hpo := HP.out
    have hs1 := HW1.out.2.1
    refine ⟨(HW1.out.1.trans (hb2.mono (by omega))).setCell (p := ⟨O, 2, none⟩) (by simp only []; omega) _, by simp, hb2.size, (HW1.out.2.2.1.below hb2).other (a := ⟨O, 2, none⟩) (by simp only []; omega) _, (HW1.out.2.2.2.1.below hb2).other (a := ⟨O, 2, none⟩) (by simp only []; omega) _, hQ2.set 2 _, hO2.keep (fun k h1 h2 => Below.heap_setCell _ _ _ _ (by simp only []; omega))⟩)
  clear hb2 hO2 hn1 hQ2 HA p0 p1 p2 p3 p4
  go_upto_region 5 with (fail)
  rw [← hw3]
  clear hw3 o0 o1 o2 o3 o4 y2 hol hbp
  obtain ⟨p0, p1, p2, p3, p4⟩ := blkq5 HW3.out.2.2.2.1
  go_wp2_with (fail)
  go_at_call 84
  refine (HB.out _ (HBP.out _ HW3.out.1)).mono ?_
  rintro e w4 ⟨bv', rfl, hb4, hO4⟩
  obtain ⟨g2, hvf, _, _⟩ := hO4.form
  obtain ⟨n2, hn2⟩ : ∃ m, m = x.body.length := ⟨_, rfl⟩
  rw [← hn2] at hvf
  subst hvf
  have hQ4 := HW3.out.2.2.2.2.2.1.below hb4
  obtain ⟨o0, o1, o2, o3, o4⟩ := blkq5 hQ4
  have y3 := hQ4.frozen 3
  have hol := hQ4.lt
  obtain ⟨w5, hw5⟩ : ∃ w5, w5 = w4.setCell ⟨O, 3, none⟩ (.slice (some ⟨g2, 0, none⟩) n2 n2) := ⟨_, rfl⟩
  have HW5 : Hid (Below P w w5 ∧ w5.heap.size = w4.heap.size ∧ w3.heap.size ≤ w4.heap.size ∧ Blk w5 P [.int .i64 op, .string nm, av, bv, ev] ∧ Blk w5 R [.int .i64 0, .string ⟨#[]⟩, .slice none 0 0, .slice none 0 0, .slice none 0 0] ∧ Blk w5 O [.int .i64 op, .string nm, .slice (some ⟨g1, 0, none⟩) n1 n1, .slice (some ⟨g2, 0, none⟩) n2 n2, .slice none 0 0] ∧ OExs w5 w1.heap.size w3.heap.size (.slice (some ⟨g1, 0, none⟩) n1 n1) x.args ∧ OSts w5 w3.heap.size w4.heap.size (.slice (some ⟨g2, 0, none⟩) n2 n2) x.body) := Lib.hid (by
    rw [hw5]
    have hpo := HP.out
    have hs1 := HW1.out.2.1
    have hs3 := HW3.out.2.1
    have hs2 := HW3.out.2.2.1
    refine ⟨(HW3.out.1.trans (hb4.mono (by omega))).setCell (p := ⟨O, 3, none⟩) (by simp only []; omega) _, by simp, hb4.size, (HW3.out.2.2.2.1.below hb4).other (a := ⟨O, 3, none⟩) (by simp only []; omega) _, (HW3.out.2.2.2.2.1.below hb4).other (a := ⟨O, 3, none⟩) (by simp only []; omega) _, hQ4.set 3 _, ?_, hO4.keep (fun k h1 h2 => Below.heap_setCell _ _ _ _ (by simp only []; omega))⟩
    rw [hs3]
    exact HW3.out.2.2.2.2.2.2.keep (fun k h1 h2 => by rw [Below.heap_setCell _ _ _ _ (by simp only []; omega), hb4.block k (by omega)]))
  clear hb4 hO4 hn2 hQ4 HB p0 p1 p2 p3 p4
  go_upto_region 6 with (fail)
  rw [← hw5]
  clear hw5 o0 o1 o2 o3 o4 y3 hol
  obtain ⟨p0, p1, p2, p3, p4⟩ := blkq5 HW5.out.2.2.2.1
  go_wp2_with (fail)
  go_at_call 84
  refine (HE.out _ (HBP.out _ HW5.out.1)).mono ?_
  rintro e w6 ⟨ev', rfl, hb6, hO6⟩
  obtain ⟨g3, hvf, _, _⟩ := hO6.form
  obtain ⟨n3, hn3⟩ : ∃ m, m = x.els.length := ⟨_, rfl⟩
  rw [← hn3] at hvf
  subst hvf
  have hQ6 := HW5.out.2.2.2.2.2.1.below hb6
  obtain ⟨o0, o1, o2, o3, o4⟩ := blkq5 hQ6
  have y4 := hQ6.frozen 4
  have hol := hQ6.lt
  obtain ⟨w7, hw7⟩ : ∃ w7, w7 = w6.setCell ⟨O, 4, none⟩ (.slice (some ⟨g3, 0, none⟩) n3 n3) := ⟨_, rfl⟩
  have HW7 : Hid (Below P w w7 ∧ w7.heap.size = w6.heap.size ∧ w5.heap.size ≤ w6.heap.size ∧ Blk w7 R [.int .i64 0, .string ⟨#[]⟩, .slice none 0 0, .slice none 0 0, .slice none 0 0] ∧ Blk w7 O [.int .i64 op, .string nm, .slice (some ⟨g1, 0, none⟩) n1 n1, .slice (some ⟨g2, 0, none⟩) n2 n2, .slice (some ⟨g3, 0, none⟩) n3 n3] ∧ StO w7 w1.heap.size w3.heap.size w5.heap.size w7.heap.size x (.slice (some ⟨g1, 0, none⟩) n1 n1) (.slice (some ⟨g2, 0, none⟩) n2 n2) (.slice (some ⟨g3, 0, none⟩) n3 n3)) := Lib.hid (by
    rw [hw7]
    have h6 := hb6.size
    have hpo := HP.out
    have hs1 := HW1.out.2.1
    have hs3 := HW3.out.2.1
    have hs2 := HW3.out.2.2.1
    have hs5 := HW5.out.2.1
    have hs4 := HW5.out.2.2.1
    refine ⟨(HW5.out.1.trans (hb6.mono (by omega))).setCell (p := ⟨O, 4, none⟩) (by simp only []; omega) _, by simp, hb6.size, (HW5.out.2.2.2.2.1.below hb6).other (a := ⟨O, 4, none⟩) (by simp only []; omega) _, hQ6.set 4 _, by omega, by omega, by simp; omega, ?_, ?_, ?_⟩
    · exact HW5.out.2.2.2.2.2.2.1.keep (fun k h1 h2 => by rw [Below.heap_setCell _ _ _ _ (by simp only []; omega), hb6.block k (by omega)])
    · rw [hs5]
      exact HW5.out.2.2.2.2.2.2.2.keep (fun k h1 h2 => by rw [Below.heap_setCell _ _ _ _ (by simp only []; omega), hb6.block k (by omega)])
    · rw [World.size_setCell]
      exact hO6.keep (fun k h1 h2 => Below.heap_setCell _ _ _ _ (by simp only []; omega)))
  clear hb6 hO6 hn3 hQ6 HE p0 p1 p2 p3 p4
  go_upto_region 7 with (fail)
  rw [← hw7]
  clear hw7 o0 o1 o2 o3 o4 y4 hol
  obtain ⟨o0, o1, o2, o3, o4⟩ := blkq5 HW7.out.2.2.2.2.1
  obtain ⟨r0, r1, r2, r3, r4⟩ := blkq5 HW7.out.2.2.2.1
  have f0 := HW7.out.2.2.2.1.frozen 0; have f1 := HW7.out.2.2.2.1.frozen 1; have f2 := HW7.out.2.2.2.1.frozen 2; have f3 := HW7.out.2.2.2.1.frozen 3; have f4 := HW7.out.2.2.2.1.frozen 4
  have HS : Hid (R < w7.heap.size ∧ R < w1.heap.size ∧ P ≤ R ∧ P = w.heap.size ∧ w.heap.size ≤ w1.heap.size) := Lib.hid (by
    have hpo := HP.out
    have hs1 := HW1.out.2.1
    have hs3 := HW3.out.2.1
    have hs2 := HW3.out.2.2.1
    have hs5 := HW5.out.2.1
    have hs4 := HW5.out.2.2.1
    have hs7 := HW7.out.2.1
    have hs6 := HW7.out.2.2.1
    omega)
  go_wp2_with (fail)
  refine bodyPost_ret (v := .agg #[.int .i64 op, .string nm, .slice (some ⟨g1, 0, none⟩) n1 n1, .slice (some ⟨g2, 0, none⟩) n2 n2, .slice (some ⟨g3, 0, none⟩) n3 n3]) (by simp [results, Tryz.results122, go_sem, r0, r1, r2, r3, r4]) rfl ⟨_, _, _, w3.heap.size, w5.heap.size, rfl, ?_, ?_⟩
  · have hh := HS.out
    rw [← hh.2.2.2.1]
    repeat' (first | exact HW7.out.1 | (refine Below.setCell ?_ ?_ _))
    all_goals (simp only []; omega)
  · have hh := HS.out
    obtain ⟨k1, k2, k3, k4, k5, k6⟩ := HW7.out.2.2.2.2.2
    simp only [World.size_setCell]
    have k7 : StO w7 w.heap.size w3.heap.size w5.heap.size w7.heap.size x (.slice (some ⟨g1, 0, none⟩) n1 n1) (.slice (some ⟨g2, 0, none⟩) n2 n2) (.slice (some ⟨g3, 0, none⟩) n3 n3) := ⟨by omega, k2, k3, k4.wide hh.2.2.2.2 (Nat.le_refl _), k5, k6⟩
    obtain ⟨j1, j2, j3, _, _, _⟩ := k7
    have key : ∀ k, w1.heap.size ≤ k → k ≠ R := fun k h => by omega
    refine ⟨j1, j2, j3, (k4.keep (fun k h1 h2 => ?_)).wide hh.2.2.2.2 (Nat.le_refl _), k5.keep (fun k h1 h2 => ?_), k6.keep (fun k h1 h2 => ?_)⟩
    all_goals
      have := key k (by omega)
      repeat rw [Below.heap_setCell _ _ _ _ (by simp only []; omega)]
def StD (w : World) (g hi k : Nat) (ss : List St) (ys : List Value) (av bv ev : Nat → Value) (ls m1 m2 hs : Nat → Nat) : Prop :=
  ∀ (i : Nat) (s : St), i < k → ss[i]? = some s → g < ls i ∧ hs i ≤ hi ∧ (∀ j, j < i → hs j ≤ ls i) ∧ StIn ys i s (av i) (bv i) (ev i) ∧ StO w (ls i) (m1 i) (m2 i) (hs i) s (av i) (bv i) (ev i)
theorem StD.done {w : World} {B g hi n : Nat} {ss : List St} {ys : List Value} {av bv ev : Nat → Value} {ls m1 m2 hs : Nat → Nat} (h : StD w g hi n ss ys av bv ev ls m1 m2 hs) (hn : n = ss.length) (hl : ss.length ≤ big ∧ ∀ (i : Nat) (s : St), ss[i]? = some s → s.name.size ≤ big) (hB : B ≤ g) (hg : g < hi)
    (ho : w.ownsRow B 70 5 (.slice (some ⟨g, 0, none⟩) n n) n ys) : OSts w B hi (.slice (some ⟨g, 0, none⟩) n n) ss := by
  have hx : ∀ i, i < n → ∃ e, ss[i]? = some e := fun i hi => ⟨ss[i]'(by omega), List.getElem?_eq_getElem (by omega)⟩
  refine .mk B hi g n ss ys av bv ev ls m1 m2 hs hn hl.1 hl.2 hB hg (fun i hi => ?_) (fun i hi => ?_) (fun i hi => ?_) (fun i j hij hj => ?_) ho (fun i e hi => ?_) (fun i e hi => ?_) (fun i e hi => ?_) (fun i e hi => ?_)
  · obtain ⟨e, he⟩ := hx i hi; exact (h i e hi he).1
  · obtain ⟨e, he⟩ := hx i hi; exact (h i e hi he).2.1
  · obtain ⟨e, he⟩ := hx i hi; obtain ⟨_, _, _, _, a, b, c, _⟩ := h i e hi he; exact ⟨a, b, c⟩
  · obtain ⟨e, he⟩ := hx j hj; exact (h j e hj he).2.2.1 i hij
  · exact (h i e (by have := idx_lt hi; omega) hi).2.2.2.1
  · exact (h i e (by have := idx_lt hi; omega) hi).2.2.2.2.2.2.2.1
  · exact (h i e (by have := idx_lt hi; omega) hi).2.2.2.2.2.2.2.2.1
  · exact (h i e (by have := idx_lt hi; omega) hi).2.2.2.2.2.2.2.2.2
theorem StD.step {w w2 : World} {g k n : Nat} {ss : List St} {ys : List Value} {av bv ev : Nat → Value} {ls m1 m2 hs : Nat → Nat} {x : St} {a1 b1 e1 : Value} {p1 p2 : Nat} (h : StD w g w.heap.size k ss ys av bv ev ls m1 m2 hs) (hx : ss[k]? = some x) (hk : k < n) (hy : ys.length = n * 5) (hb : Below w.heap.size w w2) (hg : g < w.heap.size)
    (hO : StO w2 w.heap.size p1 p2 w2.heap.size x a1 b1 e1) {W : World} (hW : W = ((((w2.setCell ⟨g, k * 5, none⟩ (.int .i64 x.op)).setCell ⟨g, k * 5 + 1, none⟩ (.string x.name)).setCell ⟨g, k * 5 + 2, none⟩ a1).setCell ⟨g, k * 5 + 3, none⟩ b1).setCell ⟨g, k * 5 + 4, none⟩ e1) : StD W g W.heap.size (k + 1) ss (set5 ys k (.int .i64 x.op) (.string x.name) a1 b1 e1)
      (fun i => if i = k then a1 else av i) (fun i => if i = k then b1 else bv i) (fun i => if i = k then e1 else ev i) (fun i => if i = k then w.heap.size else ls i) (fun i => if i = k then p1 else m1 i) (fun i => if i = k then p2 else m2 i) (fun i => if i = k then w2.heap.size else hs i) := by
  have hWs : W.heap.size = w2.heap.size := by rw [hW]; simp
  rw [hWs]
  subst hW
  intro i e hi he
  by_cases hik : i = k
  · subst hik
    rw [hx] at he
    injection he with he
    subst he
    simp only [if_pos]
    refine ⟨hg, Nat.le_refl _, fun j hj => ?_, ⟨set5_at0 (by omega), set5_at1 (by omega), set5_at2 (by omega), set5_at3 (by omega), set5_at4 (by omega)⟩, hO.keep (fun q h1 h2 => heap_5 _ _ _ _ _ _ _ _ _ (by omega))⟩
    rw [if_neg (by omega)]
    exact (h j (ss[j]'(by have := idx_lt hx; omega)) hj (List.getElem?_eq_getElem _)).2.1
  · obtain ⟨h1, h2, h3, ⟨i0, i1, i2, i3, i4⟩, h5⟩ := h i e (by omega) he
    simp only [if_neg hik]
    refine ⟨h1, Nat.le_trans h2 hb.size, fun j hj => ?_, ⟨(set5_ne0 hik).trans i0, (set5_ne1 hik).trans i1, (set5_ne2 hik).trans i2, (set5_ne3 hik).trans i3, (set5_ne4 hik).trans i4⟩, h5.keep (fun q q1 q2 => ?_)⟩
    · rw [if_neg (by omega)]; exact h3 j hj
    · rw [heap_5 _ _ _ _ _ _ _ _ _ (by omega), hb.block q (by omega)]
set_option maxHeartbeats 4000000 in
theorem toSts_any {w0 : World} {v : Value} {ss : List St} (h : StsAt w0 v ss) : ∀ (w : World), Below w0.heap.size w0 w → stsW ss ≤ 1048576 → Calls Tryz.prog 84 #[v] w (ToSs ss w) := by
  induction h with
  | mk a n cap ss av bv ev hn hm hs hc ha hb he ihb ihe =>
    intro w hb0 hw
    obtain ⟨i0, hi, hz0, hz1, hz2⟩ := info_parts info_stW
    have hlen := stsW_len ss
    have hnm : n ≤ 1048576 := by omega
    have Hc := Lib.hid hc; have Hl := Lib.hid hn; have IHB := Lib.hid (fun i e hi => ihb i e hi); have IHE := Lib.hid (fun i e hi => ihe i e hi); have HA := Lib.hid (fun i e hi => ha i e hi); have HL := Lib.hid (And.intro hm hs); have HB0 := Lib.hid hb0; have HW := Lib.hid hw
    clear hc hn hm hs ha hb he ihb ihe hb0 hw hlen
    go_enter Tryz.func84, Tryz.ntmps84
    go_wp2_with (refine wpList_make_full _ rfl _ _ 62 rfl w.heap.size 70 i0 _ 5 Tryz.underlying62 hi hz0 hz1 .i64 .i64 n n n (by rfl) (by rfl) rfl rfl (by rw [hz2]; omega) (by unfold maxLen; omega) (Nat.le_refl _) ?_; intro w1 hown hg; have HOWN := Lib.hid hown; have HB := Lib.hid ((Below.refl w.heap.size w).grown hg (Nat.le_refl _) (fun k hk => by cases hk)); clear hown hg)
    go_loopw [4] (fun i wr => ∃ (k : Nat) (ys : List Value) (av bv ev : Nat → Value) (ls m1 m2 hs : Nat → Nat), k ≤ n ∧ i = .int .i64 k ∧ wr.ownsRow w.heap.size 70 5 (.slice (some ⟨w.heap.size, 0, none⟩) n n) n ys ∧ Hid (StD wr w.heap.size wr.heap.size k ss ys av bv ev ls m1 m2 hs) ∧ Below w.heap.size w wr) (fun i _ => n - (intOf i).toNat)
    case atStart => exact ⟨0, _, fun _ => .slice none 0 0, fun _ => .slice none 0 0, fun _ => .slice none 0 0, fun _ => 0, fun _ => 0, fun _ => 0, fun _ => 0, Nat.zero_le _, rfl, HOWN.out, Lib.hid (fun i x hi => by omega), HB.out⟩
    case round =>
      obtain ⟨k, ys, ua, ub, ue, ls, m1, m2, hs, hk, rfl, hown, hys, hB⟩ := hrel
      by_cases hlt : k < n
      · obtain ⟨x, hx⟩ : ∃ x, ss[k]? = some x := ⟨_, List.getElem?_eq_getElem (by rw [← Hl.out]; exact hlt)⟩
        obtain ⟨b, off, rfl, c0, c1, c2, c3, c4⟩ := Hc.out k x hx
        have hb1 := HB0.out.trans (hB.mono HB0.out.size)
        have c0 := cellB hb1 c0
        have c1 := cellB hb1 c1
        have c2 := cellB hb1 c2
        have c3 := cellB hb1 c3
        have c4 := cellB hb1 c4
        have hww : exsW x.args ≤ 1048576 ∧ stsW x.body ≤ 1048576 ∧ stsW x.els ≤ 1048576 := by have h1 := stW_le hx; have h2 := HW.out; have h3 := stW_eq x; omega
        have HE := Lib.hid (toSt_of wr x (av k) (bv k) (ev k) (HL.out.2 k x hx) (fun w2 hb => toExs_any (HA.out k x hx) w2 (hb1.trans (hb.mono hb1.size)) hww.1) (fun w2 hb => IHB.out k x hx w2 (hb1.trans (hb.mono hb1.size)) hww.2.1) (fun w2 hb => IHE.out k x hx w2 (hb1.trans (hb.mono hb1.size)) hww.2.2))
        have HB' := Lib.hid hB; have HOW := Lib.hid hown; have HXK := Lib.hid hx
        have hg0 := (ownsRow_lt hown).1
        generalize hvk : av k = vk at *
        generalize hvk2 : bv k = vk2 at *
        generalize hvk3 : ev k = vk3 at *
        clear hvk hvk2 hvk3
        have k0 : (0 : Int) ≤ k := by omega
        have k1 : (k : Int) < n := by omega
        clear hB hown hx hb1 hww
        go_wp2_with (fail)
        go_at_call 122
        refine HE.out.mono ?_
        rintro e w2 ⟨xa, xb, xe, p1, p2, rfl, hb, hO⟩
        obtain ⟨g1, hv1, _, _⟩ := hO.2.2.2.1.form
        obtain ⟨g2, hv2, _, _⟩ := hO.2.2.2.2.1.form
        obtain ⟨g3, hv3, _, _⟩ := hO.2.2.2.2.2.form
        obtain ⟨n1, hn1⟩ : ∃ m, m = x.args.length := ⟨_, rfl⟩
        obtain ⟨n2, hn2⟩ : ∃ m, m = x.body.length := ⟨_, rfl⟩
        obtain ⟨n3, hn3⟩ : ∃ m, m = x.els.length := ⟨_, rfl⟩
        rw [← hn1] at hv1
        rw [← hn2] at hv2
        rw [← hn3] at hv3
        subst hv1 hv2 hv3
        have hsz := HB'.out.size
        have hO2 := ownsRow_below HOW.out hb
        obtain ⟨⟨y0, d0⟩, ⟨y1, d1⟩, ⟨y2, d2⟩, ⟨y3, d3⟩, ⟨y4, d4⟩, f0, f1, f2, f3, f4⟩ := own5 hO2 k hlt
        have HD := Lib.hid (hys.out.step HXK.out hlt HOW.out.1 hb hg0 hO rfl)
        have HB2 := Lib.hid (HB'.out.trans (hb.mono hsz)); have HO2 := Lib.hid hO2
        generalize x.op = op at *
        generalize x.name = nm at *
        clear hb hO hO2 c0 c1 c2 c3 c4 hys HE hn1 hn2 hn3
        go_wp2_with (fail)
        go_roundw
        case rel =>
          exact ⟨k + 1, _, _, _, _, _, _, _, _, by omega, by go_num, stored5 HO2.out k _ _ _ _ _, HD, below_5 HB2.out (Nat.le_refl _) k _ _ _ _ _⟩
        case measure => simp [intOf]; omega
      · obtain rfl : k = n := by omega
        have HO := Lib.hid hown; have HB' := Lib.hid hB
        clear hown hB
        go_wp2_with (fail)
        go_ret
        exact ⟨_, rfl, HB'.out, hys.out.done Hl.out HL.out (Nat.le_refl _) (ownsRow_lt HO.out).1 HO.out⟩
end Go.Proofs.YtpnliencahnmoaaGreatDoor
