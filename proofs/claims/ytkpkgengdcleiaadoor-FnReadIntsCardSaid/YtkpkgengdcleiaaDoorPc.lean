/- Plain: the pieces of a text between spaces; the number that a piece tells; the numbers of a text. No program here. -/
import Derived.Test.YtkpkgengdcleiaaDoorRd
import Derived.Lib.SplitLaws
import Derived.Lib.IndexBytes
import Derived.Lib.Atoi
set_option maxRecDepth 100000
namespace Go.Proofs.YtkpkgengdcleiaaDoor
open Go.RowKit

/-- how many bytes stand ahead of the first space -/
def fsp : List UInt8 → Nat
  | [] => 0
  | b :: l => if b == 32 then 0 else fsp l + 1

theorem fsp_le (l : List UInt8) : fsp l ≤ l.length := by
  induction l with
  | nil => simp [fsp]
  | cons b l ih => unfold fsp; split <;> simp <;> omega

theorem fsp_hit (l : List UInt8) (h : Lib.indexByte l 32 ≠ -1) : Lib.indexByte l 32 = fsp l ∧ fsp l < l.length := by
  induction l with
  | nil => simp [Lib.indexByte] at h
  | cons b l ih =>
    unfold Lib.indexByte at h ⊢
    unfold fsp
    by_cases hb : (b == 32) = true
    · simp [hb]
    · simp only [hb, Bool.false_eq_true, if_false] at h ⊢
      by_cases h2 : Lib.indexByte l 32 = -1
      · simp [h2] at h
      · have := ih h2
        have e : (Lib.indexByte l 32 == -1) = false := by simpa using h2
        simp only [e, Bool.false_eq_true, if_false]
        simp; omega

/-- the pieces of a text between spaces -/
def pcs : List UInt8 → List (List UInt8)
  | [] => [[]]
  | b :: l => if b == 32 then [] :: pcs l else match pcs l with
    | [] => [[b]]
    | p :: ps => (b :: p) :: ps

theorem pcs_ne (l : List UInt8) : pcs l ≠ [] := by
  cases l with
  | nil => simp [pcs]
  | cons b l =>
    unfold pcs
    split
    · simp
    · split <;> simp

theorem pcs_cons (b : UInt8) (l : List UInt8) (hb : (b == 32) = false) : pcs (b :: l) = match pcs l with | [] => [[b]] | p :: ps => (b :: p) :: ps := by
  rw [pcs, hb]
  rfl
theorem pcs_none : ∀ (l : List UInt8), (∀ b ∈ l, b ≠ 32) → pcs l = [l]
  | [], _ => rfl
  | b :: l, h => by
    have hb : (b == 32) = false := by simpa using h b (List.mem_cons_self ..)
    rw [pcs_cons _ _ hb, pcs_none l (fun x hx => h x (List.mem_cons_of_mem _ hx))]

theorem pcs_cut : ∀ (a r : List UInt8), (∀ b ∈ a, b ≠ 32) → pcs (a ++ 32 :: r) = a :: pcs r
  | [], r, _ => rfl
  | b :: a, r, h => by
    have hb : (b == 32) = false := by simpa using h b (List.mem_cons_self ..)
    rw [List.cons_append]
    rw [pcs_cons _ _ hb, pcs_cut a r (fun x hx => h x (List.mem_cons_of_mem _ hx))]

theorem fsp_take (l : List UInt8) : ∀ b ∈ l.take (fsp l), b ≠ 32 := by
  induction l with
  | nil => simp
  | cons b l ih =>
    unfold fsp
    by_cases hb : (b == 32) = true
    · simp [hb]
    · simp only [hb, Bool.false_eq_true, if_false, List.take_succ_cons, List.mem_cons]
      rintro x (rfl | hx)
      · simpa using hb
      · exact ih x hx
theorem fsp_at (l : List UInt8) (h : fsp l < l.length) : l = l.take (fsp l) ++ 32 :: l.drop (fsp l + 1) := by
  induction l with
  | nil => simp at h
  | cons b l ih =>
    unfold fsp at h ⊢
    by_cases hb : (b == 32) = true
    · have : b = 32 := by simpa using hb
      simp [this]
    · simp only [hb, Bool.false_eq_true, if_false, List.length_cons] at h ⊢
      have := ih (by omega)
      simp only [List.take_succ_cons, List.drop_succ_cons, List.cons_append]
      rw [← this]

theorem data_extract (s : ByteArray) (a b : Nat) : (s.extract a b).data.toList = (s.data.toList.drop a).take (b - a) := Lib.extract_data s a b

theorem count32 (s : ByteArray) : Lib.count s.data.toList [32] = s.data.toList.count 32 := Lib.count_one 32 _

theorem splitB_pcs : ∀ (k : Nat) (s : ByteArray), s.data.toList.count 32 = k → (Lib.splitB ⟨#[32]⟩ 0 k s).map (·.data.toList) = pcs s.data.toList
  | 0, s, h => by
    have h' : ∀ b ∈ s.data.toList, b ≠ 32 := by
      intro b hb e
      subst e
      exact (List.count_eq_zero.1 h) hb
    rw [pcs_none _ h']
    simp [Lib.splitB]
  | k + 1, s, h => by
    have hne : Lib.indexByte s.data.toList 32 ≠ -1 := by
      intro e
      have hi : Lib.index s.data.toList [32] = -1 := by rw [Lib.index_one]; exact e
      have := Lib.count_miss hi
      rw [count32, h] at this
      omega
    obtain ⟨h1, h2⟩ := fsp_hit _ hne
    have hi : Lib.indexB s ⟨#[32]⟩ = (fsp s.data.toList : Int) := by
      show Lib.index s.data.toList [32] = _
      rw [Lib.index_one]; exact h1
    have hsplit := fsp_at _ h2
    have hcount : (s.data.toList.drop (fsp s.data.toList + 1)).count 32 = k := by
      have hz : (s.data.toList.take (fsp s.data.toList)).count 32 = 0 := List.count_eq_zero.2 (fun hm => fsp_take _ 32 hm rfl)
      have e := congrArg (List.count 32) hsplit
      rw [List.count_append, List.count_cons_self, h, hz] at e
      omega
    unfold Lib.splitB
    rw [hi]
    have hb : (((fsp s.data.toList : Nat) : Int) == -1) = false := by simp
    rw [hb]
    simp only [Bool.false_eq_true, if_false, List.map_cons, Int.toNat_natCast, Nat.add_zero]
    have e2 : (s.extract (fsp s.data.toList + (⟨#[32]⟩ : ByteArray).size) s.size).data.toList = s.data.toList.drop (fsp s.data.toList + 1) := by
      rw [data_extract]
      rw [List.take_of_length_le (by rw [List.length_drop]; exact Nat.le_refl _)]
      rfl
    rw [splitB_pcs k _ (by rw [e2]; exact hcount), e2, data_extract]
    simp only [List.drop_zero, Nat.sub_zero]
    conv => rhs; rw [hsplit]
    rw [pcs_cut _ _ (fsp_take _)]

theorem pcs_length (l : List UInt8) : (pcs l).length = l.count 32 + 1 := by
  induction l with
  | nil => rfl
  | cons b l ih =>
    unfold pcs
    by_cases hb : (b == 32) = true
    · have : b = 32 := by simpa using hb
      subst this
      simp [ih]
    · simp only [hb, Bool.false_eq_true, if_false]
      have hb' : b ≠ 32 := by simpa using hb
      rw [List.count_cons_of_ne hb']
      split
      · rename_i e; exact absurd e (pcs_ne l)
      · rename_i p ps e; rw [e] at ih; simpa using ih

theorem pcs_small : ∀ (l : List UInt8) (p : List UInt8), p ∈ pcs l → p.length ≤ l.length
  | [], p, h => by
    have : p = [] := by simpa [pcs] using h
    simp [this]
  | b :: l, p, h => by
    by_cases hb : (b == 32) = true
    · unfold pcs at h
      rw [hb] at h
      simp only [if_true, List.mem_cons] at h
      rcases h with rfl | h
      · simp
      · have := pcs_small l p h
        simp; omega
    · rw [pcs_cons b l (by simpa using hb)] at h
      split at h
      · rename_i e; exact absurd e (pcs_ne l)
      · rename_i q qs e
        rcases List.mem_cons.1 h with rfl | h
        · have := pcs_small l q (by rw [e]; exact List.mem_cons_self ..)
          simp; omega
        · have := pcs_small l p (by rw [e]; exact List.mem_cons_of_mem _ h)
          simp; omega

end Go.Proofs.YtkpkgengdcleiaaDoor
