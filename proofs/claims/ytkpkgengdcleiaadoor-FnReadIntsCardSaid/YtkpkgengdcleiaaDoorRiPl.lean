/- Plain laws on texts of numbers: what is written is read back, and what is read is the text that would be written. No program here. -/
import Derived.Test.YtkpkgengdcleiaaDoorRi
import Derived.Test.YtkpkgengdcleiaaDoorIt
set_option maxRecDepth 100000
namespace Go.Proofs.YtkpkgengdcleiaaDoor
open Go.RowKit

theorem decFrom_append : ∀ (a b : List UInt8) (acc : Nat), Lib.decFrom acc (a ++ b) = (Lib.decFrom acc a).bind (fun n => Lib.decFrom n b)
  | [], b, acc => by simp [Lib.decFrom]
  | x :: a, b, acc => by
    rw [List.cons_append, Lib.decFrom, Lib.decFrom]
    cases Lib.digitVal x with
    | none => rfl
    | some d => exact decFrom_append a b _

theorem digitVal_of (d : Nat) (h : d < 10) : Lib.digitVal (UInt8.ofNat (48 + d)) = some d := by
  have e : (UInt8.ofNat (48 + d)).toNat = 48 + d := by simp; omega
  unfold Lib.digitVal
  rw [e, if_pos (by omega)]
  congr 1
  omega

theorem decFrom_one (acc d : Nat) (h : d < 10) : Lib.decFrom acc [UInt8.ofNat (48 + d)] = some (acc * 10 + d) := by
  simp only [Lib.decFrom, digitVal_of d h]

theorem decFrom_digits : ∀ (f u : Nat), u ≤ f → Lib.decFrom 0 (Lib.decDigits u) = some u
  | 0, u, h => by
    obtain rfl : u = 0 := by omega
    rw [dec_small 0 (by omega), decFrom_one 0 0 (by omega)]
  | f + 1, u, h => by
    by_cases hu : 9 < u
    · rw [dec_big u hu, decFrom_append, decFrom_digits f (u / 10) (by omega)]
      simp only [Option.bind_some]
      rw [decFrom_one _ _ (by omega)]
      congr 1
      omega
    · rw [dec_small u hu, decFrom_one 0 u (by omega)]
      congr 1
      omega

theorem digits_ne (u : Nat) : Lib.decDigits u ≠ [] := by
  intro h
  have := Lib.decDigits_length u
  have h1 := Lib.nDigits_pos u
  rw [h] at this
  simp at this
  omega

theorem byte_of_digit {b : UInt8} {d : Nat} (h : Lib.digitVal b = some d) : b = UInt8.ofNat (48 + d) := by
  have := Lib.digitVal_eq h
  apply UInt8.toNat_inj.1
  rw [show 48 + d = b.toNat from by omega]
  simp

/-- the head of a numeral is no nought, but of nought itself -/
theorem digits_head : ∀ (f u : Nat), u ≤ f → 0 < u → (Lib.decDigits u).head? ≠ some 48
  | 0, u, h, h0 => by omega
  | f + 1, u, h, h0 => by
    by_cases hu : 9 < u
    · rw [dec_big u hu, List.head?_append]
      have ih := digits_head f (u / 10) (by omega) (by omega)
      cases hd : (Lib.decDigits (u / 10)).head? with
      | none => exact absurd (List.head?_eq_none_iff.1 hd) (digits_ne _)
      | some b =>
        rw [hd] at ih
        simpa using ih
    · rw [dec_small u hu]
      simp only [List.head?_cons, ne_eq, Option.some.injEq]
      intro e
      have : (UInt8.ofNat (48 + u)).toNat = 48 := by rw [e]; rfl
      simp at this
      omega

theorem canon : ∀ (k : Nat) (l : List UInt8) (n : Nat), l.length = k + 1 → (l.head? ≠ some 48 ∨ k = 0) → Lib.decFrom 0 l = some n → Lib.decDigits n = l
  | 0, l, n, hl, _, h => by
    obtain ⟨b, rfl⟩ := List.length_eq_one_iff.1 hl
    unfold Lib.decFrom at h
    cases hd : Lib.digitVal b with
    | none => simp [hd] at h
    | some d =>
      simp [hd, Lib.decFrom] at h
      have := Lib.digitVal_eq hd
      subst h
      rw [dec_small d (by omega), ← byte_of_digit hd]
  | k + 1, l, n, hl, hh, h => by
    have hne : l ≠ [] := by intro e; rw [e] at hl; simp at hl
    obtain ⟨q, b, rfl⟩ : ∃ q b, l = q ++ [b] := ⟨l.dropLast, l.getLast hne, (List.dropLast_concat_getLast hne).symm⟩
    have hq : q.length = k + 1 := by simpa using hl
    have hqn : q ≠ [] := by intro e; rw [e] at hq; simp at hq
    rw [decFrom_append] at h
    cases hm : Lib.decFrom 0 q with
    | none => simp [hm] at h
    | some m =>
      simp only [hm, Option.bind_some] at h
      unfold Lib.decFrom at h
      cases hd : Lib.digitVal b with
      | none => simp [hd] at h
      | some d =>
        simp [hd, Lib.decFrom] at h
        have hv := Lib.digitVal_eq hd
        have hh' : q.head? ≠ some 48 := by
          rcases hh with hh | hh
          · intro e
            apply hh
            rw [List.head?_append, e]; rfl
          · omega
        have ih := canon k q m hq (.inl hh') hm
        have hm1 : 1 ≤ m := by
          rcases Nat.eq_zero_or_pos m with h0 | h0
          · exfalso
            subst h0
            rw [dec_small 0 (by omega)] at ih
            rw [← ih] at hh'
            exact hh' rfl
          · exact h0
        subst h
        rw [dec_big _ (by omega), show (m * 10 + d) / 10 = m from by omega, show (m * 10 + d) % 10 = d from by omega, ih, ← byte_of_digit hd]

theorem itoa_of_num (p : List UInt8) (h : 0 ≤ numI p) : Lib.itoa (numI p) = p := by
  unfold numI at h ⊢
  split
  · rename_i hb; rw [if_pos hb] at h; omega
  · rename_i hb
    rw [if_neg hb] at h
    cases hd : Lib.decFrom 0 p with
    | none => rw [hd] at h; simp at h
    | some n =>
      simp only []
      have e : Lib.itoa (n : Int) = Lib.decDigits n := by simp [Lib.itoa]
      rw [e]
      have hp : p.length ≠ 0 := fun e => hb (.inl e)
      refine canon (p.length - 1) p n (by omega) ?_ hd
      by_cases h1 : p.length = 1
      · right; omega
      · left
        intro e
        exact hb (.inr (.inr ⟨e, by omega⟩))

theorem join_cons2 (x y : List UInt8) (ys : List (List UInt8)) (sep : List UInt8) : Lib.join (x :: y :: ys) sep = x ++ sep ++ Lib.join (y :: ys) sep := by
  simp [Lib.join, List.intercalate]
theorem join_one (x sep : List UInt8) : Lib.join [x] sep = x := by simp [Lib.join, List.intercalate]

theorem join_pcs : ∀ l : List UInt8, Lib.join (pcs l) [32] = l
  | [] => rfl
  | b :: l => by
    have ih := join_pcs l
    by_cases hb : (b == 32) = true
    · have e : b = 32 := by simpa using hb
      subst e
      unfold pcs
      simp only [hb, if_true]
      cases hp : pcs l with
      | nil => exact absurd hp (pcs_ne l)
      | cons q qs =>
        rw [hp] at ih
        rw [join_cons2, ih]; rfl
    · rw [pcs_cons b l (by simpa using hb)]
      cases hp : pcs l with
      | nil => exact absurd hp (pcs_ne l)
      | cons q qs =>
        rw [hp] at ih
        simp only []
        cases qs with
        | nil => rw [join_one] at ih ⊢; rw [ih]
        | cons q' qs =>
          rw [join_cons2] at ih ⊢
          rw [← ih]; rfl

theorem pcs_join : ∀ (ps : List (List UInt8)), ps ≠ [] → (∀ p ∈ ps, ∀ b ∈ p, b ≠ 32) → pcs (Lib.join ps [32]) = ps
  | [], h, _ => absurd rfl h
  | [p], _, h => by rw [join_one, pcs_none p (h p (by simp))]
  | p :: q :: ps, _, h => by
    rw [join_cons2, List.append_assoc]
    have ih := pcs_join (q :: ps) (by simp) (fun x hx => h x (List.mem_cons_of_mem _ hx))
    show pcs (p ++ 32 :: Lib.join (q :: ps) [32]) = _
    rw [pcs_cut p _ (h p (List.mem_cons_self ..)), ih]

theorem digits_clean : ∀ (f u : Nat), u ≤ f → ∀ b ∈ Lib.decDigits u, b ≠ 32
  | 0, u, h, b, hb => by
    obtain rfl : u = 0 := by omega
    rw [dec_small 0 (by omega)] at hb
    have : b = UInt8.ofNat 48 := by simpa using hb
    rw [this]; decide
  | f + 1, u, h, b, hb => by
    have hd : ∀ d, d < 10 → UInt8.ofNat (48 + d) ≠ 32 := by
      intro d hd e
      have : (UInt8.ofNat (48 + d)).toNat = 32 := by rw [e]; rfl
      simp at this
      omega
    by_cases hu : 9 < u
    · rw [dec_big u hu] at hb
      rcases List.mem_append.1 hb with hb | hb
      · exact digits_clean f (u / 10) (by omega) b hb
      · have : b = UInt8.ofNat (48 + u % 10) := by simpa using hb
        rw [this]; exact hd _ (by omega)
    · rw [dec_small u hu] at hb
      have : b = UInt8.ofNat (48 + u) := by simpa using hb
      rw [this]; exact hd _ (by omega)
theorem itoa_clean (z : Int) : ∀ b ∈ Lib.itoa z, b ≠ 32 := by
  intro b hb
  unfold Lib.itoa at hb
  split at hb
  · rcases List.mem_cons.1 hb with rfl | hb
    · decide
    · exact digits_clean _ _ (Nat.le_refl _) b hb
  · exact digits_clean _ _ (Nat.le_refl _) b hb

theorem nDigits_big5 (u : Nat) (h : 9999 < u) : 4 < (Lib.decDigits u).length := by
  rw [Lib.decDigits_length]
  rcases Nat.lt_or_ge 4 (Lib.nDigits u) with h1 | h1
  · exact h1
  · have := Lib.lt_pow_nDigits u
    have h2 : (10 : Nat) ^ Lib.nDigits u ≤ 10 ^ 4 := Nat.pow_le_pow_right (by omega) h1
    omega
theorem nDigits_small4 (u : Nat) (h : u ≤ 9999) : (Lib.decDigits u).length ≤ 4 := by
  rw [Lib.decDigits_length]
  by_cases h1 : u < 10
  · rw [Lib.nDigits_small h1]; omega
  rw [Lib.nDigits_big h1]
  by_cases h2 : u / 10 < 10
  · rw [Lib.nDigits_small h2]; omega
  rw [Lib.nDigits_big h2]
  by_cases h3 : u / 10 / 10 < 10
  · rw [Lib.nDigits_small h3]; omega
  rw [Lib.nDigits_big h3, Lib.nDigits_small (by omega)]
  omega

def smallZ (z : Int) : Bool := decide (0 ≤ z) && decide (z ≤ 9999)

theorem num_itoa (z : Int) : numI (Lib.itoa z) = if smallZ z then z else -1 := by
  by_cases hn : z < 0
  · have hs : smallZ z = false := by simp [smallZ]; omega
    rw [hs]
    have e : Lib.itoa z = 45 :: Lib.decDigits z.natAbs := by simp [Lib.itoa, hn]
    rw [e, numI_none]
    · rfl
    · simp [Lib.decFrom, Lib.digitVal]
  · obtain ⟨u, rfl⟩ := Int.eq_ofNat_of_zero_le (by omega : 0 ≤ z)
    have e : Lib.itoa (u : Int) = Lib.decDigits u := by simp [Lib.itoa]
    rw [e]
    by_cases hb : 9999 < u
    · have hs : smallZ (u : Int) = false := by simp [smallZ]; omega
      rw [hs, numI_bad (.inr (.inl (nDigits_big5 u hb)))]
      rfl
    · have hs : smallZ (u : Int) = true := by simp [smallZ]; omega
      rw [hs, if_pos rfl]
      have h4 := nDigits_small4 u (by omega)
      refine numI_some ?_ (decFrom_digits u u (Nat.le_refl _))
      rintro (h | h | ⟨h, h'⟩)
      · exact digits_ne u (List.length_eq_zero_iff.1 h)
      · omega
      · rcases Nat.eq_zero_or_pos u with h0 | h0
        · subst h0
          rw [dec_small 0 (by omega)] at h'
          simp at h'
        · exact digits_head u u (Nat.le_refl _) h0 h

/-- what is read is the text that would be written -/
theorem ri_text (l : List UInt8) (zs : List Int) (h : riOf l = (true, zs)) : (txt zs).data.toList = l := by
  unfold riOf at h
  split at h
  · rename_i h0
    obtain rfl : [] = zs := by simpa using h
    rw [h0]; rfl
  · split at h
    · simp at h
    · split at h
      · rename_i h2
        obtain rfl : (pcs l).map numI = zs := by simpa using h
        rw [txt_data, List.map_map]
        have : (pcs l).map (Lib.itoa ∘ numI) = pcs l := by
          conv => rhs; rw [← List.map_id (pcs l)]
          apply List.map_congr_left
          intro p hp
          have := List.all_eq_true.1 h2 p hp
          simp only [Function.comp, id]
          exact itoa_of_num p (by simpa using this)
        rw [this, join_pcs]
      · simp at h

/-- what is written is read back -/
theorem ri_back (zs : List Int) : riOf (txt zs).data.toList = if zs.all smallZ && decide (zs.length ≤ 100) then (true, zs) else (false, []) := by
  cases zs with
  | nil => rfl
  | cons z zs =>
    have hp : pcs (txt (z :: zs)).data.toList = (z :: zs).map Lib.itoa := by
      rw [txt_data]
      refine pcs_join _ (by simp) ?_
      intro p hp
      obtain ⟨x, _, rfl⟩ := List.mem_map.1 hp
      exact itoa_clean x
    have hne : (txt (z :: zs)).data.toList ≠ [] := by
      intro e
      rw [e] at hp
      have h1 : [[]] = (z :: zs).map Lib.itoa := hp
      have h2 : ([] : List UInt8) = Lib.itoa z := by
        simp only [List.map_cons, List.cons.injEq] at h1
        exact h1.1
      unfold Lib.itoa at h2
      split at h2
      · cases h2
      · exact digits_ne _ h2.symm
    unfold riOf
    rw [if_neg hne, hp, List.length_map]
    by_cases h1 : 100 < (z :: zs).length
    · rw [if_pos h1]
      have : decide ((z :: zs).length ≤ 100) = false := by simp only [decide_eq_false_iff_not]; omega
      rw [this, Bool.and_false]
      rfl
    · rw [if_neg h1]
      have h2 : decide ((z :: zs).length ≤ 100) = true := by simp only [decide_eq_true_eq]; omega
      rw [h2, Bool.and_true, List.all_map]
      have h3 : (z :: zs).all ((fun p => decide (0 ≤ numI p)) ∘ Lib.itoa) = (z :: zs).all smallZ := by
        congr 1
        funext x
        simp only [Function.comp, num_itoa]
        cases hx : smallZ x with
        | true =>
          simp [smallZ] at hx
          simp; omega
        | false => rfl
      rw [h3]
      cases h4 : (z :: zs).all smallZ with
      | false => rfl
      | true =>
        simp only [if_true]
        congr 1
        rw [List.map_map]
        conv => rhs; rw [← List.map_id (z :: zs)]
        apply List.map_congr_left
        intro x hx
        have := List.all_eq_true.1 h4 x hx
        simp only [Function.comp, num_itoa, this, if_true, id]

end Go.Proofs.YtkpkgengdcleiaaDoor
