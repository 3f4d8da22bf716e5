/- The reference cuts a text at each space: l22Cut. No conditions but the text's size. -/
import Derived.Test.YtkpkgengdcleiaaDoorNum
import Derived.Test.YtkpkgengdcleiaaDoorOwn
set_option maxRecDepth 100000
namespace Go.Proofs.YtkpkgengdcleiaaDoor
open Go.RowKit

/-- where the cutting stands: k bytes looked at, the piece under way from f on, the pieces so far -/
def CutInv (l : List UInt8) (k f : Nat) (P : List (List UInt8)) : Prop :=
  P.length ≤ k ∧ f ≤ k ∧ ((k ≤ l.length ∧ P ++ pcs (l.drop f) = pcs l ∧ ∀ j b, f ≤ j → j < k → l[j]? = some b → b ≠ 32) ∨ (k = l.length + 1 ∧ P = pcs l))

theorem cut_start (l : List UInt8) : CutInv l 0 0 [] := ⟨Nat.le_refl _, Nat.le_refl _, .inl ⟨Nat.zero_le _, by simp, fun j b h1 h2 => by omega⟩⟩

theorem cut_no {l : List UInt8} {k f : Nat} {P : List (List UInt8)} (h : CutInv l k f P) (hk : k < l.length) (hb : ∀ b, l[k]? = some b → b ≠ 32) : CutInv l (k + 1) f P := by
  obtain ⟨h1, h2, ⟨h3, h4, h5⟩ | ⟨h3, _⟩⟩ := h
  · refine ⟨by omega, by omega, .inl ⟨by omega, h4, fun j b hj1 hj2 hl => ?_⟩⟩
    by_cases hjk : j = k
    · subst hjk; exact hb b hl
    · exact h5 j b hj1 (by omega) hl
  · omega

theorem seg_clean {l : List UInt8} {k f : Nat} (h5 : ∀ j b, f ≤ j → j < k → l[j]? = some b → b ≠ 32) : ∀ b ∈ (l.drop f).take (k - f), b ≠ 32 := by
  intro b hb
  obtain ⟨i, hi⟩ := List.getElem?_of_mem hb
  rw [List.getElem?_take] at hi
  split at hi
  · rename_i hlt
    rw [List.getElem?_drop] at hi
    exact h5 (f + i) b (by omega) (by omega) hi
  · cases hi

theorem cut_sp {l : List UInt8} {k f : Nat} {P : List (List UInt8)} (h : CutInv l k f P) (hk : k < l.length) (hb : l[k]? = some 32) : CutInv l (k + 1) (k + 1) (P ++ [(l.drop f).take (k - f)]) := by
  obtain ⟨h1, h2, ⟨h3, h4, h5⟩ | ⟨h3, _⟩⟩ := h
  · refine ⟨by simp; omega, Nat.le_refl _, .inl ⟨by omega, ?_, fun j b hj1 hj2 => by omega⟩⟩
    rw [← h4, List.append_assoc]
    congr 1
    have e : l.drop f = (l.drop f).take (k - f) ++ 32 :: l.drop (k + 1) := by
      have h6 : (l.drop f).drop (k - f) = 32 :: l.drop (k + 1) := by
        rw [List.drop_drop, show f + (k - f) = k from by omega]
        rw [List.drop_eq_getElem_cons hk]
        rw [List.getElem?_eq_getElem hk] at hb
        injection hb with hb
        rw [hb]
      conv => lhs; rw [← List.take_append_drop (k - f) (l.drop f)]
      rw [h6]
    conv => rhs; rw [e]
    rw [pcs_cut _ _ (seg_clean h5)]
    rfl
  · omega

theorem cut_end {l : List UInt8} {k f : Nat} {P : List (List UInt8)} (h : CutInv l k f P) (hk : k = l.length) : CutInv l (k + 1) (k + 1) (P ++ [(l.drop f).take (k - f)]) := by
  obtain ⟨h1, h2, ⟨h3, h4, h5⟩ | ⟨h3, _⟩⟩ := h
  · refine ⟨by simp; omega, Nat.le_refl _, .inr ⟨by omega, ?_⟩⟩
    rw [← h4]
    congr 1
    have hc := seg_clean h5
    have e : (l.drop f).take (k - f) = l.drop f := List.take_of_length_le (by rw [List.length_drop]; omega)
    rw [e] at hc ⊢
    rw [pcs_none _ hc]
  · omega

theorem cut_done {l : List UInt8} {f : Nat} {P : List (List UInt8)} (h : CutInv l (l.length + 1) f P) : P = pcs l := by
  obtain ⟨h1, h2, ⟨h3, _⟩ | ⟨_, h4⟩⟩ := h
  · omega
  · exact h4

def datas (P : List ByteArray) : List (List UInt8) := P.map (·.data.toList)

/-- the pieces of a text, in a slice of the call's own that is not nil -/
def CutPost (s : ByteArray) (w : World) (e : Ending) (w' : World) : Prop :=
  ∃ v P, e = .returned v ∧ datas P = pcs s.data.toList ∧ w'.ownsRow w.heap.size 9 1 v P.length (P.map Value.string) ∧ v ≠ .slice none 0 0 ∧ Below w.heap.size w w'

set_option maxHeartbeats 1000000 in
theorem l22Cut_any (w : World) (s : ByteArray) (hm : s.size ≤ 1048576) : Calls Tryd.prog 21 #[.string s] w (CutPost s w) := by
  have hll := len_list s
  have HL := Lib.hid hll
  obtain ⟨i0, hi, hz0, hz1, hz2⟩ := info_parts info_str
  have HS := Lib.hid (ownsRow_empty w 9 1)
  have HB0 := Lib.hid ((Below.refl w.heap.size w).alloc (Nat.le_refl _) (.cells #[] 9))
  clear hll
  go_enter Tryd.func21, Tryd.ntmps21
  go_wp2
  go_loopw [3, 4, 5] (fun o f i wr => ∃ (k g : Nat) (P : List ByteArray), k ≤ s.size + 1 ∧ i = .int .i64 k ∧ f = .int .i64 g ∧ g ≤ k ∧ P.length ≤ k ∧ Hid (CutInv s.data.toList k g (datas P)) ∧ wr.ownsRow w.heap.size 9 1 o P.length (P.map Value.string) ∧ Hid (o ≠ .slice none 0 0) ∧ Below w.heap.size w wr) (fun _ _ i _ => s.size + 1 - (intOf i).toNat)
  case atStart => exact ⟨0, 0, [], Nat.zero_le _, rfl, rfl, Nat.le_refl _, Nat.le_refl _, cut_start _, HS.out, by simp [Hid], HB0.out⟩
  case round =>
    obtain ⟨k, g, P, hk, rfl, rfl, hgk, hP, hC, hown, hne, hB⟩ := hrel
    obtain ⟨wo, rfl⟩ : ∃ wo : World, wo = wr := ⟨_, rfl⟩
    have HB := Lib.hid hB
    have HO := Lib.hid hown
    have hsz := hB.size
    clear hB hown
    by_cases hlt : k < s.size
    · have hke : ((k : Int) == (s.size : Int)) = false := by simp; omega
      have hke2 : (k == s.size) = false := by simp; omega
      by_cases h32 : s[k].toNat = 32
      · have hb : ((s[k].toNat : Int) == 32) = true := by simp; omega
        have hc2 := cut_sp hC.out (by rw [HL.out]; exact hlt) (by rw [at_list s k hlt, ← UInt8.toNat_inj.1 (show s[k].toNat = (32 : UInt8).toNat from h32)])
        have HC2 := Lib.hid hc2
        clear hc2 hC
        go_wp2_with (at_builtin; refine wpList_append_own _ rfl _ _ 37 (by rfl) w.heap.size 9 i0 (.string .empty) 1 16 Tryd.underlying37 hi hz0 hz1 hz2 rfl (by decide) _ P.length _ (by rfl) (HO.out.alloc _) ⟨wo.heap.size, 0, none⟩ 1 1 [.string (s.extract g k)] (by rfl) rfl (World.news_of_block (cs := #[.string (s.extract g k)]) (t := 9) (fr := (0, 0)) (heap_alloc_new wo _)) (by simp [Value.oneCell']) (by unfold maxLen; omega) (by omega) (by simp; omega) ?_; intro v2 w2 hown2 hg2 hn2; have HO2 := Lib.hid hown2; have HN2 := Lib.hid hn2; have HB2 := Lib.hid ((HB.out.alloc hsz _).grown hg2 (by simp; omega) (fun q hq => ownBlock_of HO.out q hq)); clear hown2 hg2 hn2)
        go_roundw
        case rel =>
          refine ⟨k + 1, k + 1, P ++ [s.extract g k], by omega, by go_num, by go_num, Nat.le_refl _, by simp; omega, ?_, ?_, fun e => hne.out (HN2.out.1 e).1, HB2.out⟩
          · have := HC2.out
            unfold datas at this ⊢
            rw [List.map_append, List.map_singleton, data_extract]
            exact this
          · have := HO2.out
            rw [List.map_append, List.length_append]
            exact this
        case measure => simp [intOf]; omega
      · have hb : ((s[k].toNat : Int) == 32) = false := by simp; omega
        have hc2 := cut_no hC.out (by rw [HL.out]; exact hlt) (fun b hbk e => h32 (by rw [at_list s k hlt] at hbk; injection hbk with hbk; rw [hbk, e]; rfl))
        have HC2 := Lib.hid hc2
        clear hc2 hC
        go_wp2
        go_roundw
        case rel => exact ⟨k + 1, g, P, by omega, by go_num, rfl, by omega, by omega, HC2.out, HO.out, hne, HB.out⟩
        case measure => simp [intOf]; omega
    · by_cases heq : k = s.size
      · subst heq
        have hc2 := cut_end hC.out HL.out.symm
        have HC2 := Lib.hid hc2
        clear hc2 hC
        have hgs : (g : Int) ≤ s.size := by omega
        go_wp2_with (at_builtin; refine wpList_append_own _ rfl _ _ 37 (by rfl) w.heap.size 9 i0 (.string .empty) 1 16 Tryd.underlying37 hi hz0 hz1 hz2 rfl (by decide) _ P.length _ (by rfl) (HO.out.alloc _) ⟨wo.heap.size, 0, none⟩ 1 1 [.string (s.extract g s.size)] (by rfl) rfl (World.news_of_block (cs := #[.string (s.extract g s.size)]) (t := 9) (fr := (0, 0)) (heap_alloc_new wo _)) (by simp [Value.oneCell']) (by unfold maxLen; omega) (by omega) (by simp; omega) ?_; intro v2 w2 hown2 hg2 hn2; have HO2 := Lib.hid hown2; have HN2 := Lib.hid hn2; have HB2 := Lib.hid ((HB.out.alloc hsz _).grown hg2 (by simp; omega) (fun q hq => ownBlock_of HO.out q hq)); clear hown2 hg2 hn2)
        go_roundw
        case rel =>
          refine ⟨s.size + 1, s.size + 1, P ++ [s.extract g s.size], by omega, by go_num, by go_num, Nat.le_refl _, by simp; omega, ?_, ?_, fun e => hne.out (HN2.out.1 e).1, HB2.out⟩
          · have := HC2.out
            unfold datas at this ⊢
            rw [List.map_append, List.map_singleton, data_extract]
            exact this
          · have := HO2.out
            rw [List.map_append, List.length_append]
            exact this
        case measure => simp [intOf]
      · obtain rfl : k = s.size + 1 := by omega
        go_wp2
        go_ret
        refine ⟨_, P, rfl, ?_, HO.out, hne.out, HB.out⟩
        have := hC.out
        rw [← HL.out] at this
        exact cut_done this

end Go.Proofs.YtkpkgengdcleiaaDoor
