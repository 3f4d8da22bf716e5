/- The text of numbers, as the reference writes it. No conditions but on how many there are. -/
import Derived.Test.YtkpkgengdcleiaaDoorInt
import Derived.Test.YtkpkgengdcleiaaDoorDec
set_option maxRecDepth 100000
namespace Go.Proofs.YtkpkgengdcleiaaDoor
open Go.RowKit

def txt (zs : List Int) : ByteArray := ⟨(Lib.join (zs.map Lib.itoa) [32]).toArray⟩

theorem join_nil (sep : List UInt8) : Lib.join [] sep = [] := rfl
theorem join_snoc (sep x : List UInt8) : ∀ xs : List (List UInt8), xs ≠ [] → Lib.join (xs ++ [x]) sep = Lib.join xs sep ++ sep ++ x
  | [], h => absurd rfl h
  | [y], _ => by simp [Lib.join, List.intercalate]
  | y :: y' :: ys, _ => by
    have ih := join_snoc sep x (y' :: ys) (by simp)
    simp only [Lib.join, List.intercalate, List.cons_append, List.intersperse, List.flatten_cons] at ih ⊢
    rw [ih]
    simp [List.append_assoc]

theorem empty_app (t : ByteArray) : (⟨#[]⟩ : ByteArray) ++ t = t := by
  apply ByteArray.ext
  simp [ByteArray.data_append]
theorem txt_data (zs : List Int) : (txt zs).data.toList = Lib.join (zs.map Lib.itoa) [32] := rfl
theorem txt_nil : txt [] = ⟨#[]⟩ := rfl
theorem txt_one (z : Int) : txt [z] = ⟨(Lib.itoa z).toArray⟩ := by
  apply byteArray_ext
  rw [txt_data]; simp [Lib.join, List.intercalate]
theorem txt_snoc (zs : List Int) (z : Int) (h : zs ≠ []) : txt (zs ++ [z]) = txt zs ++ ⟨#[32]⟩ ++ ⟨(Lib.itoa z).toArray⟩ := by
  symm
  apply byteArray_ext
  rw [append_toArray, append_toArray, txt_data, List.map_append, List.map_singleton, join_snoc _ _ _ (by simpa using h)]
def InR (zs : List Int) : Prop := ∀ z ∈ zs, -9223372036854775808 ≤ z ∧ z ≤ 9223372036854775807
theorem itoa_size (z : Int) (h : -9223372036854775808 ≤ z ∧ z ≤ 9223372036854775807) : (⟨(Lib.itoa z).toArray⟩ : ByteArray).size ≤ 21 := by
  have := Lib.itoa_length_le z h.1 h.2
  simpa [ByteArray.size] using this
theorem txt_size : ∀ (n : Nat) (zs : List Int), zs.length = n → InR zs → (txt zs).size ≤ 22 * n
  | 0, zs, h, _ => by
    obtain rfl : zs = [] := by simpa using h
    rw [txt_nil]; decide
  | n + 1, zs, h, hr => by
    have hne : zs ≠ [] := by
      intro e
      rw [e] at h
      simp at h
    obtain ⟨ys, z, rfl⟩ : ∃ ys z, zs = ys ++ [z] := ⟨zs.dropLast, zs.getLast hne, (List.dropLast_concat_getLast hne).symm⟩
    have hl : ys.length = n := by simpa using h
    have hz := itoa_size z (hr z (by simp))
    have ih := txt_size n ys hl (fun x hx => hr x (by simp [hx]))
    by_cases he : ys = []
    · subst he; rw [List.nil_append, txt_one]; omega
    · rw [txt_snoc _ _ he, ByteArray.size_append, ByteArray.size_append]
      simp only [show (⟨#[32]⟩ : ByteArray).size = 1 from rfl]
      omega

theorem take_snoc' (zs : List Int) (k : Nat) (h : k < zs.length) : zs.take (k + 1) = zs.take k ++ [zs.getD k 0] := by
  rw [List.take_succ_eq_append_getElem h]
  simp [List.getD_eq_getElem?_getD, List.getElem?_eq_getElem h]

def TxtPost (zs : List Int) (w : World) (e : Ending) (w' : World) : Prop := e = .returned (.string (txt zs)) ∧ Below w.heap.size w w'

set_option maxHeartbeats 1000000 in
theorem specIntsText_any (w : World) (v : Value) (zs : List Int) (h : IntsAt w v zs) (hm : zs.length ≤ 1048576) (hr : InR zs) :
    Calls Tryd.prog 6 #[v] w (TxtPost zs w) := by
  obtain ⟨a, cap, rfl, hc⟩ := h
  obtain ⟨n, hl⟩ : ∃ n, n = zs.length := ⟨_, rfl⟩
  rw [← hl]
  have Hc := Lib.hid hc
  have Hl := Lib.hid hl
  have Hr := Lib.hid hr
  have hn : n ≤ 1048576 := by omega
  clear hc hl hr hm
  go_enter Tryd.func6, Tryd.ntmps6
  go_wp2_with (fail)
  go_loopw [3, 4] (fun o i wr => ∃ k s, k ≤ n ∧ i = .int .i64 k ∧ o = .string s ∧ Hid (s = txt (zs.take k)) ∧ Below w.heap.size w wr) (fun _ i _ => n - (intOf i).toNat)
  case atStart => exact ⟨0, _, Nat.zero_le _, rfl, rfl, rfl, Below.refl _ _⟩
  case round =>
    obtain ⟨k, s, hk, rfl, rfl, hs, hB⟩ := hrel
    obtain ⟨wo, rfl⟩ : ∃ wo : World, wo = wr := ⟨_, rfl⟩
    by_cases hlt : k < n
    · have hkl : k < zs.length := by rw [← Hl.out]; exact hlt
      obtain ⟨b, off, rfl, hcell⟩ := Hc.out k hkl
      have hzr := Hr.out (zs.getD k 0) (by rw [List.getD_eq_getElem?_getD, List.getElem?_eq_getElem hkl]; exact List.getElem_mem _)
      rw [← hB.cell (World.block_lt_of_cell? _ _ hcell)] at hcell
      have hsz := txt_size k (zs.take k) (by simp; omega) (fun z hz => Hr.out z (List.mem_of_mem_take hz))
      rw [← hs.out] at hsz
      have hsn := take_snoc' zs k hkl
      have hisz := itoa_size _ hzr
      have HSN := Lib.hid hsn
      obtain ⟨z, hz⟩ : ∃ z, z = zs.getD k 0 := ⟨_, rfl⟩
      rw [← hz] at hcell hzr hisz
      have HZ := Lib.hid hz
      have HB := Lib.hid hB
      clear hB hz hsn
      obtain ⟨t, ht⟩ : ∃ t : ByteArray, t = ⟨(Lib.itoa z).toArray⟩ := ⟨_, rfl⟩
      rw [← ht] at hisz
      have HT := Lib.hid ht
      clear ht
      have h32 : (⟨#[32]⟩ : ByteArray).size = 1 := rfl
      by_cases hk0 : 0 < k
      · go_wp2_with (fail)
        refine (l29Int_any _ z hzr.1 hzr.2).mono ?_
        rintro e w1 ⟨rfl, hb⟩
        rw [← HT.out]
        have HB1 := Lib.hid (HB.out.trans (hb.mono HB.out.size))
        clear hb
        go_wp2_with (fail)
        go_roundw
        case rel =>
          refine ⟨k + 1, _, by omega, by go_num, rfl, ?_, HB1.out⟩
          show _ = _
          rw [HSN.out, txt_snoc _ _ (by intro e; have := congrArg List.length e; rw [List.length_take] at this; simp only [List.length_nil] at this; omega), ← hs.out, ← HZ.out, ← HT.out]
        case measure => simp [intOf]; omega
      · obtain rfl : k = 0 := by omega
        rw [Nat.add_zero] at hcell
        go_wp2_with (fail)
        refine (l29Int_any _ z hzr.1 hzr.2).mono ?_
        rintro e w1 ⟨rfl, hb⟩
        rw [← HT.out]
        have HB1 := Lib.hid (HB.out.trans (hb.mono HB.out.size))
        clear hb
        go_wp2_with (fail)
        go_roundw
        case rel =>
          refine ⟨1, _, by omega, rfl, rfl, ?_, HB1.out⟩
          show _ = _
          have h0 := HSN.out
          simp only [List.take_zero, List.nil_append, Nat.zero_add] at h0
          rw [h0, txt_one, ← HZ.out, ← HT.out, hs.out]
          rw [List.take_zero, txt_nil]
          exact empty_app t
        case measure => simp [intOf]; omega
    · obtain rfl : k = n := by omega
      have HB := Lib.hid hB
      clear hB
      go_wp2_with (fail)
      go_ret
      refine ⟨?_, HB.out⟩
      have := hs.out
      rw [List.take_of_length_le (by rw [Hl.out]; omega)] at this
      rw [← this]; rfl

end Go.Proofs.YtkpkgengdcleiaaDoor
