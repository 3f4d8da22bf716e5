/- The text of numbers, as the program writes it. Premise of the walks: the table of powers of ten reads as its initialiser lays it. -/
import Derived.Test.YtkpkgengdcleiaaDoorIt
import Derived.Test.YtkpkgengdcleiaaDoorShelf
import Derived.Test.YtkpkgengdcleiaaDoorOwn
set_option maxRecDepth 100000
namespace Go.Proofs.YtkpkgengdcleiaaDoor
open Go.RowKit

theorem below_grow' (w : World) (k : Nat) (os : Array Obj) : Below w.heap.size w (Sort.grow (w.drewN k) os) :=
  ⟨rfl, rfl, rfl, by simp [Sort.grow, World.drewN], fun i hi => by simp only [Sort.grow, World.drewN]; rw [Array.getElem?_append_left hi]⟩

/-- the table stands while old memory stands -/
theorem tab_below {P : Program} {w w' : World} {n : String} {k : IntKind} {zs : List Int} (h : Lib.TabIs P w n k zs) (hb : Below w.heap.size w w') : Lib.TabIs P w' n k zs := by
  unfold Lib.TabIs World.var? at *
  cases hg : P.globalNamed n with
  | none => simp [hg] at h
  | some g =>
    simp only [hg, Option.bind_some] at h ⊢
    by_cases hl : g < w.heap.size
    · rw [hb.block g hl]; exact h
    · simp [Array.getElem?_eq_none (Nat.le_of_not_lt hl)] at h

def Tab (w : World) : Prop := Lib.TabIs Tryd.prog w "internal/strconv.uint64pow10" .u64 Lib.pow10Tab

def strs (zs : List Int) : List Value := zs.map fun z => .string ⟨(Lib.itoa z).toArray⟩

theorem itoa_call (z : Int) (h : -9223372036854775808 ≤ z ∧ z ≤ 9223372036854775807) (w : World) (ht : Tab w) : Calls Tryd.prog 20 #[.int .i64 z] w (ItoaPost z w) :=
  (Tryd.strconv_Itoa z h.1 h.2 w ht).mono fun _ _ ⟨he, k, os, hw⟩ => ⟨he, hw ▸ below_grow' w k os⟩

def MapPost (zs : List Int) (w : World) (e : Ending) (w' : World) : Prop :=
  ∃ v, e = .returned v ∧ w'.ownsRow w.heap.size 9 1 v zs.length (strs zs) ∧ Below w.heap.size w w'

set_option maxHeartbeats 1000000 in
theorem mappedItoa_any (w : World) (v : Value) (zs : List Int) (h : IntsAt w v zs) (hm : zs.length ≤ 1048576) (hr : InR zs) (ht : Tab w) :
    Calls Tryd.prog 19 #[v, .func (Fn.func 20) #[] #[]] w (MapPost zs w) := by
  obtain ⟨i0, hi, hz0, hz1, hz2⟩ := info_parts info_str
  obtain ⟨a, cap, rfl, hc⟩ := h
  obtain ⟨n, hl⟩ : ∃ n, n = zs.length := ⟨_, rfl⟩
  rw [← hl]
  have Hc := Lib.hid hc
  have Hl := Lib.hid hl
  have Hr := Lib.hid hr
  have HT := Lib.hid ht
  have hn : n ≤ 1048576 := by omega
  clear hc hl hr hm ht
  go_enter Tryd.func19, Tryd.ntmps19
  go_wp2_with (fail)
  go_loopw [5, 10] (fun o i wr => ∃ k : Nat, k ≤ n ∧ i = .int .i64 k ∧ wr.ownsRow w.heap.size 9 1 o k (strs (zs.take k)) ∧ Below w.heap.size w wr) (fun _ i _ => n - (intOf i).toNat)
  case atStart => exact ⟨0, Nat.zero_le _, rfl, ⟨rfl, .inl ⟨rfl, rfl⟩⟩, Below.refl _ _⟩
  case round =>
    obtain ⟨k, hk, rfl, hown, hB⟩ := hrel
    obtain ⟨wo, rfl⟩ : ∃ wo : World, wo = wr := ⟨_, rfl⟩
    by_cases hlt : k < n
    · have hkl : k < zs.length := by rw [← Hl.out]; exact hlt
      obtain ⟨b, off, rfl, hcell⟩ := Hc.out k hkl
      have hzr := Hr.out (zs.getD k 0) (by rw [List.getD_eq_getElem?_getD, List.getElem?_eq_getElem hkl]; exact List.getElem_mem _)
      rw [← hB.cell (World.block_lt_of_cell? _ _ hcell)] at hcell
      have HSN := Lib.hid (take_snoc' zs k hkl)
      obtain ⟨z, hz⟩ : ∃ z, z = zs.getD k 0 := ⟨_, rfl⟩
      rw [← hz] at hcell hzr
      have HZ := Lib.hid hz
      have HB := Lib.hid hB
      have HO := Lib.hid hown
      clear hB hz hown
      go_wp2_with (fail)
      refine (itoa_call z hzr _ (tab_below HT.out HB.out)).mono ?_
      rintro e w1 ⟨rfl, hb⟩
      have HB1 := Lib.hid (HB.out.trans (hb.mono HB.out.size))
      have HO1 := Lib.hid (ownsRow_only HO.out (Only.of_below hb []) (by simp))
      obtain ⟨t, ht⟩ : ∃ t : ByteArray, t = ⟨(Lib.itoa z).toArray⟩ := ⟨_, rfl⟩
      rw [← ht]
      have HTT := Lib.hid ht
      clear hb HB HO ht
      have hsz := HB1.out.size
      go_wp2_with (at_builtin; go_loud (refine wpList_append_own _ rfl _ _ 37 (by rfl) w.heap.size 9 i0 (.string .empty) 1 16 Tryd.underlying37 hi hz0 hz1 hz2 rfl (by decide) _ k _ (by rfl) (HO1.out.alloc _) ⟨w1.heap.size, 0, none⟩ 1 1 [.string t] (by rfl) rfl (World.news_of_block (cs := #[.string t]) (t := 9) (fr := (0, 0)) (heap_alloc_new w1 _)) (by simp [Value.oneCell']) (by unfold maxLen; omega) (by omega) (by simp; omega) ?_; intro v2 w2 hown2 hg2 _; have HO2 := Lib.hid hown2; have HB2 := Lib.hid ((HB1.out.alloc hsz _).grown hg2 (by simp; omega) (fun q hq => ownBlock_of HO1.out q hq)); clear hown2 hg2))
      go_roundw
      case rel =>
        refine ⟨k + 1, by omega, by go_num, ?_, HB2.out⟩
        rw [HSN.out]
        unfold strs
        rw [List.map_append, List.map_singleton, ← HZ.out, ← HTT.out]
        exact HO2.out
      case measure => simp [intOf]; omega
    · obtain rfl : k = n := by omega
      have HB := Lib.hid hB
      have HO := Lib.hid hown
      clear hB hown
      go_wp2_with (fail)
      go_ret
      refine ⟨_, rfl, ?_, HB.out⟩
      have := HO.out
      rw [List.take_of_length_le (by rw [Hl.out]; omega)] at this
      rw [← Hl.out]
      exact this

theorem joined (zs : List Int) : (⟨(Lib.join ((zs.map fun z => (⟨(Lib.itoa z).toArray⟩ : ByteArray)).map (·.data.toList)) (⟨#[32]⟩ : ByteArray).data.toList).toArray⟩ : ByteArray) = txt zs := by
  unfold txt
  rw [List.map_map]
  rfl

set_option maxHeartbeats 1000000 in
theorem implIntsText_any (w : World) (v : Value) (zs : List Int) (h : IntsAt w v zs) (hm : zs.length ≤ 1048576) (hr : InR zs) (ht : Tab w) :
    Calls Tryd.prog 8 #[v] w (TxtPost zs w) := by
  have HM := Lib.hid (mappedItoa_any w v zs h hm hr ht)
  have hsz := txt_size _ zs rfl hr
  have HSZ := Lib.hid hsz
  obtain ⟨a, cap, rfl, hc⟩ := h
  clear hc hr ht hsz
  go_enter Tryd.func8, Tryd.ntmps8
  go_wp2_with (fail)
  refine HM.out.mono ?_
  rintro e w1 ⟨v1, rfl, hown, hb⟩
  have HB := Lib.hid hb
  have HO := Lib.hid hown
  clear hb hown HM
  rcases HO.out.2 with ⟨rfl, h0⟩ | ⟨g, cap1, cur, rfl, hg, hh, hnc, hcm, hcs, htk⟩
  · have hz : zs = [] := by simpa using h0
    subst hz
    clear h0
    go_wp2_with (fail)
    refine (Tryd.strings_Join_none _ _ _ _).mono ?_
    rintro e w2 ⟨rfl, rfl⟩
    go_wp2_with (fail)
    go_ret
    exact ⟨rfl, HB.out⟩
  · have hgl : g < w1.heap.size := by
      rcases Nat.lt_or_ge g w1.heap.size with hl | hl
      · exact hl
      · simp [Array.getElem?_eq_none hl] at hh
    have HC := Lib.hid (show ∀ (j : Nat) x, (zs.map fun z => (⟨(Lib.itoa z).toArray⟩ : ByteArray))[j]? = some x → w1.cell? ⟨g, 0 + j, none⟩ = some (.string x) by
      intro j x hx
      have hj : j < zs.length := by
        rcases Nat.lt_or_ge j zs.length with hl | hl
        · exact hl
        · rw [List.getElem?_eq_none (by simpa using hl)] at hx; cases hx
      rw [Nat.zero_add, HO.out.cellAt j (by omega)]
      simp only [strs, List.getElem?_map] at hx ⊢
      rw [List.getElem?_eq_getElem hj] at hx ⊢
      simp at hx ⊢
      exact hx)
    clear hh htk hcs
    have HJ := Lib.hid (Tryd.strings_Join g 0 cap1 (zs.map fun z => (⟨(Lib.itoa z).toArray⟩ : ByteArray)) ⟨#[32]⟩ w1 HC.out hgl (by simp; omega) (by simpa using hnc) (by
      have e := joined zs
      have : (Lib.join ((zs.map fun z => (⟨(Lib.itoa z).toArray⟩ : ByteArray)).map (·.data.toList)) (⟨#[32]⟩ : ByteArray).data.toList).length = (txt zs).size := by rw [← e]; simp [ByteArray.size]
      rw [this]
      have := HSZ.out
      omega))
    rw [joined, List.length_map] at HJ
    generalize zs.length = n at *
    go_wp2_with (fail)
    refine HJ.out.mono ?_
    rintro e w2 ⟨rfl, hb2⟩
    have HB2 := Lib.hid (HB.out.trans (hb2.mono HB.out.size))
    clear hb2
    go_wp2_with (fail)
    go_ret
    exact ⟨rfl, HB2.out⟩

end Go.Proofs.YtkpkgengdcleiaaDoor
