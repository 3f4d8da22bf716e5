/- The program's statements: impl.argCount, stmtOk, blockOk; a search by a predicate. -/
import Derived.Test.YtpnliencahnmoaaGreatDoorQ4
import Derived.Test.YtpnliencahnmoaaGreatDoorQ5
set_option linter.unusedVariables false
set_option linter.unusedSimpArgs false
set_option linter.unusedVariables false
set_option linter.unusedSimpArgs false
set_option maxRecDepth 100000
namespace Go.Proofs.YtpnliencahnmoaaGreatDoor
open Go.RowKit
/-- an index that may be none -/
def idxI : Option Nat → Int
  | some k => k
  | none => -1
theorem find_hit {α : Type} {F : α → Bool} {l : List α} {k : Nat} {x : α} (h : l[k]? = some x) (hx : F x = true) (hn : (l.take k).any F = false) : l.findIdx? F = some k := by
  have hl := idx_lt h
  rw [List.findIdx?_eq_some_iff_getElem]
  rw [List.getElem?_eq_getElem hl] at h
  injection h with h
  refine ⟨hl, by rw [h]; exact hx, fun j hj => ?_⟩
  rw [List.any_eq_false] at hn
  exact hn _ (List.mem_take_iff_getElem.2 ⟨j, by omega, rfl⟩)
theorem find_none {α : Type} {F : α → Bool} {l : List α} (hn : l.any F = false) : l.findIdx? F = none := by
  rw [List.findIdx?_eq_none_iff]
  rw [List.any_eq_false] at hn
  intro x hx
  simpa using hn x hx
theorem any_take {α : Type} (f : α → Bool) (l : List α) (k : Nat) (x : α) (h : l[k]? = some x) : (l.take (k + 1)).any f = ((l.take k).any f || f x) := by
  rw [List.take_add_one, h]; simp
theorem idx_any {α : Type} {F : α → Bool} {l : List α} : decide (0 ≤ idxI (l.findIdx? F)) = l.any F := by
  cases h : l.findIdx? F with
  | some k =>
    rw [List.findIdx?_eq_some_iff_getElem] at h
    obtain ⟨h1, h2, _⟩ := h
    have : l.any F = true := List.any_eq_true.2 ⟨_, List.getElem_mem h1, h2⟩
    rw [this]
    simp [idxI]
  | none =>
    have : l.any F = false := by
      rw [List.any_eq_false]
      rw [List.findIdx?_eq_none_iff] at h
      intro x hx
      simpa using h x hx
    rw [this]
    rfl
/-- how IndexFunc answers -/
def IdxP (n : Int) (w : World) (e : Ending) (w' : World) : Prop := e = .returned (.int .i64 n) ∧ Below w.heap.size w w'
set_option maxHeartbeats 2000000 in
theorem strs_idx (w : World) (v : Value) (xs : List ByteArray) (F : ByteArray → Bool) (h : StrsAt w v xs) (HC : ∀ (k : Nat) (s : ByteArray) (w' : World), xs[k]? = some s → Below w.heap.size w w' → Calls Tryz.prog 135 #[.string s] w' (BoolP (F s) w')) :
    Calls Tryz.prog 170 #[v, .func (.func 135) #[] #[]] w (IdxP (idxI (xs.findIdx? F)) w) := by
  obtain ⟨a, cap2, hform, hm0, hc⟩ := h
  subst hform
  obtain ⟨m, hm⟩ : ∃ m, m = xs.length := ⟨_, rfl⟩
  rw [← hm]
  have h := hc
  clear hc
  have hmb : m ≤ big := by rw [hm]; rw [← hm]; exact Nat.le_trans (Nat.le_of_eq hm) hm0
  unfold big at hmb
  obtain ⟨r, hr⟩ : ∃ r, r = idxI (xs.findIdx? F) := ⟨_, rfl⟩
  rw [← hr]
  have HM := Lib.hid hm; have HS := Lib.hid h; have HH := Lib.hid HC; have HR := Lib.hid hr
  clear hm h HC hr
  go_enter Tryz.func170, Tryz.ntmps170
  go_wp2_with (fail)
  go_loopw [8] (fun i wr => ∃ k : Nat, k ≤ m ∧ i = .int .i64 k ∧ Hid ((xs.take k).any F = false) ∧ Below w.heap.size w wr) (fun i _ => m - (intOf i).toNat)
  case atStart => exact ⟨0, Nat.zero_le _, rfl, Lib.hid rfl, Below.refl _ _⟩
  case round =>
    obtain ⟨k, hk, rfl, hA, hB⟩ := hrel
    obtain ⟨wo, rfl⟩ : ∃ wo : World, wo = wr := ⟨_, rfl⟩
    have HB := Lib.hid hB
    by_cases hlt : k < m
    · have hkl : k < xs.length := by rw [← HM.out]; exact hlt
      obtain ⟨x, hx⟩ : ∃ x, x = xs[k] := ⟨_, rfl⟩
      have hxk : xs[k]? = some x := by rw [hx]; exact List.getElem?_eq_getElem hkl
      obtain ⟨hz, b, off, rfl, c0⟩ := HS.out k x hxk
      have e0 := cellB hB c0
      obtain ⟨q, hq⟩ : ∃ q, F x = q := ⟨_, rfl⟩
      have HCx := Lib.hid (HH.out k x wo hxk hB)
      have HT := Lib.hid (any_take F xs k x hxk)
      have HF := Lib.hid (fun h1 h2 => @find_hit _ F xs k x hxk h1 h2)
      rw [hq] at HT HF HCx
      have k0 : (0 : Int) ≤ k := by omega
      have k1 : (k : Int) < m := by omega
      clear hB hx hxk hq hkl c0 hz
      go_wp2_with (fail)
      go_at_call 135
      refine HCx.out.mono ?_
      rintro e w2 ⟨rfl, hb⟩
      have HB2 := Lib.hid (HB.out.trans (hb.mono HB.out.size))
      clear hb HCx
      cases q
      · go_wp2_with (fail)
        go_roundw
        case rel => exact ⟨k + 1, by omega, by go_num, Lib.hid (by rw [HT.out, hA.out]; rfl), HB2.out⟩
        case measure => simp [intOf]; omega
      · have hrk : r = (k : Int) := by rw [HR.out, HF.out rfl hA.out]; rfl
        subst hrk
        go_wp2_with (fail)
        go_ret
        exact ⟨rfl, HB2.out⟩
    · obtain rfl : k = m := by omega
      have hrk : r = -1 := by
        have := hA.out
        rw [HM.out, List.take_length] at this
        rw [HR.out, find_none this]; rfl
      subst hrk
      clear hB hA HR
      go_wp2_with (fail)
      go_ret
      exact ⟨rfl, HB.out⟩
set_option maxHeartbeats 1000000 in
theorem strs_has (w : World) (v : Value) (xs : List ByteArray) (F : ByteArray → Bool) (h : StrsAt w v xs) (HC : ∀ (k : Nat) (s : ByteArray) (w' : World), xs[k]? = some s → Below w.heap.size w w' → Calls Tryz.prog 135 #[.string s] w' (BoolP (F s) w')) :
    Calls Tryz.prog 134 #[v, .func (.func 135) #[] #[]] w (BoolP (xs.any F) w) := by
  have HI := Lib.hid (strs_idx w v xs F  h HC)
  rw [← idx_any (F := F) (l := xs)]
  obtain ⟨r, hr⟩ : ∃ r, r = idxI (xs.findIdx? F) := ⟨_, rfl⟩
  rw [← hr] at HI ⊢
  obtain ⟨a, cap2, hform⟩ : ∃ a c, v = .slice a xs.length c := by obtain ⟨a, c, hf, _⟩ := h; exact ⟨a, c, hf⟩
  subst hform
  clear h HC hr
  generalize xs.length = m at HI ⊢
  go_enter Tryz.func134, Tryz.ntmps134
  go_wp2_with (fail)
  go_at_call 170
  refine HI.out.mono ?_
  rintro e w2 ⟨rfl, hb⟩
  go_wp2_with (fail)
  go_ret
  exact ⟨rfl, hb⟩
set_option maxHeartbeats 2000000 in
theorem sts_idx (w : World) (v : Value) (xs : List St) (F : St → Bool) (N : Nat) (h : StsAt w v xs) (HC : ∀ (k : Nat) (x : St) (av bv ev : Value) (w' : World), xs[k]? = some x → Below w.heap.size w w' → ExsAt w' av x.args → StsAt w' bv x.body → StsAt w' ev x.els → Calls Tryz.prog 172 #[.agg #[.int .i64 x.op, .string x.name, av, bv, ev], .pointer (some ⟨N, 0, none⟩)] w' (BoolP (F x) w')) :
    Calls Tryz.prog 207 #[v, .func (.func 172) #[] #[.pointer (some ⟨N, 0, none⟩)]] w (IdxP (idxI (xs.findIdx? F)) w) := by
  obtain ⟨a, cap2, hform⟩ := h.form
  subst hform
  obtain ⟨m, hm⟩ : ∃ m, m = xs.length := ⟨_, rfl⟩
  rw [← hm] at h ⊢
  have hmb : m ≤ big := by rw [hm]; exact h.lens.1
  unfold big at hmb
  obtain ⟨r, hr⟩ : ∃ r, r = idxI (xs.findIdx? F) := ⟨_, rfl⟩
  rw [← hr]
  have HM := Lib.hid hm; have HS := Lib.hid h; have HH := Lib.hid HC; have HR := Lib.hid hr
  clear hm h HC hr
  go_enter Tryz.func207, Tryz.ntmps207
  go_wp2_with (fail)
  go_loopw [8] (fun i wr => ∃ k : Nat, k ≤ m ∧ i = .int .i64 k ∧ Hid ((xs.take k).any F = false) ∧ Below w.heap.size w wr) (fun i _ => m - (intOf i).toNat)
  case atStart => exact ⟨0, Nat.zero_le _, rfl, Lib.hid rfl, Below.refl _ _⟩
  case round =>
    obtain ⟨k, hk, rfl, hA, hB⟩ := hrel
    obtain ⟨wo, rfl⟩ : ∃ wo : World, wo = wr := ⟨_, rfl⟩
    have HB := Lib.hid hB
    by_cases hlt : k < m
    · have hkl : k < xs.length := by rw [← HM.out]; exact hlt
      obtain ⟨x, hx⟩ : ∃ x, x = xs[k] := ⟨_, rfl⟩
      have hxk : xs[k]? = some x := by rw [hx]; exact List.getElem?_eq_getElem hkl
      obtain ⟨b, off, av, bv, ev, rfl, hbl, e0, e1, e2, e3, e4, ka, kb, ke⟩ := HS.out.get hxk
      have e0 := cellB hB e0; have e1 := cellB hB e1; have e2 := cellB hB e2; have e3 := cellB hB e3; have e4 := cellB hB e4
      obtain ⟨q, hq⟩ : ∃ q, F x = q := ⟨_, rfl⟩
      have HCx := Lib.hid (HH.out k x av bv ev wo hxk hB (ka.dn hB) (kb.dn hB) (ke.dn hB))
      have HT := Lib.hid (any_take F xs k x hxk)
      have HF := Lib.hid (fun h1 h2 => @find_hit _ F xs k x hxk h1 h2)
      rw [hq] at HT HF HCx
      have k0 : (0 : Int) ≤ k := by omega
      have k1 : (k : Int) < m := by omega
      clear hB hx hxk hq hkl ka kb ke
      go_wp2_with (fail)
      go_at_call 172
      refine HCx.out.mono ?_
      rintro e w2 ⟨rfl, hb⟩
      have HB2 := Lib.hid (HB.out.trans (hb.mono HB.out.size))
      clear hb HCx
      cases q
      · go_wp2_with (fail)
        go_roundw
        case rel => exact ⟨k + 1, by omega, by go_num, Lib.hid (by rw [HT.out, hA.out]; rfl), HB2.out⟩
        case measure => simp [intOf]; omega
      · have hrk : r = (k : Int) := by rw [HR.out, HF.out rfl hA.out]; rfl
        subst hrk
        go_wp2_with (fail)
        go_ret
        exact ⟨rfl, HB2.out⟩
    · obtain rfl : k = m := by omega
      have hrk : r = -1 := by
        have := hA.out
        rw [HM.out, List.take_length] at this
        rw [HR.out, find_none this]; rfl
      subst hrk
      clear hB hA HR
      go_wp2_with (fail)
      go_ret
      exact ⟨rfl, HB.out⟩
set_option maxHeartbeats 1000000 in
theorem sts_has (w : World) (v : Value) (xs : List St) (F : St → Bool) (N : Nat) (h : StsAt w v xs) (HC : ∀ (k : Nat) (x : St) (av bv ev : Value) (w' : World), xs[k]? = some x → Below w.heap.size w w' → ExsAt w' av x.args → StsAt w' bv x.body → StsAt w' ev x.els → Calls Tryz.prog 172 #[.agg #[.int .i64 x.op, .string x.name, av, bv, ev], .pointer (some ⟨N, 0, none⟩)] w' (BoolP (F x) w')) :
    Calls Tryz.prog 171 #[v, .func (.func 172) #[] #[.pointer (some ⟨N, 0, none⟩)]] w (BoolP (xs.any F) w) := by
  have HI := Lib.hid (sts_idx w v xs F N h HC)
  rw [← idx_any (F := F) (l := xs)]
  obtain ⟨r, hr⟩ : ∃ r, r = idxI (xs.findIdx? F) := ⟨_, rfl⟩
  rw [← hr] at HI ⊢
  obtain ⟨a, cap2, hform⟩ : ∃ a c, v = .slice a xs.length c := h.form
  subst hform
  clear h HC hr
  generalize xs.length = m at HI ⊢
  go_enter Tryz.func171, Tryz.ntmps171
  go_wp2_with (fail)
  go_at_call 207
  refine HI.out.mono ?_
  rintro e w2 ⟨rfl, hb⟩
  go_wp2_with (fail)
  go_ret
  exact ⟨rfl, hb⟩
set_option maxHeartbeats 2000000 in
theorem fns_idx (w : World) (v : Value) (xs : List Fx) (F : Fx → Bool) (N : Nat) (h : FxsAt w v xs) (HC : ∀ (k : Nat) (x : Fx) (pv bv : Value) (w' : World), xs[k]? = some x → Below w.heap.size w w' → StrsAt w' pv x.params → StsAt w' bv x.body → Calls Tryz.prog 139 #[.agg #[.string x.name, pv, bv], .pointer (some ⟨N, 0, none⟩)] w' (BoolP (F x) w')) :
    Calls Tryz.prog 138 #[v, .func (.func 139) #[] #[.pointer (some ⟨N, 0, none⟩)]] w (IdxP (idxI (xs.findIdx? F)) w) := by
  obtain ⟨a, cap2, hform, hm0⟩ := h.form
  subst hform
  obtain ⟨m, hm⟩ : ∃ m, m = xs.length := ⟨_, rfl⟩
  rw [← hm] at h hm0 ⊢
  have hmb : m ≤ big := by rw [hm]; exact Nat.le_trans (Nat.le_of_eq hm.symm) hm0
  unfold big at hmb
  obtain ⟨r, hr⟩ : ∃ r, r = idxI (xs.findIdx? F) := ⟨_, rfl⟩
  rw [← hr]
  have HM := Lib.hid hm; have HS := Lib.hid h; have HH := Lib.hid HC; have HR := Lib.hid hr
  clear hm h HC hr
  go_enter Tryz.func138, Tryz.ntmps138
  go_wp2_with (fail)
  go_loopw [8] (fun i wr => ∃ k : Nat, k ≤ m ∧ i = .int .i64 k ∧ Hid ((xs.take k).any F = false) ∧ Below w.heap.size w wr) (fun i _ => m - (intOf i).toNat)
  case atStart => exact ⟨0, Nat.zero_le _, rfl, Lib.hid rfl, Below.refl _ _⟩
  case round =>
    obtain ⟨k, hk, rfl, hA, hB⟩ := hrel
    obtain ⟨wo, rfl⟩ : ∃ wo : World, wo = wr := ⟨_, rfl⟩
    have HB := Lib.hid hB
    by_cases hlt : k < m
    · have hkl : k < xs.length := by rw [← HM.out]; exact hlt
      obtain ⟨x, hx⟩ : ∃ x, x = xs[k] := ⟨_, rfl⟩
      have hxk : xs[k]? = some x := by rw [hx]; exact List.getElem?_eq_getElem hkl
      obtain ⟨hz, b, off, pv, bv, rfl, hbl, e0, e1, e2, hpv, hbv⟩ := HS.out.get hxk
      have e0 := cellB hB e0; have e1 := cellB hB e1; have e2 := cellB hB e2
      obtain ⟨q, hq⟩ : ∃ q, F x = q := ⟨_, rfl⟩
      have HCx := Lib.hid (HH.out k x pv bv wo hxk hB (hpv.below hB) (hbv.dn hB))
      have HT := Lib.hid (any_take F xs k x hxk)
      have HF := Lib.hid (fun h1 h2 => @find_hit _ F xs k x hxk h1 h2)
      rw [hq] at HT HF HCx
      have k0 : (0 : Int) ≤ k := by omega
      have k1 : (k : Int) < m := by omega
      clear hB hx hxk hq hkl hpv hbv
      go_wp2_with (fail)
      go_at_call 139
      refine HCx.out.mono ?_
      rintro e w2 ⟨rfl, hb⟩
      have HB2 := Lib.hid (HB.out.trans (hb.mono HB.out.size))
      clear hb HCx
      cases q
      · go_wp2_with (fail)
        go_roundw
        case rel => exact ⟨k + 1, by omega, by go_num, Lib.hid (by rw [HT.out, hA.out]; rfl), HB2.out⟩
        case measure => simp [intOf]; omega
      · have hrk : r = (k : Int) := by rw [HR.out, HF.out rfl hA.out]; rfl
        subst hrk
        go_wp2_with (fail)
        go_ret
        exact ⟨rfl, HB2.out⟩
    · obtain rfl : k = m := by omega
      have hrk : r = -1 := by
        have := hA.out
        rw [HM.out, List.take_length] at this
        rw [HR.out, find_none this]; rfl
      subst hrk
      clear hB hA HR
      go_wp2_with (fail)
      go_ret
      exact ⟨rfl, HB.out⟩
/-- what argCount says -/
def argI (op : Int) : Int × Bool × Bool × Bool :=
  if op = 1 ∨ op = 2 then (1, true, false, false) else if op = 3 ∨ op = 7 ∨ op = 8 then (1, false, false, false) else if op = 4 then (2, false, false, false)
  else if op = 5 then (1, false, true, true) else if op = 6 then (1, false, true, false) else (-1, false, false, false)
theorem argI_cases (op : Int) : (op = 1 ∧ argI op = (1, true, false, false)) ∨ (op = 2 ∧ argI op = (1, true, false, false)) ∨ (op = 3 ∧ argI op = (1, false, false, false)) ∨ (op = 7 ∧ argI op = (1, false, false, false)) ∨ (op = 8 ∧ argI op = (1, false, false, false)) ∨ (op = 4 ∧ argI op = (2, false, false, false)) ∨ (op = 5 ∧ argI op = (1, false, true, true)) ∨ (op = 6 ∧ argI op = (1, false, true, false)) ∨
    (op ≠ 1 ∧ op ≠ 2 ∧ op ≠ 3 ∧ op ≠ 4 ∧ op ≠ 5 ∧ op ≠ 6 ∧ op ≠ 7 ∧ op ≠ 8 ∧ argI op = (-1, false, false, false)) := by
  unfold argI
  by_cases h1 : op = 1
  · subst h1; simp
  by_cases h2 : op = 2
  · subst h2; simp
  by_cases h3 : op = 3
  · subst h3; simp
  by_cases h4 : op = 4
  · subst h4; simp
  by_cases h5 : op = 5
  · subst h5; simp
  by_cases h6 : op = 6
  · subst h6; simp
  by_cases h7 : op = 7
  · subst h7; simp
  by_cases h8 : op = 8
  · subst h8; simp
  simp [h1, h2, h3, h4, h5, h6, h7, h8]
set_option maxHeartbeats 1000000 in
theorem argCount_any (w : World) (op n : Int) (x y z : Bool) (h : argI op = (n, x, y, z)) : Calls Tryz.prog 208 #[.int .i64 op] w fun e w' => e = .returned (.tuple #[.int .i64 n, .bool x, .bool y, .bool z]) ∧ w = w' := by
  rcases argI_cases op with ⟨o, hk⟩ | ⟨o, hk⟩ | ⟨o, hk⟩ | ⟨o, hk⟩ | ⟨o, hk⟩ | ⟨o, hk⟩ | ⟨o, hk⟩ | ⟨o, hk⟩ | ⟨o1, o2, o3, o4, o5, o6, o7, o8, hk⟩
  all_goals
    rw [hk] at h
    injection h with h1 h2
    injection h2 with h2 h3
    injection h3 with h3 h4
    subst h1 h2 h3 h4
    clear hk
    first
    | subst o
    | (have o1 := neI o1; have o2 := neI o2; have o3 := neI o3; have o4 := neI o4; have o5 := neI o5; have o6 := neI o6; have o7 := neI o7; have o8 := neI o8)
    go_enter Tryz.func208, Tryz.ntmps208
    go_wp2_with (fail)
    first
    | refine bodyPost_ret (v := .tuple #[.int .i64 1, .bool true, .bool false, .bool false]) (by simp [results, Tryz.results208, go_sem]) rfl ⟨rfl, rfl⟩
    | refine bodyPost_ret (v := .tuple #[.int .i64 1, .bool false, .bool false, .bool false]) (by simp [results, Tryz.results208, go_sem]) rfl ⟨rfl, rfl⟩
    | refine bodyPost_ret (v := .tuple #[.int .i64 2, .bool false, .bool false, .bool false]) (by simp [results, Tryz.results208, go_sem]) rfl ⟨rfl, rfl⟩
    | refine bodyPost_ret (v := .tuple #[.int .i64 1, .bool false, .bool true, .bool true]) (by simp [results, Tryz.results208, go_sem]) rfl ⟨rfl, rfl⟩
    | refine bodyPost_ret (v := .tuple #[.int .i64 1, .bool false, .bool true, .bool false]) (by simp [results, Tryz.results208, go_sem]) rfl ⟨rfl, rfl⟩
    | refine bodyPost_ret (v := .tuple #[.int .i64 (-1), .bool false, .bool false, .bool false]) (by simp [results, Tryz.results208, go_sem]) rfl ⟨rfl, rfl⟩
theorem stOk_arg (isN : ByteArray → Bool) (d : Nat) (op : Int) (name : ByteArray) (args : List Ex) (body els : List St) {n : Int} {x y z : Bool} (h : argI op = (n, x, y, z)) :
    stOk isN (d + 1) (.mk op name args body els) = (decide ((args.length : Int) = n) && (if x = true then isN name else decide (name = ByteArray.empty)) && (y || decide (body.length = 0)) && (z || decide (els.length = 0)) && (!(op == 8) || argOp args == 13) && args.all (exVal isN) && body.all (stOk isN d) && els.all (stOk isN d)) := by
  rw [stOk_eq]
  generalize args.all (exVal isN) = A
  generalize body.all (stOk isN d) = B
  generalize els.all (stOk isN d) = C
  generalize decide (body.length = 0) = D
  generalize decide (els.length = 0) = E
  generalize decide (name = ByteArray.empty) = G
  generalize isN name = I
  generalize (argOp args == 13) = J
  rcases argI_cases op with ⟨o, hk⟩ | ⟨o, hk⟩ | ⟨o, hk⟩ | ⟨o, hk⟩ | ⟨o, hk⟩ | ⟨o, hk⟩ | ⟨o, hk⟩ | ⟨o, hk⟩ | ⟨o1, o2, o3, o4, o5, o6, o7, o8, hk⟩
  all_goals
    rw [hk] at h
    injection h with h1 h2
    injection h2 with h2 h3
    injection h3 with h3 h4
    subst h1 h2 h3 h4
    clear hk
  case inr.inr.inr.inr.inr.inr.inr.inr =>
    have e1 : inR 1 8 op = false := by rw [← Bool.not_eq_true, inR_iff]; omega
    have e2 : decide ((args.length : Int) = -1) = false := decide_eq_false (by omega)
    rw [e1, e2]; rfl
  all_goals
    subst o
    simp [inR]
    try (cases A <;> cases B <;> cases C <;> cases D <;> cases E <;> cases G <;> cases I <;> cases J <;> simp)
/-- all ops below are numbers that a word holds -/
inductive StW : St → Prop where
  | mk {op : Int} {name : ByteArray} {args : List Ex} {body els : List St} (ha : ∀ e ∈ args, ExW e) (hb : ∀ s ∈ body, StW s) (he : ∀ s ∈ els, StW s) : StW (.mk op name args body els)
theorem StW.args {s : St} (h : StW s) : ∀ e ∈ s.args, ExW e := by cases h; assumption
theorem StW.body {s : St} (h : StW s) : ∀ e ∈ s.body, StW e := by cases h; assumption
theorem StW.els {s : St} (h : StW s) : ∀ e ∈ s.els, StW e := by cases h; assumption
def SOkAt (d : Nat) : Prop := ∀ (x : St) (w : World) (av bv ev : Value), KS w → StW x → x.name.size ≤ big → ExsAt w av x.args → StsAt w bv x.body → StsAt w ev x.els →
  Calls Tryz.prog 173 #[.agg #[.int .i64 x.op, .string x.name, av, bv, ev], .int .i64 (5 - (d : Int))] w (BoolP (stOk isNB d x) w)
def BOkAt (d : Nat) : Prop := ∀ (ss : List St) (w : World) (v : Value), KS w → (∀ x ∈ ss, StW x) → StsAt w v ss →
  Calls Tryz.prog 136 #[v, .int .i64 (5 - (d : Int))] w (BoolP (ss.all (stOk isNB d)) w)
set_option maxHeartbeats 1000000 in
theorem blkClo_any (w : World) (d : Nat) (H : SOkAt d) (N : Nat) (hN : w.cell? ⟨N, 0, none⟩ = some (.int .i64 (5 - (d : Int)))) (x : St) (av bv ev : Value) (q : Bool) (hK : KS w) (hW : StW x) (hz : x.name.size ≤ big) (ha : ExsAt w av x.args) (hb : StsAt w bv x.body) (he : StsAt w ev x.els) (hq : q = !stOk isNB d x) :
    Calls Tryz.prog 172 #[.agg #[.int .i64 x.op, .string x.name, av, bv, ev], .pointer (some ⟨N, 0, none⟩)] w (BoolP q w) := by
  have hb1 := below1 w (.cells #[.int .i64 x.op, .string x.name, av, bv, ev] 70)
  have HC := Lib.hid (H x _ av bv ev (hK.below hb1) hW hz (ha.dn hb1) (hb.dn hb1) (he.dn hb1))
  have x0 := cellB hb1 hN
  obtain ⟨aa, ac, haf⟩ := ha.form
  obtain ⟨ba, bc, hbf⟩ := hb.form
  obtain ⟨ea, ec, hef⟩ := he.form
  obtain ⟨al, hal⟩ : ∃ l, l = x.args.length := ⟨_, rfl⟩
  obtain ⟨bl, hbl⟩ : ∃ l, l = x.body.length := ⟨_, rfl⟩
  obtain ⟨el, hel⟩ : ∃ l, l = x.els.length := ⟨_, rfl⟩
  obtain ⟨p, hp⟩ : ∃ p, p = stOk isNB d x := ⟨_, rfl⟩
  obtain ⟨ne, hne⟩ : ∃ n : Int, n = 5 - (d : Int) := ⟨_, rfl⟩
  rw [← hp] at HC hq
  rw [← hne] at x0 HC
  rw [← hal] at haf
  rw [← hbl] at hbf
  rw [← hel] at hef
  subst haf hbf hef hq
  have HB1 := Lib.hid hb1
  clear ha hb he hN hal hbl hel hp hne hb1 H hK hW hz
  go_enter Tryz.func172, Tryz.ntmps172
  go_wp2_with (fail)
  go_at_call 173
  refine HC.out.mono ?_
  rintro e w2 ⟨rfl, hb⟩
  have HB2 := Lib.hid (HB1.out.trans (hb.mono HB1.out.size))
  clear hb
  go_wp2_with (fail)
  go_ret
  exact ⟨rfl, HB2.out⟩
theorem all_not_any {α : Type} (l : List α) (f : α → Bool) : (!l.any fun x => !f x) = l.all f := by
  induction l with
  | nil => rfl
  | cons x r ih => rw [List.any_cons, List.all_cons, Bool.not_or, ih, Bool.not_not]
set_option maxHeartbeats 1000000 in
theorem blockOk_of (d : Nat) (H : SOkAt d) : BOkAt d := by
  intro ss w v hK hW hS
  have hb1 := below1 w (.cells #[.int .i64 (5 - (d : Int))] 3)
  have HC := Lib.hid (sts_has (w.alloc (.cells #[.int .i64 (5 - (d : Int))] 3)) v ss (fun x => !stOk isNB d x) w.heap.size (hS.dn hb1) (fun k x av bv ev w' hx hb ka kb ke =>
    blkClo_any w' d H w.heap.size (by rw [hb.cell (p := ⟨w.heap.size, 0, none⟩) (by simp)]; simp [go_sem]) x av bv ev _ ((hK.below hb1).below hb) (hW x (List.mem_of_getElem? hx)) (hS.lens.2 k x hx) ka kb ke rfl))
  have HA := Lib.hid (all_not_any ss (stOk isNB d))
  have hmf : ∀ (fn : Fn) (first cap : Array Value) (w : World), (Instr.makeFunc fn first cap).run Tryz.prog w = .ok (.func fn first cap) w := fun _ _ _ _ => rfl
  obtain ⟨a, c, hf⟩ := hS.form
  obtain ⟨m, hm⟩ : ∃ m, m = ss.length := ⟨_, rfl⟩
  rw [← hm] at hf
  subst hf
  obtain ⟨p, hp⟩ : ∃ p, p = ss.any fun x => !stOk isNB d x := ⟨_, rfl⟩
  rw [← hp] at HC HA
  rw [← HA.out]
  obtain ⟨ne, hne⟩ : ∃ n : Int, n = 5 - (d : Int) := ⟨_, rfl⟩
  rw [← hne] at HC hb1 ⊢
  have HB1 := Lib.hid hb1
  clear hS hm hp HA hne hb1 H hK hW
  go_enter Tryz.func136, Tryz.ntmps136
  go_wp2_with (fail)
  refine HC.out.mono ?_
  rintro e w2 ⟨rfl, hb⟩
  have HB2 := Lib.hid (HB1.out.trans (hb.mono HB1.out.size))
  clear hb
  go_wp2_with (fail)
  go_ret
  exact ⟨rfl, HB2.out⟩
set_option maxHeartbeats 4000000 in
theorem stmtOk_no (x : St) (w : World) (av bv ev : Value) (hK : KS w) (ha : ExsAt w av x.args) (hb : StsAt w bv x.body) (he : StsAt w ev x.els) :
    Calls Tryz.prog 173 #[.agg #[.int .i64 x.op, .string x.name, av, bv, ev], .int .i64 5] w (BoolP false w) := by
  obtain ⟨aa, ac, haf⟩ := ha.form
  obtain ⟨ba, bc, hbf⟩ := hb.form
  obtain ⟨ea, ec, hef⟩ := he.form
  obtain ⟨⟨n, nm, bd, ot⟩, hq⟩ : ∃ q, argI x.op = q := ⟨_, rfl⟩
  have HA := Lib.hid (fun w' => argCount_any w' x.op n nm bd ot hq)
  subst haf hbf hef
  clear ha hb he hK hq
  go_enter Tryz.func173, Tryz.ntmps173
  go_wp2_with (fail)
  go_at_call 208
  refine (HA.out _).mono ?_
  rintro e _ ⟨rfl, rfl⟩
  go_wp2_with (fail)
  go_ret
  exact ⟨rfl, below1 _ _⟩
theorem box5 {w w2 : World} {a b c d e : Value} {t : TypeId} (h : Below (w.alloc (.cells #[a, b, c, d, e] t)).heap.size (w.alloc (.cells #[a, b, c, d, e] t)) w2) :
    w2.cell? ⟨w.heap.size, 0, none⟩ = some a ∧ w2.cell? ⟨w.heap.size, 1, none⟩ = some b ∧ w2.cell? ⟨w.heap.size, 2, none⟩ = some c ∧ w2.cell? ⟨w.heap.size, 3, none⟩ = some d ∧ w2.cell? ⟨w.heap.size, 4, none⟩ = some e ∧ w.heap.size < w2.heap.size ∧ Below w.heap.size w w2 := by
  have hs : w.heap.size < (w.alloc (.cells #[a, b, c, d, e] t)).heap.size := by simp
  refine ⟨?_, ?_, ?_, ?_, ?_, Nat.lt_of_lt_of_le hs h.size, (below1 _ _).trans (h.mono (Nat.le_of_lt hs))⟩
  all_goals (refine cellB h ?_; simp [go_sem])
set_option maxHeartbeats 8000000 in
theorem stmtOk_of (d : Nat) (hd : d ≤ 3) (H : BOkAt d) : SOkAt (d + 1) := by
  intro x w av bv ev hK hW hz ha hb he
  obtain ⟨op, name, args, body, els⟩ := x
  simp only [St.op, St.name, St.args, St.body, St.els] at hz ha hb he ⊢
  obtain ⟨⟨n, nm, bd, ot⟩, hq⟩ : ∃ q, argI op = q := ⟨_, rfl⟩
  have HA := Lib.hid (fun w' => argCount_any w' op n nm bd ot hq)
  have hb1 := below1 w (.cells #[.int .i64 op, .string name, av, bv, ev] 70)
  have HB1 := Lib.hid hb1
  have HP : Hid (∀ q, q = stOk isNB (d + 1) (.mk op name args body els) → q = (decide ((args.length : Int) = n) && (if nm = true then isNB name else decide (name = ByteArray.empty)) && (bd || decide (body.length = 0)) && (ot || decide (els.length = 0)) && (!(op == 8) || argOp args == 13) && args.all (exVal isNB) && body.all (stOk isNB d) && els.all (stOk isNB d))) := Lib.hid (fun q h => by rw [h]; exact stOk_arg isNB d op name args body els hq)
  obtain ⟨r, hr⟩ : ∃ r, r = stOk isNB (d + 1) (.mk op name args body els) := ⟨_, rfl⟩
  rw [← hr]
  have HR := Lib.hid (HP.out r hr)
  have H8 : Hid (op = 8 → n = 1) := Lib.hid (by
    rintro rfl
    have : argI 8 = (1, false, false, false) := by decide
    rw [this] at hq
    injection hq with h1 h2
    exact h1.symm)
  have HK := Lib.hid hK; have HZ := Lib.hid hz; have HAA := Lib.hid ha; have HBB := Lib.hid hb; have HEE := Lib.hid he
  have HWA := Lib.hid hW.args; have HWB := Lib.hid hW.body; have HWE := Lib.hid hW.els
  simp only [St.args, St.body, St.els] at HWA HWB HWE
  have HNAME := Lib.hid (fun w' (hb : Below w.heap.size w w') q hq => isName_any w' name q (hK.1.below hb) hz hq)
  obtain ⟨aa, ac, haf⟩ := ha.form
  obtain ⟨ba, bc, hbf⟩ := hb.form
  obtain ⟨ea, ec, hef⟩ := he.form
  obtain ⟨al, hal⟩ : ∃ l, l = args.length := ⟨_, rfl⟩
  obtain ⟨bl, hbl⟩ : ∃ l, l = body.length := ⟨_, rfl⟩
  obtain ⟨el, hel⟩ : ∃ l, l = els.length := ⟨_, rfl⟩
  have hab : al ≤ big := by rw [hal]; exact ha.lens.1
  have hbb : bl ≤ big := by rw [hbl]; exact hb.lens.1
  have heb : el ≤ big := by rw [hel]; exact he.lens.1
  unfold big at hab hbb heb
  rw [← hal] at haf HR
  rw [← hbl] at hbf HR
  rw [← hel] at hef HR
  subst haf hbf hef
  have HAL := Lib.hid hal
  obtain ⟨ne, hne⟩ : ∃ n : Int, n = 5 - ((d + 1 : Nat) : Int) := ⟨_, rfl⟩
  have hn4 : ¬ (4 : Int) < ne := by omega
  have hne1 : ne ≤ 4 ∧ 1 ≤ ne := by omega
  have HNE : Hid (ne + 1 = 5 - (d : Int)) := Lib.hid (by omega)
  rw [← hne]
  have HBLK : Hid (∀ ss w' v, KS w' → (∀ x ∈ ss, StW x) → StsAt w' v ss → Calls Tryz.prog 136 #[v, .int .i64 (ne + 1)] w' (BoolP (ss.all (stOk isNB d)) w')) := Lib.hid (fun ss w' v h1 h2 h3 => by rw [HNE.out]; exact H ss w' v h1 h2 h3)
  have HF : Hid (∀ e : Bool, e = false → ∀ w', Below w.heap.size w w' → (r = e) → BoolP r w (.returned (.bool false)) w') := Lib.hid (fun e he w' hb hr => ⟨by rw [hr, he], hb⟩)
  clear hK hW hz ha hb he hq hr hal hbl hel hne hb1 H HP
  go_enter Tryz.func173, Tryz.ntmps173
  go_wp2_with (fail)
  go_at_call 208
  refine (HA.out _).mono ?_
  rintro e _ ⟨rfl, rfl⟩
  by_cases hn : (al : Int) = n
  · have HN : Hid (decide ((al : Int) = n) = true) := Lib.hid (decide_eq_true hn)
    subst hn
    obtain ⟨p4, h4⟩ : ∃ q, decide (name = ByteArray.empty) = q := ⟨_, rfl⟩
    have H4 : Hid (name.toList = [] ↔ p4 = true) := Lib.hid (empty_iff h4)
    rw [h4, HN.out] at HR
    obtain ⟨p3, h3⟩ : ∃ q, q = isNB name := ⟨_, rfl⟩
    have H3 := Lib.hid h3
    rw [← h3] at HR
    clear h4 h3
    cases nm
    · cases p4
      · have hne0 : name.toList.isEmpty = false := nonE0 (fun h => by have := H4.out.1 h; cases this)
        go_wp2_with (fail)
        go_ret
        exact ⟨by rw [HR.out]; rfl, HB1.out⟩
      · have hne0 : name.toList = [] := H4.out.2 rfl
        rw [show (if false = true then p3 else true) = true from rfl, Bool.true_and] at HR
        have HBZ := HB1
        have HBX3 : Hid ((w.alloc (.cells #[.int .i64 op, .string name, .slice aa al ac, .slice ba bl bc, .slice ea el ec] 70)).cell? ⟨w.heap.size, 3, none⟩ = some (.slice ba bl bc) ∧ (w.alloc (.cells #[.int .i64 op, .string name, .slice aa al ac, .slice ba bl bc, .slice ea el ec] 70)).cell? ⟨w.heap.size, 4, none⟩ = some (.slice ea el ec) ∧ w.heap.size < (w.alloc (.cells #[.int .i64 op, .string name, .slice aa al ac, .slice ba bl bc, .slice ea el ec] 70)).heap.size) := Lib.hid ⟨by simp [go_sem], by simp [go_sem], by simp⟩
        cases bd
        · by_cases hb0 : bl = 0
          · subst hb0
            cases ot
            · by_cases he0 : el = 0
              · subst he0
                by_cases o8 : op = 8
                · have hal1 := H8.out o8
                  have hal2 : al = 1 := by omega
                  subst o8 hal2
                  obtain ⟨x, hx⟩ : ∃ x, args[0]? = some x := ⟨_, List.getElem?_eq_getElem (by rw [← HAL.out]; omega)⟩
                  obtain ⟨b, off, kv, rfl, hbl, e0, e1, e2, e3, hkx⟩ := HAA.out.get hx
                  have e0 := cellB HBZ.out e0
                  rw [Nat.zero_mul, Nat.add_zero] at e0
                  have HAO : Hid (argOp args = x.op) := Lib.hid (by unfold argOp; rw [List.getD_eq_getElem?_getD, hx]; rfl)
                  clear hx hkx e1 e2 e3 hal1
                  by_cases o13 : x.op = 13
                  · have o13b : (x.op != 13) = false := by rw [o13]; rfl
                    rw [HAO.out, show ((8 : Int) == 8) = true from rfl, eqI o13] at HR
                    have HRR : Hid (r = (args.all (exVal isNB) && body.all (stOk isNB d) && els.all (stOk isNB d))) := Lib.hid (by rw [HR.out]; simp)
                    go_wp2_with (fail)
                    go_loopw [71] (fun i wr => ∃ k : Nat, k ≤ 1 ∧ i = .int .i64 (k : Int) ∧ Hid ((args.take k).all (exVal isNB) = true) ∧ Hid (Below w.heap.size w wr ∧ wr.cell? ⟨w.heap.size, 3, none⟩ = some (.slice ba 0 bc) ∧ wr.cell? ⟨w.heap.size, 4, none⟩ = some (.slice ea 0 ec) ∧ w.heap.size < wr.heap.size)) (fun i _ => 1 - (intOf i).toNat)
                    case atStart => exact ⟨0, Nat.zero_le _, rfl, Lib.hid rfl, Lib.hid ⟨HBZ.out, HBX3.out⟩⟩
                    case round =>
                      obtain ⟨k, hk, rfl, hA, HBX⟩ := hrel
                      have HBR := Lib.hid HBX.out.1
                      by_cases hlt : k < 1
                      · have hkl : k < args.length := by rw [← HAL.out]; exact hlt
                        obtain ⟨x, hx⟩ : ∃ x, x = args[k] := ⟨_, rfl⟩
                        have hxk : args[k]? = some x := by rw [hx]; exact List.getElem?_eq_getElem hkl
                        obtain ⟨b', off', kv', hab', hbl', g0, g1, g2, g3, hkx⟩ := HAA.out.get hxk
                        first | (injection hab' with hab'; injection hab' with hab1 hab2 _; subst hab1 hab2) | subst hab'
                        have g0 := cellB HBR.out g0; have g1 := cellB HBR.out g1; have g2 := cellB HBR.out g2; have g3 := cellB HBR.out g3
                        obtain ⟨ka, kc, hkf⟩ := hkx.form
                        obtain ⟨kl, hkl2⟩ : ∃ l, l = x.kids.length := ⟨_, rfl⟩
                        rw [← hkl2] at hkf
                        subst hkf
                        obtain ⟨q, hqx⟩ : ∃ q, q = exVal isNB x := ⟨_, rfl⟩
                        have HC : Hid (∀ w', Below w.heap.size w w' → Calls Tryz.prog 179 #[.agg #[.int .i64 x.op, .int .i64 x.n, .string x.name, .slice ka kl kc]] w' (BoolP q w')) := Lib.hid (fun w' hb =>
                          exprValid_any w' x _ q (HK.out.below hb) (HWA.out x (List.mem_of_getElem? hxk)) (HAA.out.lens.2 k x hxk) (hkx.dn hb) hqx)
                        have HT := Lib.hid (all_take (exVal isNB) args k x hxk)
                        have HFF := Lib.hid (fun h => all_false (exVal isNB) (List.mem_of_getElem? hxk) h)
                        rw [← hqx] at HT HFF
                        have k0 : (0 : Int) ≤ k := by omega
                        have k1 : (k : Int) < 1 := by omega
                        clear hkl hx hxk hkx hkl2 hqx
                        go_wp2_with (fail)
                        go_at_call 179
                        refine (HC.out _ (HBR.out.trans ((below1 _ _).mono HBR.out.size))).mono ?_
                        rintro e w2 ⟨rfl, hb⟩
                        have hbr2 : Below wr.heap.size wr w2 := (below1 _ _).trans (hb.mono (by simp))
                        have HB2 : Hid (Below w.heap.size w w2) := Lib.hid (HBR.out.trans (hbr2.mono HBR.out.size))
                        have HBX2 := Lib.hid (And.intro HB2.out (And.intro (cellB hbr2 HBX.out.2.1) (And.intro (cellB hbr2 HBX.out.2.2.1) (Nat.lt_of_lt_of_le HBX.out.2.2.2 hbr2.size))))
                        clear hb hbr2
                        cases q
                        · go_wp2_with (fail)
                          go_ret
                          exact ⟨by rw [HRR.out, HFF.out (by first | rfl | trivial)]; rfl, HB2.out⟩
                        · go_wp2_with (fail)
                          go_roundw
                          case rel => exact ⟨k + 1, by omega, by go_num, Lib.hid (by rw [HT.out, hA.out]; rfl), HBX2⟩
                          case measure => simp [intOf]; omega
                      · have hke : k = 1 := by omega
                        have HAX : Hid (args.all (exVal isNB) = true) := Lib.hid (by have := hA.out; rw [hke, HAL.out, List.take_length] at this; exact this)
                        obtain ⟨qb, hqb⟩ : ∃ q, q = body.all (stOk isNB d) := ⟨_, rfl⟩
                        obtain ⟨qe, hqe⟩ : ∃ q, q = els.all (stOk isNB d) := ⟨_, rfl⟩
                        have HC1 := Lib.hid (fun w' (hb : Below w.heap.size w w') => HBLK.out body w' _ (HK.out.below hb) HWB.out (HBB.out.dn hb))
                        have HC2 := Lib.hid (fun w' (hb : Below w.heap.size w w') => HBLK.out els w' _ (HK.out.below hb) HWE.out (HEE.out.dn hb))
                        have HRE := HRR
                        rw [HAX.out, Bool.true_and, ← hqb, ← hqe] at HRE
                        rw [← hqb] at HC1
                        rw [← hqe] at HC2
                        have c3 := HBX.out.2.1
                        have c4 := HBX.out.2.2.1
                        clear hqb hqe hke
                        go_wp2_with (fail)
                        go_at_call 136
                        refine (HC1.out _ HBR.out).mono ?_
                        rintro e w2 ⟨rfl, hb⟩
                        have HB2 := Lib.hid (HBR.out.trans (hb.mono HBR.out.size))
                        have c4 := cellB hb c4
                        clear hb c3
                        cases qb
                        · go_wp2_with (fail)
                          go_ret
                          exact ⟨by rw [HRE.out]; rfl, HB2.out⟩
                        · go_wp2_with (fail)
                          go_at_call 136
                          refine (HC2.out _ HB2.out).mono ?_
                          rintro e w3 ⟨rfl, hb⟩
                          have HB3 := Lib.hid (HB2.out.trans (hb.mono HB2.out.size))
                          clear hb
                          go_wp2_with (fail)
                          go_ret
                          exact ⟨by rw [HRE.out]; simp, HB3.out⟩

                  · have o13b : (x.op != 13) = true := by simpa using o13
                    rw [HAO.out, show ((8 : Int) == 8) = true from rfl, neI o13] at HR
                    go_wp2_with (fail)
                    go_ret
                    exact ⟨by rw [HR.out]; simp, HBZ.out⟩
                · have o8 := neI o8
                  rw [o8] at HR
                  have HRR : Hid (r = (args.all (exVal isNB) && body.all (stOk isNB d) && els.all (stOk isNB d))) := Lib.hid (by rw [HR.out]; simp)
                  go_wp2_with (fail)
                  go_loopw [71] (fun i wr => ∃ k : Nat, k ≤ al ∧ i = .int .i64 (k : Int) ∧ Hid ((args.take k).all (exVal isNB) = true) ∧ Hid (Below w.heap.size w wr ∧ wr.cell? ⟨w.heap.size, 3, none⟩ = some (.slice ba 0 bc) ∧ wr.cell? ⟨w.heap.size, 4, none⟩ = some (.slice ea 0 ec) ∧ w.heap.size < wr.heap.size)) (fun i _ => al - (intOf i).toNat)
                  case atStart => exact ⟨0, Nat.zero_le _, rfl, Lib.hid rfl, Lib.hid ⟨HBZ.out, HBX3.out⟩⟩
                  case round =>
                    obtain ⟨k, hk, rfl, hA, HBX⟩ := hrel
                    have HBR := Lib.hid HBX.out.1
                    by_cases hlt : k < al
                    · have hkl : k < args.length := by rw [← HAL.out]; exact hlt
                      obtain ⟨x, hx⟩ : ∃ x, x = args[k] := ⟨_, rfl⟩
                      have hxk : args[k]? = some x := by rw [hx]; exact List.getElem?_eq_getElem hkl
                      obtain ⟨b', off', kv', hab', hbl', g0, g1, g2, g3, hkx⟩ := HAA.out.get hxk
                      first | (injection hab' with hab'; injection hab' with hab1 hab2 _; subst hab1 hab2) | subst hab'
                      have g0 := cellB HBR.out g0; have g1 := cellB HBR.out g1; have g2 := cellB HBR.out g2; have g3 := cellB HBR.out g3
                      obtain ⟨ka, kc, hkf⟩ := hkx.form
                      obtain ⟨kl, hkl2⟩ : ∃ l, l = x.kids.length := ⟨_, rfl⟩
                      rw [← hkl2] at hkf
                      subst hkf
                      obtain ⟨q, hqx⟩ : ∃ q, q = exVal isNB x := ⟨_, rfl⟩
                      have HC : Hid (∀ w', Below w.heap.size w w' → Calls Tryz.prog 179 #[.agg #[.int .i64 x.op, .int .i64 x.n, .string x.name, .slice ka kl kc]] w' (BoolP q w')) := Lib.hid (fun w' hb =>
                        exprValid_any w' x _ q (HK.out.below hb) (HWA.out x (List.mem_of_getElem? hxk)) (HAA.out.lens.2 k x hxk) (hkx.dn hb) hqx)
                      have HT := Lib.hid (all_take (exVal isNB) args k x hxk)
                      have HFF := Lib.hid (fun h => all_false (exVal isNB) (List.mem_of_getElem? hxk) h)
                      rw [← hqx] at HT HFF
                      have k0 : (0 : Int) ≤ k := by omega
                      have k1 : (k : Int) < al := by omega
                      clear hkl hx hxk hkx hkl2 hqx
                      go_wp2_with (fail)
                      go_at_call 179
                      refine (HC.out _ (HBR.out.trans ((below1 _ _).mono HBR.out.size))).mono ?_
                      rintro e w2 ⟨rfl, hb⟩
                      have hbr2 : Below wr.heap.size wr w2 := (below1 _ _).trans (hb.mono (by simp))
                      have HB2 : Hid (Below w.heap.size w w2) := Lib.hid (HBR.out.trans (hbr2.mono HBR.out.size))
                      have HBX2 := Lib.hid (And.intro HB2.out (And.intro (cellB hbr2 HBX.out.2.1) (And.intro (cellB hbr2 HBX.out.2.2.1) (Nat.lt_of_lt_of_le HBX.out.2.2.2 hbr2.size))))
                      clear hb hbr2
                      cases q
                      · go_wp2_with (fail)
                        go_ret
                        exact ⟨by rw [HRR.out, HFF.out (by first | rfl | trivial)]; rfl, HB2.out⟩
                      · go_wp2_with (fail)
                        go_roundw
                        case rel => exact ⟨k + 1, by omega, by go_num, Lib.hid (by rw [HT.out, hA.out]; rfl), HBX2⟩
                        case measure => simp [intOf]; omega
                    · have hke : k = al := by omega
                      have HAX : Hid (args.all (exVal isNB) = true) := Lib.hid (by have := hA.out; rw [hke, HAL.out, List.take_length] at this; exact this)
                      obtain ⟨qb, hqb⟩ : ∃ q, q = body.all (stOk isNB d) := ⟨_, rfl⟩
                      obtain ⟨qe, hqe⟩ : ∃ q, q = els.all (stOk isNB d) := ⟨_, rfl⟩
                      have HC1 := Lib.hid (fun w' (hb : Below w.heap.size w w') => HBLK.out body w' _ (HK.out.below hb) HWB.out (HBB.out.dn hb))
                      have HC2 := Lib.hid (fun w' (hb : Below w.heap.size w w') => HBLK.out els w' _ (HK.out.below hb) HWE.out (HEE.out.dn hb))
                      have HRE := HRR
                      rw [HAX.out, Bool.true_and, ← hqb, ← hqe] at HRE
                      rw [← hqb] at HC1
                      rw [← hqe] at HC2
                      have c3 := HBX.out.2.1
                      have c4 := HBX.out.2.2.1
                      clear hqb hqe hke
                      go_wp2_with (fail)
                      go_at_call 136
                      refine (HC1.out _ HBR.out).mono ?_
                      rintro e w2 ⟨rfl, hb⟩
                      have HB2 := Lib.hid (HBR.out.trans (hb.mono HBR.out.size))
                      have c4 := cellB hb c4
                      clear hb c3
                      cases qb
                      · go_wp2_with (fail)
                        go_ret
                        exact ⟨by rw [HRE.out]; rfl, HB2.out⟩
                      · go_wp2_with (fail)
                        go_at_call 136
                        refine (HC2.out _ HB2.out).mono ?_
                        rintro e w3 ⟨rfl, hb⟩
                        have HB3 := Lib.hid (HB2.out.trans (hb.mono HB2.out.size))
                        clear hb
                        go_wp2_with (fail)
                        go_ret
                        exact ⟨by rw [HRE.out]; simp, HB3.out⟩


              · have he1 : (0 : Int) < el := by omega
                rw [decide_eq_false he0] at HR
                go_wp2_with (fail)
                go_ret
                exact ⟨by rw [HR.out]; (try rfl); (try simp), HBZ.out⟩
            · clear heb
              by_cases o8 : op = 8
              · have hal1 := H8.out o8
                have hal2 : al = 1 := by omega
                subst o8 hal2
                obtain ⟨x, hx⟩ : ∃ x, args[0]? = some x := ⟨_, List.getElem?_eq_getElem (by rw [← HAL.out]; omega)⟩
                obtain ⟨b, off, kv, rfl, hbl, e0, e1, e2, e3, hkx⟩ := HAA.out.get hx
                have e0 := cellB HBZ.out e0
                rw [Nat.zero_mul, Nat.add_zero] at e0
                have HAO : Hid (argOp args = x.op) := Lib.hid (by unfold argOp; rw [List.getD_eq_getElem?_getD, hx]; rfl)
                clear hx hkx e1 e2 e3 hal1
                by_cases o13 : x.op = 13
                · have o13b : (x.op != 13) = false := by rw [o13]; rfl
                  rw [HAO.out, show ((8 : Int) == 8) = true from rfl, eqI o13] at HR
                  have HRR : Hid (r = (args.all (exVal isNB) && body.all (stOk isNB d) && els.all (stOk isNB d))) := Lib.hid (by rw [HR.out]; simp)
                  go_wp2_with (fail)
                  go_loopw [71] (fun i wr => ∃ k : Nat, k ≤ 1 ∧ i = .int .i64 (k : Int) ∧ Hid ((args.take k).all (exVal isNB) = true) ∧ Hid (Below w.heap.size w wr ∧ wr.cell? ⟨w.heap.size, 3, none⟩ = some (.slice ba 0 bc) ∧ wr.cell? ⟨w.heap.size, 4, none⟩ = some (.slice ea el ec) ∧ w.heap.size < wr.heap.size)) (fun i _ => 1 - (intOf i).toNat)
                  case atStart => exact ⟨0, Nat.zero_le _, rfl, Lib.hid rfl, Lib.hid ⟨HBZ.out, HBX3.out⟩⟩
                  case round =>
                    obtain ⟨k, hk, rfl, hA, HBX⟩ := hrel
                    have HBR := Lib.hid HBX.out.1
                    by_cases hlt : k < 1
                    · have hkl : k < args.length := by rw [← HAL.out]; exact hlt
                      obtain ⟨x, hx⟩ : ∃ x, x = args[k] := ⟨_, rfl⟩
                      have hxk : args[k]? = some x := by rw [hx]; exact List.getElem?_eq_getElem hkl
                      obtain ⟨b', off', kv', hab', hbl', g0, g1, g2, g3, hkx⟩ := HAA.out.get hxk
                      first | (injection hab' with hab'; injection hab' with hab1 hab2 _; subst hab1 hab2) | subst hab'
                      have g0 := cellB HBR.out g0; have g1 := cellB HBR.out g1; have g2 := cellB HBR.out g2; have g3 := cellB HBR.out g3
                      obtain ⟨ka, kc, hkf⟩ := hkx.form
                      obtain ⟨kl, hkl2⟩ : ∃ l, l = x.kids.length := ⟨_, rfl⟩
                      rw [← hkl2] at hkf
                      subst hkf
                      obtain ⟨q, hqx⟩ : ∃ q, q = exVal isNB x := ⟨_, rfl⟩
                      have HC : Hid (∀ w', Below w.heap.size w w' → Calls Tryz.prog 179 #[.agg #[.int .i64 x.op, .int .i64 x.n, .string x.name, .slice ka kl kc]] w' (BoolP q w')) := Lib.hid (fun w' hb =>
                        exprValid_any w' x _ q (HK.out.below hb) (HWA.out x (List.mem_of_getElem? hxk)) (HAA.out.lens.2 k x hxk) (hkx.dn hb) hqx)
                      have HT := Lib.hid (all_take (exVal isNB) args k x hxk)
                      have HFF := Lib.hid (fun h => all_false (exVal isNB) (List.mem_of_getElem? hxk) h)
                      rw [← hqx] at HT HFF
                      have k0 : (0 : Int) ≤ k := by omega
                      have k1 : (k : Int) < 1 := by omega
                      clear hkl hx hxk hkx hkl2 hqx
                      go_wp2_with (fail)
                      go_at_call 179
                      refine (HC.out _ (HBR.out.trans ((below1 _ _).mono HBR.out.size))).mono ?_
                      rintro e w2 ⟨rfl, hb⟩
                      have hbr2 : Below wr.heap.size wr w2 := (below1 _ _).trans (hb.mono (by simp))
                      have HB2 : Hid (Below w.heap.size w w2) := Lib.hid (HBR.out.trans (hbr2.mono HBR.out.size))
                      have HBX2 := Lib.hid (And.intro HB2.out (And.intro (cellB hbr2 HBX.out.2.1) (And.intro (cellB hbr2 HBX.out.2.2.1) (Nat.lt_of_lt_of_le HBX.out.2.2.2 hbr2.size))))
                      clear hb hbr2
                      cases q
                      · go_wp2_with (fail)
                        go_ret
                        exact ⟨by rw [HRR.out, HFF.out (by first | rfl | trivial)]; rfl, HB2.out⟩
                      · go_wp2_with (fail)
                        go_roundw
                        case rel => exact ⟨k + 1, by omega, by go_num, Lib.hid (by rw [HT.out, hA.out]; rfl), HBX2⟩
                        case measure => simp [intOf]; omega
                    · have hke : k = 1 := by omega
                      have HAX : Hid (args.all (exVal isNB) = true) := Lib.hid (by have := hA.out; rw [hke, HAL.out, List.take_length] at this; exact this)
                      obtain ⟨qb, hqb⟩ : ∃ q, q = body.all (stOk isNB d) := ⟨_, rfl⟩
                      obtain ⟨qe, hqe⟩ : ∃ q, q = els.all (stOk isNB d) := ⟨_, rfl⟩
                      have HC1 := Lib.hid (fun w' (hb : Below w.heap.size w w') => HBLK.out body w' _ (HK.out.below hb) HWB.out (HBB.out.dn hb))
                      have HC2 := Lib.hid (fun w' (hb : Below w.heap.size w w') => HBLK.out els w' _ (HK.out.below hb) HWE.out (HEE.out.dn hb))
                      have HRE := HRR
                      rw [HAX.out, Bool.true_and, ← hqb, ← hqe] at HRE
                      rw [← hqb] at HC1
                      rw [← hqe] at HC2
                      have c3 := HBX.out.2.1
                      have c4 := HBX.out.2.2.1
                      clear hqb hqe hke
                      go_wp2_with (fail)
                      go_at_call 136
                      refine (HC1.out _ HBR.out).mono ?_
                      rintro e w2 ⟨rfl, hb⟩
                      have HB2 := Lib.hid (HBR.out.trans (hb.mono HBR.out.size))
                      have c4 := cellB hb c4
                      clear hb c3
                      cases qb
                      · go_wp2_with (fail)
                        go_ret
                        exact ⟨by rw [HRE.out]; rfl, HB2.out⟩
                      · go_wp2_with (fail)
                        go_at_call 136
                        refine (HC2.out _ HB2.out).mono ?_
                        rintro e w3 ⟨rfl, hb⟩
                        have HB3 := Lib.hid (HB2.out.trans (hb.mono HB2.out.size))
                        clear hb
                        go_wp2_with (fail)
                        go_ret
                        exact ⟨by rw [HRE.out]; simp, HB3.out⟩

                · have o13b : (x.op != 13) = true := by simpa using o13
                  rw [HAO.out, show ((8 : Int) == 8) = true from rfl, neI o13] at HR
                  go_wp2_with (fail)
                  go_ret
                  exact ⟨by rw [HR.out]; simp, HBZ.out⟩
              · have o8 := neI o8
                rw [o8] at HR
                have HRR : Hid (r = (args.all (exVal isNB) && body.all (stOk isNB d) && els.all (stOk isNB d))) := Lib.hid (by rw [HR.out]; simp)
                go_wp2_with (fail)
                go_loopw [71] (fun i wr => ∃ k : Nat, k ≤ al ∧ i = .int .i64 (k : Int) ∧ Hid ((args.take k).all (exVal isNB) = true) ∧ Hid (Below w.heap.size w wr ∧ wr.cell? ⟨w.heap.size, 3, none⟩ = some (.slice ba 0 bc) ∧ wr.cell? ⟨w.heap.size, 4, none⟩ = some (.slice ea el ec) ∧ w.heap.size < wr.heap.size)) (fun i _ => al - (intOf i).toNat)
                case atStart => exact ⟨0, Nat.zero_le _, rfl, Lib.hid rfl, Lib.hid ⟨HBZ.out, HBX3.out⟩⟩
                case round =>
                  obtain ⟨k, hk, rfl, hA, HBX⟩ := hrel
                  have HBR := Lib.hid HBX.out.1
                  by_cases hlt : k < al
                  · have hkl : k < args.length := by rw [← HAL.out]; exact hlt
                    obtain ⟨x, hx⟩ : ∃ x, x = args[k] := ⟨_, rfl⟩
                    have hxk : args[k]? = some x := by rw [hx]; exact List.getElem?_eq_getElem hkl
                    obtain ⟨b', off', kv', hab', hbl', g0, g1, g2, g3, hkx⟩ := HAA.out.get hxk
                    first | (injection hab' with hab'; injection hab' with hab1 hab2 _; subst hab1 hab2) | subst hab'
                    have g0 := cellB HBR.out g0; have g1 := cellB HBR.out g1; have g2 := cellB HBR.out g2; have g3 := cellB HBR.out g3
                    obtain ⟨ka, kc, hkf⟩ := hkx.form
                    obtain ⟨kl, hkl2⟩ : ∃ l, l = x.kids.length := ⟨_, rfl⟩
                    rw [← hkl2] at hkf
                    subst hkf
                    obtain ⟨q, hqx⟩ : ∃ q, q = exVal isNB x := ⟨_, rfl⟩
                    have HC : Hid (∀ w', Below w.heap.size w w' → Calls Tryz.prog 179 #[.agg #[.int .i64 x.op, .int .i64 x.n, .string x.name, .slice ka kl kc]] w' (BoolP q w')) := Lib.hid (fun w' hb =>
                      exprValid_any w' x _ q (HK.out.below hb) (HWA.out x (List.mem_of_getElem? hxk)) (HAA.out.lens.2 k x hxk) (hkx.dn hb) hqx)
                    have HT := Lib.hid (all_take (exVal isNB) args k x hxk)
                    have HFF := Lib.hid (fun h => all_false (exVal isNB) (List.mem_of_getElem? hxk) h)
                    rw [← hqx] at HT HFF
                    have k0 : (0 : Int) ≤ k := by omega
                    have k1 : (k : Int) < al := by omega
                    clear hkl hx hxk hkx hkl2 hqx
                    go_wp2_with (fail)
                    go_at_call 179
                    refine (HC.out _ (HBR.out.trans ((below1 _ _).mono HBR.out.size))).mono ?_
                    rintro e w2 ⟨rfl, hb⟩
                    have hbr2 : Below wr.heap.size wr w2 := (below1 _ _).trans (hb.mono (by simp))
                    have HB2 : Hid (Below w.heap.size w w2) := Lib.hid (HBR.out.trans (hbr2.mono HBR.out.size))
                    have HBX2 := Lib.hid (And.intro HB2.out (And.intro (cellB hbr2 HBX.out.2.1) (And.intro (cellB hbr2 HBX.out.2.2.1) (Nat.lt_of_lt_of_le HBX.out.2.2.2 hbr2.size))))
                    clear hb hbr2
                    cases q
                    · go_wp2_with (fail)
                      go_ret
                      exact ⟨by rw [HRR.out, HFF.out (by first | rfl | trivial)]; rfl, HB2.out⟩
                    · go_wp2_with (fail)
                      go_roundw
                      case rel => exact ⟨k + 1, by omega, by go_num, Lib.hid (by rw [HT.out, hA.out]; rfl), HBX2⟩
                      case measure => simp [intOf]; omega
                  · have hke : k = al := by omega
                    have HAX : Hid (args.all (exVal isNB) = true) := Lib.hid (by have := hA.out; rw [hke, HAL.out, List.take_length] at this; exact this)
                    obtain ⟨qb, hqb⟩ : ∃ q, q = body.all (stOk isNB d) := ⟨_, rfl⟩
                    obtain ⟨qe, hqe⟩ : ∃ q, q = els.all (stOk isNB d) := ⟨_, rfl⟩
                    have HC1 := Lib.hid (fun w' (hb : Below w.heap.size w w') => HBLK.out body w' _ (HK.out.below hb) HWB.out (HBB.out.dn hb))
                    have HC2 := Lib.hid (fun w' (hb : Below w.heap.size w w') => HBLK.out els w' _ (HK.out.below hb) HWE.out (HEE.out.dn hb))
                    have HRE := HRR
                    rw [HAX.out, Bool.true_and, ← hqb, ← hqe] at HRE
                    rw [← hqb] at HC1
                    rw [← hqe] at HC2
                    have c3 := HBX.out.2.1
                    have c4 := HBX.out.2.2.1
                    clear hqb hqe hke
                    go_wp2_with (fail)
                    go_at_call 136
                    refine (HC1.out _ HBR.out).mono ?_
                    rintro e w2 ⟨rfl, hb⟩
                    have HB2 := Lib.hid (HBR.out.trans (hb.mono HBR.out.size))
                    have c4 := cellB hb c4
                    clear hb c3
                    cases qb
                    · go_wp2_with (fail)
                      go_ret
                      exact ⟨by rw [HRE.out]; rfl, HB2.out⟩
                    · go_wp2_with (fail)
                      go_at_call 136
                      refine (HC2.out _ HB2.out).mono ?_
                      rintro e w3 ⟨rfl, hb⟩
                      have HB3 := Lib.hid (HB2.out.trans (hb.mono HB2.out.size))
                      clear hb
                      go_wp2_with (fail)
                      go_ret
                      exact ⟨by rw [HRE.out]; simp, HB3.out⟩



          · have hb1 : (0 : Int) < bl := by omega
            rw [decide_eq_false hb0] at HR
            go_wp2_with (fail)
            go_ret
            exact ⟨by rw [HR.out]; rfl, HBZ.out⟩
        · clear hbb
          cases ot
          · by_cases he0 : el = 0
            · subst he0
              by_cases o8 : op = 8
              · have hal1 := H8.out o8
                have hal2 : al = 1 := by omega
                subst o8 hal2
                obtain ⟨x, hx⟩ : ∃ x, args[0]? = some x := ⟨_, List.getElem?_eq_getElem (by rw [← HAL.out]; omega)⟩
                obtain ⟨b, off, kv, rfl, hbl, e0, e1, e2, e3, hkx⟩ := HAA.out.get hx
                have e0 := cellB HBZ.out e0
                rw [Nat.zero_mul, Nat.add_zero] at e0
                have HAO : Hid (argOp args = x.op) := Lib.hid (by unfold argOp; rw [List.getD_eq_getElem?_getD, hx]; rfl)
                clear hx hkx e1 e2 e3 hal1
                by_cases o13 : x.op = 13
                · have o13b : (x.op != 13) = false := by rw [o13]; rfl
                  rw [HAO.out, show ((8 : Int) == 8) = true from rfl, eqI o13] at HR
                  have HRR : Hid (r = (args.all (exVal isNB) && body.all (stOk isNB d) && els.all (stOk isNB d))) := Lib.hid (by rw [HR.out]; simp)
                  go_wp2_with (fail)
                  go_loopw [71] (fun i wr => ∃ k : Nat, k ≤ 1 ∧ i = .int .i64 (k : Int) ∧ Hid ((args.take k).all (exVal isNB) = true) ∧ Hid (Below w.heap.size w wr ∧ wr.cell? ⟨w.heap.size, 3, none⟩ = some (.slice ba bl bc) ∧ wr.cell? ⟨w.heap.size, 4, none⟩ = some (.slice ea 0 ec) ∧ w.heap.size < wr.heap.size)) (fun i _ => 1 - (intOf i).toNat)
                  case atStart => exact ⟨0, Nat.zero_le _, rfl, Lib.hid rfl, Lib.hid ⟨HBZ.out, HBX3.out⟩⟩
                  case round =>
                    obtain ⟨k, hk, rfl, hA, HBX⟩ := hrel
                    have HBR := Lib.hid HBX.out.1
                    by_cases hlt : k < 1
                    · have hkl : k < args.length := by rw [← HAL.out]; exact hlt
                      obtain ⟨x, hx⟩ : ∃ x, x = args[k] := ⟨_, rfl⟩
                      have hxk : args[k]? = some x := by rw [hx]; exact List.getElem?_eq_getElem hkl
                      obtain ⟨b', off', kv', hab', hbl', g0, g1, g2, g3, hkx⟩ := HAA.out.get hxk
                      first | (injection hab' with hab'; injection hab' with hab1 hab2 _; subst hab1 hab2) | subst hab'
                      have g0 := cellB HBR.out g0; have g1 := cellB HBR.out g1; have g2 := cellB HBR.out g2; have g3 := cellB HBR.out g3
                      obtain ⟨ka, kc, hkf⟩ := hkx.form
                      obtain ⟨kl, hkl2⟩ : ∃ l, l = x.kids.length := ⟨_, rfl⟩
                      rw [← hkl2] at hkf
                      subst hkf
                      obtain ⟨q, hqx⟩ : ∃ q, q = exVal isNB x := ⟨_, rfl⟩
                      have HC : Hid (∀ w', Below w.heap.size w w' → Calls Tryz.prog 179 #[.agg #[.int .i64 x.op, .int .i64 x.n, .string x.name, .slice ka kl kc]] w' (BoolP q w')) := Lib.hid (fun w' hb =>
                        exprValid_any w' x _ q (HK.out.below hb) (HWA.out x (List.mem_of_getElem? hxk)) (HAA.out.lens.2 k x hxk) (hkx.dn hb) hqx)
                      have HT := Lib.hid (all_take (exVal isNB) args k x hxk)
                      have HFF := Lib.hid (fun h => all_false (exVal isNB) (List.mem_of_getElem? hxk) h)
                      rw [← hqx] at HT HFF
                      have k0 : (0 : Int) ≤ k := by omega
                      have k1 : (k : Int) < 1 := by omega
                      clear hkl hx hxk hkx hkl2 hqx
                      go_wp2_with (fail)
                      go_at_call 179
                      refine (HC.out _ (HBR.out.trans ((below1 _ _).mono HBR.out.size))).mono ?_
                      rintro e w2 ⟨rfl, hb⟩
                      have hbr2 : Below wr.heap.size wr w2 := (below1 _ _).trans (hb.mono (by simp))
                      have HB2 : Hid (Below w.heap.size w w2) := Lib.hid (HBR.out.trans (hbr2.mono HBR.out.size))
                      have HBX2 := Lib.hid (And.intro HB2.out (And.intro (cellB hbr2 HBX.out.2.1) (And.intro (cellB hbr2 HBX.out.2.2.1) (Nat.lt_of_lt_of_le HBX.out.2.2.2 hbr2.size))))
                      clear hb hbr2
                      cases q
                      · go_wp2_with (fail)
                        go_ret
                        exact ⟨by rw [HRR.out, HFF.out (by first | rfl | trivial)]; rfl, HB2.out⟩
                      · go_wp2_with (fail)
                        go_roundw
                        case rel => exact ⟨k + 1, by omega, by go_num, Lib.hid (by rw [HT.out, hA.out]; rfl), HBX2⟩
                        case measure => simp [intOf]; omega
                    · have hke : k = 1 := by omega
                      have HAX : Hid (args.all (exVal isNB) = true) := Lib.hid (by have := hA.out; rw [hke, HAL.out, List.take_length] at this; exact this)
                      obtain ⟨qb, hqb⟩ : ∃ q, q = body.all (stOk isNB d) := ⟨_, rfl⟩
                      obtain ⟨qe, hqe⟩ : ∃ q, q = els.all (stOk isNB d) := ⟨_, rfl⟩
                      have HC1 := Lib.hid (fun w' (hb : Below w.heap.size w w') => HBLK.out body w' _ (HK.out.below hb) HWB.out (HBB.out.dn hb))
                      have HC2 := Lib.hid (fun w' (hb : Below w.heap.size w w') => HBLK.out els w' _ (HK.out.below hb) HWE.out (HEE.out.dn hb))
                      have HRE := HRR
                      rw [HAX.out, Bool.true_and, ← hqb, ← hqe] at HRE
                      rw [← hqb] at HC1
                      rw [← hqe] at HC2
                      have c3 := HBX.out.2.1
                      have c4 := HBX.out.2.2.1
                      clear hqb hqe hke
                      go_wp2_with (fail)
                      go_at_call 136
                      refine (HC1.out _ HBR.out).mono ?_
                      rintro e w2 ⟨rfl, hb⟩
                      have HB2 := Lib.hid (HBR.out.trans (hb.mono HBR.out.size))
                      have c4 := cellB hb c4
                      clear hb c3
                      cases qb
                      · go_wp2_with (fail)
                        go_ret
                        exact ⟨by rw [HRE.out]; rfl, HB2.out⟩
                      · go_wp2_with (fail)
                        go_at_call 136
                        refine (HC2.out _ HB2.out).mono ?_
                        rintro e w3 ⟨rfl, hb⟩
                        have HB3 := Lib.hid (HB2.out.trans (hb.mono HB2.out.size))
                        clear hb
                        go_wp2_with (fail)
                        go_ret
                        exact ⟨by rw [HRE.out]; simp, HB3.out⟩

                · have o13b : (x.op != 13) = true := by simpa using o13
                  rw [HAO.out, show ((8 : Int) == 8) = true from rfl, neI o13] at HR
                  go_wp2_with (fail)
                  go_ret
                  exact ⟨by rw [HR.out]; simp, HBZ.out⟩
              · have o8 := neI o8
                rw [o8] at HR
                have HRR : Hid (r = (args.all (exVal isNB) && body.all (stOk isNB d) && els.all (stOk isNB d))) := Lib.hid (by rw [HR.out]; simp)
                go_wp2_with (fail)
                go_loopw [71] (fun i wr => ∃ k : Nat, k ≤ al ∧ i = .int .i64 (k : Int) ∧ Hid ((args.take k).all (exVal isNB) = true) ∧ Hid (Below w.heap.size w wr ∧ wr.cell? ⟨w.heap.size, 3, none⟩ = some (.slice ba bl bc) ∧ wr.cell? ⟨w.heap.size, 4, none⟩ = some (.slice ea 0 ec) ∧ w.heap.size < wr.heap.size)) (fun i _ => al - (intOf i).toNat)
                case atStart => exact ⟨0, Nat.zero_le _, rfl, Lib.hid rfl, Lib.hid ⟨HBZ.out, HBX3.out⟩⟩
                case round =>
                  obtain ⟨k, hk, rfl, hA, HBX⟩ := hrel
                  have HBR := Lib.hid HBX.out.1
                  by_cases hlt : k < al
                  · have hkl : k < args.length := by rw [← HAL.out]; exact hlt
                    obtain ⟨x, hx⟩ : ∃ x, x = args[k] := ⟨_, rfl⟩
                    have hxk : args[k]? = some x := by rw [hx]; exact List.getElem?_eq_getElem hkl
                    obtain ⟨b', off', kv', hab', hbl', g0, g1, g2, g3, hkx⟩ := HAA.out.get hxk
                    first | (injection hab' with hab'; injection hab' with hab1 hab2 _; subst hab1 hab2) | subst hab'
                    have g0 := cellB HBR.out g0; have g1 := cellB HBR.out g1; have g2 := cellB HBR.out g2; have g3 := cellB HBR.out g3
                    obtain ⟨ka, kc, hkf⟩ := hkx.form
                    obtain ⟨kl, hkl2⟩ : ∃ l, l = x.kids.length := ⟨_, rfl⟩
                    rw [← hkl2] at hkf
                    subst hkf
                    obtain ⟨q, hqx⟩ : ∃ q, q = exVal isNB x := ⟨_, rfl⟩
                    have HC : Hid (∀ w', Below w.heap.size w w' → Calls Tryz.prog 179 #[.agg #[.int .i64 x.op, .int .i64 x.n, .string x.name, .slice ka kl kc]] w' (BoolP q w')) := Lib.hid (fun w' hb =>
                      exprValid_any w' x _ q (HK.out.below hb) (HWA.out x (List.mem_of_getElem? hxk)) (HAA.out.lens.2 k x hxk) (hkx.dn hb) hqx)
                    have HT := Lib.hid (all_take (exVal isNB) args k x hxk)
                    have HFF := Lib.hid (fun h => all_false (exVal isNB) (List.mem_of_getElem? hxk) h)
                    rw [← hqx] at HT HFF
                    have k0 : (0 : Int) ≤ k := by omega
                    have k1 : (k : Int) < al := by omega
                    clear hkl hx hxk hkx hkl2 hqx
                    go_wp2_with (fail)
                    go_at_call 179
                    refine (HC.out _ (HBR.out.trans ((below1 _ _).mono HBR.out.size))).mono ?_
                    rintro e w2 ⟨rfl, hb⟩
                    have hbr2 : Below wr.heap.size wr w2 := (below1 _ _).trans (hb.mono (by simp))
                    have HB2 : Hid (Below w.heap.size w w2) := Lib.hid (HBR.out.trans (hbr2.mono HBR.out.size))
                    have HBX2 := Lib.hid (And.intro HB2.out (And.intro (cellB hbr2 HBX.out.2.1) (And.intro (cellB hbr2 HBX.out.2.2.1) (Nat.lt_of_lt_of_le HBX.out.2.2.2 hbr2.size))))
                    clear hb hbr2
                    cases q
                    · go_wp2_with (fail)
                      go_ret
                      exact ⟨by rw [HRR.out, HFF.out (by first | rfl | trivial)]; rfl, HB2.out⟩
                    · go_wp2_with (fail)
                      go_roundw
                      case rel => exact ⟨k + 1, by omega, by go_num, Lib.hid (by rw [HT.out, hA.out]; rfl), HBX2⟩
                      case measure => simp [intOf]; omega
                  · have hke : k = al := by omega
                    have HAX : Hid (args.all (exVal isNB) = true) := Lib.hid (by have := hA.out; rw [hke, HAL.out, List.take_length] at this; exact this)
                    obtain ⟨qb, hqb⟩ : ∃ q, q = body.all (stOk isNB d) := ⟨_, rfl⟩
                    obtain ⟨qe, hqe⟩ : ∃ q, q = els.all (stOk isNB d) := ⟨_, rfl⟩
                    have HC1 := Lib.hid (fun w' (hb : Below w.heap.size w w') => HBLK.out body w' _ (HK.out.below hb) HWB.out (HBB.out.dn hb))
                    have HC2 := Lib.hid (fun w' (hb : Below w.heap.size w w') => HBLK.out els w' _ (HK.out.below hb) HWE.out (HEE.out.dn hb))
                    have HRE := HRR
                    rw [HAX.out, Bool.true_and, ← hqb, ← hqe] at HRE
                    rw [← hqb] at HC1
                    rw [← hqe] at HC2
                    have c3 := HBX.out.2.1
                    have c4 := HBX.out.2.2.1
                    clear hqb hqe hke
                    go_wp2_with (fail)
                    go_at_call 136
                    refine (HC1.out _ HBR.out).mono ?_
                    rintro e w2 ⟨rfl, hb⟩
                    have HB2 := Lib.hid (HBR.out.trans (hb.mono HBR.out.size))
                    have c4 := cellB hb c4
                    clear hb c3
                    cases qb
                    · go_wp2_with (fail)
                      go_ret
                      exact ⟨by rw [HRE.out]; rfl, HB2.out⟩
                    · go_wp2_with (fail)
                      go_at_call 136
                      refine (HC2.out _ HB2.out).mono ?_
                      rintro e w3 ⟨rfl, hb⟩
                      have HB3 := Lib.hid (HB2.out.trans (hb.mono HB2.out.size))
                      clear hb
                      go_wp2_with (fail)
                      go_ret
                      exact ⟨by rw [HRE.out]; simp, HB3.out⟩


            · have he1 : (0 : Int) < el := by omega
              rw [decide_eq_false he0] at HR
              go_wp2_with (fail)
              go_ret
              exact ⟨by rw [HR.out]; (try rfl); (try simp), HBZ.out⟩
          · clear heb
            by_cases o8 : op = 8
            · have hal1 := H8.out o8
              have hal2 : al = 1 := by omega
              subst o8 hal2
              obtain ⟨x, hx⟩ : ∃ x, args[0]? = some x := ⟨_, List.getElem?_eq_getElem (by rw [← HAL.out]; omega)⟩
              obtain ⟨b, off, kv, rfl, hbl, e0, e1, e2, e3, hkx⟩ := HAA.out.get hx
              have e0 := cellB HBZ.out e0
              rw [Nat.zero_mul, Nat.add_zero] at e0
              have HAO : Hid (argOp args = x.op) := Lib.hid (by unfold argOp; rw [List.getD_eq_getElem?_getD, hx]; rfl)
              clear hx hkx e1 e2 e3 hal1
              by_cases o13 : x.op = 13
              · have o13b : (x.op != 13) = false := by rw [o13]; rfl
                rw [HAO.out, show ((8 : Int) == 8) = true from rfl, eqI o13] at HR
                have HRR : Hid (r = (args.all (exVal isNB) && body.all (stOk isNB d) && els.all (stOk isNB d))) := Lib.hid (by rw [HR.out]; simp)
                go_wp2_with (fail)
                go_loopw [71] (fun i wr => ∃ k : Nat, k ≤ 1 ∧ i = .int .i64 (k : Int) ∧ Hid ((args.take k).all (exVal isNB) = true) ∧ Hid (Below w.heap.size w wr ∧ wr.cell? ⟨w.heap.size, 3, none⟩ = some (.slice ba bl bc) ∧ wr.cell? ⟨w.heap.size, 4, none⟩ = some (.slice ea el ec) ∧ w.heap.size < wr.heap.size)) (fun i _ => 1 - (intOf i).toNat)
                case atStart => exact ⟨0, Nat.zero_le _, rfl, Lib.hid rfl, Lib.hid ⟨HBZ.out, HBX3.out⟩⟩
                case round =>
                  obtain ⟨k, hk, rfl, hA, HBX⟩ := hrel
                  have HBR := Lib.hid HBX.out.1
                  by_cases hlt : k < 1
                  · have hkl : k < args.length := by rw [← HAL.out]; exact hlt
                    obtain ⟨x, hx⟩ : ∃ x, x = args[k] := ⟨_, rfl⟩
                    have hxk : args[k]? = some x := by rw [hx]; exact List.getElem?_eq_getElem hkl
                    obtain ⟨b', off', kv', hab', hbl', g0, g1, g2, g3, hkx⟩ := HAA.out.get hxk
                    first | (injection hab' with hab'; injection hab' with hab1 hab2 _; subst hab1 hab2) | subst hab'
                    have g0 := cellB HBR.out g0; have g1 := cellB HBR.out g1; have g2 := cellB HBR.out g2; have g3 := cellB HBR.out g3
                    obtain ⟨ka, kc, hkf⟩ := hkx.form
                    obtain ⟨kl, hkl2⟩ : ∃ l, l = x.kids.length := ⟨_, rfl⟩
                    rw [← hkl2] at hkf
                    subst hkf
                    obtain ⟨q, hqx⟩ : ∃ q, q = exVal isNB x := ⟨_, rfl⟩
                    have HC : Hid (∀ w', Below w.heap.size w w' → Calls Tryz.prog 179 #[.agg #[.int .i64 x.op, .int .i64 x.n, .string x.name, .slice ka kl kc]] w' (BoolP q w')) := Lib.hid (fun w' hb =>
                      exprValid_any w' x _ q (HK.out.below hb) (HWA.out x (List.mem_of_getElem? hxk)) (HAA.out.lens.2 k x hxk) (hkx.dn hb) hqx)
                    have HT := Lib.hid (all_take (exVal isNB) args k x hxk)
                    have HFF := Lib.hid (fun h => all_false (exVal isNB) (List.mem_of_getElem? hxk) h)
                    rw [← hqx] at HT HFF
                    have k0 : (0 : Int) ≤ k := by omega
                    have k1 : (k : Int) < 1 := by omega
                    clear hkl hx hxk hkx hkl2 hqx
                    go_wp2_with (fail)
                    go_at_call 179
                    refine (HC.out _ (HBR.out.trans ((below1 _ _).mono HBR.out.size))).mono ?_
                    rintro e w2 ⟨rfl, hb⟩
                    have hbr2 : Below wr.heap.size wr w2 := (below1 _ _).trans (hb.mono (by simp))
                    have HB2 : Hid (Below w.heap.size w w2) := Lib.hid (HBR.out.trans (hbr2.mono HBR.out.size))
                    have HBX2 := Lib.hid (And.intro HB2.out (And.intro (cellB hbr2 HBX.out.2.1) (And.intro (cellB hbr2 HBX.out.2.2.1) (Nat.lt_of_lt_of_le HBX.out.2.2.2 hbr2.size))))
                    clear hb hbr2
                    cases q
                    · go_wp2_with (fail)
                      go_ret
                      exact ⟨by rw [HRR.out, HFF.out (by first | rfl | trivial)]; rfl, HB2.out⟩
                    · go_wp2_with (fail)
                      go_roundw
                      case rel => exact ⟨k + 1, by omega, by go_num, Lib.hid (by rw [HT.out, hA.out]; rfl), HBX2⟩
                      case measure => simp [intOf]; omega
                  · have hke : k = 1 := by omega
                    have HAX : Hid (args.all (exVal isNB) = true) := Lib.hid (by have := hA.out; rw [hke, HAL.out, List.take_length] at this; exact this)
                    obtain ⟨qb, hqb⟩ : ∃ q, q = body.all (stOk isNB d) := ⟨_, rfl⟩
                    obtain ⟨qe, hqe⟩ : ∃ q, q = els.all (stOk isNB d) := ⟨_, rfl⟩
                    have HC1 := Lib.hid (fun w' (hb : Below w.heap.size w w') => HBLK.out body w' _ (HK.out.below hb) HWB.out (HBB.out.dn hb))
                    have HC2 := Lib.hid (fun w' (hb : Below w.heap.size w w') => HBLK.out els w' _ (HK.out.below hb) HWE.out (HEE.out.dn hb))
                    have HRE := HRR
                    rw [HAX.out, Bool.true_and, ← hqb, ← hqe] at HRE
                    rw [← hqb] at HC1
                    rw [← hqe] at HC2
                    have c3 := HBX.out.2.1
                    have c4 := HBX.out.2.2.1
                    clear hqb hqe hke
                    go_wp2_with (fail)
                    go_at_call 136
                    refine (HC1.out _ HBR.out).mono ?_
                    rintro e w2 ⟨rfl, hb⟩
                    have HB2 := Lib.hid (HBR.out.trans (hb.mono HBR.out.size))
                    have c4 := cellB hb c4
                    clear hb c3
                    cases qb
                    · go_wp2_with (fail)
                      go_ret
                      exact ⟨by rw [HRE.out]; rfl, HB2.out⟩
                    · go_wp2_with (fail)
                      go_at_call 136
                      refine (HC2.out _ HB2.out).mono ?_
                      rintro e w3 ⟨rfl, hb⟩
                      have HB3 := Lib.hid (HB2.out.trans (hb.mono HB2.out.size))
                      clear hb
                      go_wp2_with (fail)
                      go_ret
                      exact ⟨by rw [HRE.out]; simp, HB3.out⟩

              · have o13b : (x.op != 13) = true := by simpa using o13
                rw [HAO.out, show ((8 : Int) == 8) = true from rfl, neI o13] at HR
                go_wp2_with (fail)
                go_ret
                exact ⟨by rw [HR.out]; simp, HBZ.out⟩
            · have o8 := neI o8
              rw [o8] at HR
              have HRR : Hid (r = (args.all (exVal isNB) && body.all (stOk isNB d) && els.all (stOk isNB d))) := Lib.hid (by rw [HR.out]; simp)
              go_wp2_with (fail)
              go_loopw [71] (fun i wr => ∃ k : Nat, k ≤ al ∧ i = .int .i64 (k : Int) ∧ Hid ((args.take k).all (exVal isNB) = true) ∧ Hid (Below w.heap.size w wr ∧ wr.cell? ⟨w.heap.size, 3, none⟩ = some (.slice ba bl bc) ∧ wr.cell? ⟨w.heap.size, 4, none⟩ = some (.slice ea el ec) ∧ w.heap.size < wr.heap.size)) (fun i _ => al - (intOf i).toNat)
              case atStart => exact ⟨0, Nat.zero_le _, rfl, Lib.hid rfl, Lib.hid ⟨HBZ.out, HBX3.out⟩⟩
              case round =>
                obtain ⟨k, hk, rfl, hA, HBX⟩ := hrel
                have HBR := Lib.hid HBX.out.1
                by_cases hlt : k < al
                · have hkl : k < args.length := by rw [← HAL.out]; exact hlt
                  obtain ⟨x, hx⟩ : ∃ x, x = args[k] := ⟨_, rfl⟩
                  have hxk : args[k]? = some x := by rw [hx]; exact List.getElem?_eq_getElem hkl
                  obtain ⟨b', off', kv', hab', hbl', g0, g1, g2, g3, hkx⟩ := HAA.out.get hxk
                  first | (injection hab' with hab'; injection hab' with hab1 hab2 _; subst hab1 hab2) | subst hab'
                  have g0 := cellB HBR.out g0; have g1 := cellB HBR.out g1; have g2 := cellB HBR.out g2; have g3 := cellB HBR.out g3
                  obtain ⟨ka, kc, hkf⟩ := hkx.form
                  obtain ⟨kl, hkl2⟩ : ∃ l, l = x.kids.length := ⟨_, rfl⟩
                  rw [← hkl2] at hkf
                  subst hkf
                  obtain ⟨q, hqx⟩ : ∃ q, q = exVal isNB x := ⟨_, rfl⟩
                  have HC : Hid (∀ w', Below w.heap.size w w' → Calls Tryz.prog 179 #[.agg #[.int .i64 x.op, .int .i64 x.n, .string x.name, .slice ka kl kc]] w' (BoolP q w')) := Lib.hid (fun w' hb =>
                    exprValid_any w' x _ q (HK.out.below hb) (HWA.out x (List.mem_of_getElem? hxk)) (HAA.out.lens.2 k x hxk) (hkx.dn hb) hqx)
                  have HT := Lib.hid (all_take (exVal isNB) args k x hxk)
                  have HFF := Lib.hid (fun h => all_false (exVal isNB) (List.mem_of_getElem? hxk) h)
                  rw [← hqx] at HT HFF
                  have k0 : (0 : Int) ≤ k := by omega
                  have k1 : (k : Int) < al := by omega
                  clear hkl hx hxk hkx hkl2 hqx
                  go_wp2_with (fail)
                  go_at_call 179
                  refine (HC.out _ (HBR.out.trans ((below1 _ _).mono HBR.out.size))).mono ?_
                  rintro e w2 ⟨rfl, hb⟩
                  have hbr2 : Below wr.heap.size wr w2 := (below1 _ _).trans (hb.mono (by simp))
                  have HB2 : Hid (Below w.heap.size w w2) := Lib.hid (HBR.out.trans (hbr2.mono HBR.out.size))
                  have HBX2 := Lib.hid (And.intro HB2.out (And.intro (cellB hbr2 HBX.out.2.1) (And.intro (cellB hbr2 HBX.out.2.2.1) (Nat.lt_of_lt_of_le HBX.out.2.2.2 hbr2.size))))
                  clear hb hbr2
                  cases q
                  · go_wp2_with (fail)
                    go_ret
                    exact ⟨by rw [HRR.out, HFF.out (by first | rfl | trivial)]; rfl, HB2.out⟩
                  · go_wp2_with (fail)
                    go_roundw
                    case rel => exact ⟨k + 1, by omega, by go_num, Lib.hid (by rw [HT.out, hA.out]; rfl), HBX2⟩
                    case measure => simp [intOf]; omega
                · have hke : k = al := by omega
                  have HAX : Hid (args.all (exVal isNB) = true) := Lib.hid (by have := hA.out; rw [hke, HAL.out, List.take_length] at this; exact this)
                  obtain ⟨qb, hqb⟩ : ∃ q, q = body.all (stOk isNB d) := ⟨_, rfl⟩
                  obtain ⟨qe, hqe⟩ : ∃ q, q = els.all (stOk isNB d) := ⟨_, rfl⟩
                  have HC1 := Lib.hid (fun w' (hb : Below w.heap.size w w') => HBLK.out body w' _ (HK.out.below hb) HWB.out (HBB.out.dn hb))
                  have HC2 := Lib.hid (fun w' (hb : Below w.heap.size w w') => HBLK.out els w' _ (HK.out.below hb) HWE.out (HEE.out.dn hb))
                  have HRE := HRR
                  rw [HAX.out, Bool.true_and, ← hqb, ← hqe] at HRE
                  rw [← hqb] at HC1
                  rw [← hqe] at HC2
                  have c3 := HBX.out.2.1
                  have c4 := HBX.out.2.2.1
                  clear hqb hqe hke
                  go_wp2_with (fail)
                  go_at_call 136
                  refine (HC1.out _ HBR.out).mono ?_
                  rintro e w2 ⟨rfl, hb⟩
                  have HB2 := Lib.hid (HBR.out.trans (hb.mono HBR.out.size))
                  have c4 := cellB hb c4
                  clear hb c3
                  cases qb
                  · go_wp2_with (fail)
                    go_ret
                    exact ⟨by rw [HRE.out]; rfl, HB2.out⟩
                  · go_wp2_with (fail)
                    go_at_call 136
                    refine (HC2.out _ HB2.out).mono ?_
                    rintro e w3 ⟨rfl, hb⟩
                    have HB3 := Lib.hid (HB2.out.trans (hb.mono HB2.out.size))
                    clear hb
                    go_wp2_with (fail)
                    go_ret
                    exact ⟨by rw [HRE.out]; simp, HB3.out⟩



    · go_wp2_with (fail)
      go_at_call 133
      refine (HNAME.out _ HB1.out p3 H3.out).mono ?_
      rintro e wn ⟨rfl, hbn⟩
      obtain ⟨c0, c1, c2, c3, c4, hln, hbw⟩ := box5 hbn
      have HBZ := Lib.hid hbw
      have HBX3 := Lib.hid (And.intro c3 (And.intro c4 hln))
      clear hbn hbw
      rw [if_pos trivial] at HR
      cases p3
      · go_wp2_with (fail)
        go_ret
        exact ⟨by rw [HR.out]; rfl, HBZ.out⟩
      · rw [Bool.true_and] at HR
        cases bd
        · by_cases hb0 : bl = 0
          · subst hb0
            cases ot
            · by_cases he0 : el = 0
              · subst he0
                by_cases o8 : op = 8
                · have hal1 := H8.out o8
                  have hal2 : al = 1 := by omega
                  subst o8 hal2
                  obtain ⟨x, hx⟩ : ∃ x, args[0]? = some x := ⟨_, List.getElem?_eq_getElem (by rw [← HAL.out]; omega)⟩
                  obtain ⟨b, off, kv, rfl, hbl, e0, e1, e2, e3, hkx⟩ := HAA.out.get hx
                  have e0 := cellB HBZ.out e0
                  rw [Nat.zero_mul, Nat.add_zero] at e0
                  have HAO : Hid (argOp args = x.op) := Lib.hid (by unfold argOp; rw [List.getD_eq_getElem?_getD, hx]; rfl)
                  clear hx hkx e1 e2 e3 hal1
                  by_cases o13 : x.op = 13
                  · have o13b : (x.op != 13) = false := by rw [o13]; rfl
                    rw [HAO.out, show ((8 : Int) == 8) = true from rfl, eqI o13] at HR
                    have HRR : Hid (r = (args.all (exVal isNB) && body.all (stOk isNB d) && els.all (stOk isNB d))) := Lib.hid (by rw [HR.out]; simp)
                    go_wp2_with (fail)
                    go_loopw [71] (fun i wr => ∃ k : Nat, k ≤ 1 ∧ i = .int .i64 (k : Int) ∧ Hid ((args.take k).all (exVal isNB) = true) ∧ Hid (Below w.heap.size w wr ∧ wr.cell? ⟨w.heap.size, 3, none⟩ = some (.slice ba 0 bc) ∧ wr.cell? ⟨w.heap.size, 4, none⟩ = some (.slice ea 0 ec) ∧ w.heap.size < wr.heap.size)) (fun i _ => 1 - (intOf i).toNat)
                    case atStart => exact ⟨0, Nat.zero_le _, rfl, Lib.hid rfl, Lib.hid ⟨HBZ.out, HBX3.out⟩⟩
                    case round =>
                      obtain ⟨k, hk, rfl, hA, HBX⟩ := hrel
                      have HBR := Lib.hid HBX.out.1
                      by_cases hlt : k < 1
                      · have hkl : k < args.length := by rw [← HAL.out]; exact hlt
                        obtain ⟨x, hx⟩ : ∃ x, x = args[k] := ⟨_, rfl⟩
                        have hxk : args[k]? = some x := by rw [hx]; exact List.getElem?_eq_getElem hkl
                        obtain ⟨b', off', kv', hab', hbl', g0, g1, g2, g3, hkx⟩ := HAA.out.get hxk
                        first | (injection hab' with hab'; injection hab' with hab1 hab2 _; subst hab1 hab2) | subst hab'
                        have g0 := cellB HBR.out g0; have g1 := cellB HBR.out g1; have g2 := cellB HBR.out g2; have g3 := cellB HBR.out g3
                        obtain ⟨ka, kc, hkf⟩ := hkx.form
                        obtain ⟨kl, hkl2⟩ : ∃ l, l = x.kids.length := ⟨_, rfl⟩
                        rw [← hkl2] at hkf
                        subst hkf
                        obtain ⟨q, hqx⟩ : ∃ q, q = exVal isNB x := ⟨_, rfl⟩
                        have HC : Hid (∀ w', Below w.heap.size w w' → Calls Tryz.prog 179 #[.agg #[.int .i64 x.op, .int .i64 x.n, .string x.name, .slice ka kl kc]] w' (BoolP q w')) := Lib.hid (fun w' hb =>
                          exprValid_any w' x _ q (HK.out.below hb) (HWA.out x (List.mem_of_getElem? hxk)) (HAA.out.lens.2 k x hxk) (hkx.dn hb) hqx)
                        have HT := Lib.hid (all_take (exVal isNB) args k x hxk)
                        have HFF := Lib.hid (fun h => all_false (exVal isNB) (List.mem_of_getElem? hxk) h)
                        rw [← hqx] at HT HFF
                        have k0 : (0 : Int) ≤ k := by omega
                        have k1 : (k : Int) < 1 := by omega
                        clear hkl hx hxk hkx hkl2 hqx
                        go_wp2_with (fail)
                        go_at_call 179
                        refine (HC.out _ (HBR.out.trans ((below1 _ _).mono HBR.out.size))).mono ?_
                        rintro e w2 ⟨rfl, hb⟩
                        have hbr2 : Below wr.heap.size wr w2 := (below1 _ _).trans (hb.mono (by simp))
                        have HB2 : Hid (Below w.heap.size w w2) := Lib.hid (HBR.out.trans (hbr2.mono HBR.out.size))
                        have HBX2 := Lib.hid (And.intro HB2.out (And.intro (cellB hbr2 HBX.out.2.1) (And.intro (cellB hbr2 HBX.out.2.2.1) (Nat.lt_of_lt_of_le HBX.out.2.2.2 hbr2.size))))
                        clear hb hbr2
                        cases q
                        · go_wp2_with (fail)
                          go_ret
                          exact ⟨by rw [HRR.out, HFF.out (by first | rfl | trivial)]; rfl, HB2.out⟩
                        · go_wp2_with (fail)
                          go_roundw
                          case rel => exact ⟨k + 1, by omega, by go_num, Lib.hid (by rw [HT.out, hA.out]; rfl), HBX2⟩
                          case measure => simp [intOf]; omega
                      · have hke : k = 1 := by omega
                        have HAX : Hid (args.all (exVal isNB) = true) := Lib.hid (by have := hA.out; rw [hke, HAL.out, List.take_length] at this; exact this)
                        obtain ⟨qb, hqb⟩ : ∃ q, q = body.all (stOk isNB d) := ⟨_, rfl⟩
                        obtain ⟨qe, hqe⟩ : ∃ q, q = els.all (stOk isNB d) := ⟨_, rfl⟩
                        have HC1 := Lib.hid (fun w' (hb : Below w.heap.size w w') => HBLK.out body w' _ (HK.out.below hb) HWB.out (HBB.out.dn hb))
                        have HC2 := Lib.hid (fun w' (hb : Below w.heap.size w w') => HBLK.out els w' _ (HK.out.below hb) HWE.out (HEE.out.dn hb))
                        have HRE := HRR
                        rw [HAX.out, Bool.true_and, ← hqb, ← hqe] at HRE
                        rw [← hqb] at HC1
                        rw [← hqe] at HC2
                        have c3 := HBX.out.2.1
                        have c4 := HBX.out.2.2.1
                        clear hqb hqe hke
                        go_wp2_with (fail)
                        go_at_call 136
                        refine (HC1.out _ HBR.out).mono ?_
                        rintro e w2 ⟨rfl, hb⟩
                        have HB2 := Lib.hid (HBR.out.trans (hb.mono HBR.out.size))
                        have c4 := cellB hb c4
                        clear hb c3
                        cases qb
                        · go_wp2_with (fail)
                          go_ret
                          exact ⟨by rw [HRE.out]; rfl, HB2.out⟩
                        · go_wp2_with (fail)
                          go_at_call 136
                          refine (HC2.out _ HB2.out).mono ?_
                          rintro e w3 ⟨rfl, hb⟩
                          have HB3 := Lib.hid (HB2.out.trans (hb.mono HB2.out.size))
                          clear hb
                          go_wp2_with (fail)
                          go_ret
                          exact ⟨by rw [HRE.out]; simp, HB3.out⟩

                  · have o13b : (x.op != 13) = true := by simpa using o13
                    rw [HAO.out, show ((8 : Int) == 8) = true from rfl, neI o13] at HR
                    go_wp2_with (fail)
                    go_ret
                    exact ⟨by rw [HR.out]; simp, HBZ.out⟩
                · have o8 := neI o8
                  rw [o8] at HR
                  have HRR : Hid (r = (args.all (exVal isNB) && body.all (stOk isNB d) && els.all (stOk isNB d))) := Lib.hid (by rw [HR.out]; simp)
                  go_wp2_with (fail)
                  go_loopw [71] (fun i wr => ∃ k : Nat, k ≤ al ∧ i = .int .i64 (k : Int) ∧ Hid ((args.take k).all (exVal isNB) = true) ∧ Hid (Below w.heap.size w wr ∧ wr.cell? ⟨w.heap.size, 3, none⟩ = some (.slice ba 0 bc) ∧ wr.cell? ⟨w.heap.size, 4, none⟩ = some (.slice ea 0 ec) ∧ w.heap.size < wr.heap.size)) (fun i _ => al - (intOf i).toNat)
                  case atStart => exact ⟨0, Nat.zero_le _, rfl, Lib.hid rfl, Lib.hid ⟨HBZ.out, HBX3.out⟩⟩
                  case round =>
                    obtain ⟨k, hk, rfl, hA, HBX⟩ := hrel
                    have HBR := Lib.hid HBX.out.1
                    by_cases hlt : k < al
                    · have hkl : k < args.length := by rw [← HAL.out]; exact hlt
                      obtain ⟨x, hx⟩ : ∃ x, x = args[k] := ⟨_, rfl⟩
                      have hxk : args[k]? = some x := by rw [hx]; exact List.getElem?_eq_getElem hkl
                      obtain ⟨b', off', kv', hab', hbl', g0, g1, g2, g3, hkx⟩ := HAA.out.get hxk
                      first | (injection hab' with hab'; injection hab' with hab1 hab2 _; subst hab1 hab2) | subst hab'
                      have g0 := cellB HBR.out g0; have g1 := cellB HBR.out g1; have g2 := cellB HBR.out g2; have g3 := cellB HBR.out g3
                      obtain ⟨ka, kc, hkf⟩ := hkx.form
                      obtain ⟨kl, hkl2⟩ : ∃ l, l = x.kids.length := ⟨_, rfl⟩
                      rw [← hkl2] at hkf
                      subst hkf
                      obtain ⟨q, hqx⟩ : ∃ q, q = exVal isNB x := ⟨_, rfl⟩
                      have HC : Hid (∀ w', Below w.heap.size w w' → Calls Tryz.prog 179 #[.agg #[.int .i64 x.op, .int .i64 x.n, .string x.name, .slice ka kl kc]] w' (BoolP q w')) := Lib.hid (fun w' hb =>
                        exprValid_any w' x _ q (HK.out.below hb) (HWA.out x (List.mem_of_getElem? hxk)) (HAA.out.lens.2 k x hxk) (hkx.dn hb) hqx)
                      have HT := Lib.hid (all_take (exVal isNB) args k x hxk)
                      have HFF := Lib.hid (fun h => all_false (exVal isNB) (List.mem_of_getElem? hxk) h)
                      rw [← hqx] at HT HFF
                      have k0 : (0 : Int) ≤ k := by omega
                      have k1 : (k : Int) < al := by omega
                      clear hkl hx hxk hkx hkl2 hqx
                      go_wp2_with (fail)
                      go_at_call 179
                      refine (HC.out _ (HBR.out.trans ((below1 _ _).mono HBR.out.size))).mono ?_
                      rintro e w2 ⟨rfl, hb⟩
                      have hbr2 : Below wr.heap.size wr w2 := (below1 _ _).trans (hb.mono (by simp))
                      have HB2 : Hid (Below w.heap.size w w2) := Lib.hid (HBR.out.trans (hbr2.mono HBR.out.size))
                      have HBX2 := Lib.hid (And.intro HB2.out (And.intro (cellB hbr2 HBX.out.2.1) (And.intro (cellB hbr2 HBX.out.2.2.1) (Nat.lt_of_lt_of_le HBX.out.2.2.2 hbr2.size))))
                      clear hb hbr2
                      cases q
                      · go_wp2_with (fail)
                        go_ret
                        exact ⟨by rw [HRR.out, HFF.out (by first | rfl | trivial)]; rfl, HB2.out⟩
                      · go_wp2_with (fail)
                        go_roundw
                        case rel => exact ⟨k + 1, by omega, by go_num, Lib.hid (by rw [HT.out, hA.out]; rfl), HBX2⟩
                        case measure => simp [intOf]; omega
                    · have hke : k = al := by omega
                      have HAX : Hid (args.all (exVal isNB) = true) := Lib.hid (by have := hA.out; rw [hke, HAL.out, List.take_length] at this; exact this)
                      obtain ⟨qb, hqb⟩ : ∃ q, q = body.all (stOk isNB d) := ⟨_, rfl⟩
                      obtain ⟨qe, hqe⟩ : ∃ q, q = els.all (stOk isNB d) := ⟨_, rfl⟩
                      have HC1 := Lib.hid (fun w' (hb : Below w.heap.size w w') => HBLK.out body w' _ (HK.out.below hb) HWB.out (HBB.out.dn hb))
                      have HC2 := Lib.hid (fun w' (hb : Below w.heap.size w w') => HBLK.out els w' _ (HK.out.below hb) HWE.out (HEE.out.dn hb))
                      have HRE := HRR
                      rw [HAX.out, Bool.true_and, ← hqb, ← hqe] at HRE
                      rw [← hqb] at HC1
                      rw [← hqe] at HC2
                      have c3 := HBX.out.2.1
                      have c4 := HBX.out.2.2.1
                      clear hqb hqe hke
                      go_wp2_with (fail)
                      go_at_call 136
                      refine (HC1.out _ HBR.out).mono ?_
                      rintro e w2 ⟨rfl, hb⟩
                      have HB2 := Lib.hid (HBR.out.trans (hb.mono HBR.out.size))
                      have c4 := cellB hb c4
                      clear hb c3
                      cases qb
                      · go_wp2_with (fail)
                        go_ret
                        exact ⟨by rw [HRE.out]; rfl, HB2.out⟩
                      · go_wp2_with (fail)
                        go_at_call 136
                        refine (HC2.out _ HB2.out).mono ?_
                        rintro e w3 ⟨rfl, hb⟩
                        have HB3 := Lib.hid (HB2.out.trans (hb.mono HB2.out.size))
                        clear hb
                        go_wp2_with (fail)
                        go_ret
                        exact ⟨by rw [HRE.out]; simp, HB3.out⟩


              · have he1 : (0 : Int) < el := by omega
                rw [decide_eq_false he0] at HR
                go_wp2_with (fail)
                go_ret
                exact ⟨by rw [HR.out]; (try rfl); (try simp), HBZ.out⟩
            · clear heb
              by_cases o8 : op = 8
              · have hal1 := H8.out o8
                have hal2 : al = 1 := by omega
                subst o8 hal2
                obtain ⟨x, hx⟩ : ∃ x, args[0]? = some x := ⟨_, List.getElem?_eq_getElem (by rw [← HAL.out]; omega)⟩
                obtain ⟨b, off, kv, rfl, hbl, e0, e1, e2, e3, hkx⟩ := HAA.out.get hx
                have e0 := cellB HBZ.out e0
                rw [Nat.zero_mul, Nat.add_zero] at e0
                have HAO : Hid (argOp args = x.op) := Lib.hid (by unfold argOp; rw [List.getD_eq_getElem?_getD, hx]; rfl)
                clear hx hkx e1 e2 e3 hal1
                by_cases o13 : x.op = 13
                · have o13b : (x.op != 13) = false := by rw [o13]; rfl
                  rw [HAO.out, show ((8 : Int) == 8) = true from rfl, eqI o13] at HR
                  have HRR : Hid (r = (args.all (exVal isNB) && body.all (stOk isNB d) && els.all (stOk isNB d))) := Lib.hid (by rw [HR.out]; simp)
                  go_wp2_with (fail)
                  go_loopw [71] (fun i wr => ∃ k : Nat, k ≤ 1 ∧ i = .int .i64 (k : Int) ∧ Hid ((args.take k).all (exVal isNB) = true) ∧ Hid (Below w.heap.size w wr ∧ wr.cell? ⟨w.heap.size, 3, none⟩ = some (.slice ba 0 bc) ∧ wr.cell? ⟨w.heap.size, 4, none⟩ = some (.slice ea el ec) ∧ w.heap.size < wr.heap.size)) (fun i _ => 1 - (intOf i).toNat)
                  case atStart => exact ⟨0, Nat.zero_le _, rfl, Lib.hid rfl, Lib.hid ⟨HBZ.out, HBX3.out⟩⟩
                  case round =>
                    obtain ⟨k, hk, rfl, hA, HBX⟩ := hrel
                    have HBR := Lib.hid HBX.out.1
                    by_cases hlt : k < 1
                    · have hkl : k < args.length := by rw [← HAL.out]; exact hlt
                      obtain ⟨x, hx⟩ : ∃ x, x = args[k] := ⟨_, rfl⟩
                      have hxk : args[k]? = some x := by rw [hx]; exact List.getElem?_eq_getElem hkl
                      obtain ⟨b', off', kv', hab', hbl', g0, g1, g2, g3, hkx⟩ := HAA.out.get hxk
                      first | (injection hab' with hab'; injection hab' with hab1 hab2 _; subst hab1 hab2) | subst hab'
                      have g0 := cellB HBR.out g0; have g1 := cellB HBR.out g1; have g2 := cellB HBR.out g2; have g3 := cellB HBR.out g3
                      obtain ⟨ka, kc, hkf⟩ := hkx.form
                      obtain ⟨kl, hkl2⟩ : ∃ l, l = x.kids.length := ⟨_, rfl⟩
                      rw [← hkl2] at hkf
                      subst hkf
                      obtain ⟨q, hqx⟩ : ∃ q, q = exVal isNB x := ⟨_, rfl⟩
                      have HC : Hid (∀ w', Below w.heap.size w w' → Calls Tryz.prog 179 #[.agg #[.int .i64 x.op, .int .i64 x.n, .string x.name, .slice ka kl kc]] w' (BoolP q w')) := Lib.hid (fun w' hb =>
                        exprValid_any w' x _ q (HK.out.below hb) (HWA.out x (List.mem_of_getElem? hxk)) (HAA.out.lens.2 k x hxk) (hkx.dn hb) hqx)
                      have HT := Lib.hid (all_take (exVal isNB) args k x hxk)
                      have HFF := Lib.hid (fun h => all_false (exVal isNB) (List.mem_of_getElem? hxk) h)
                      rw [← hqx] at HT HFF
                      have k0 : (0 : Int) ≤ k := by omega
                      have k1 : (k : Int) < 1 := by omega
                      clear hkl hx hxk hkx hkl2 hqx
                      go_wp2_with (fail)
                      go_at_call 179
                      refine (HC.out _ (HBR.out.trans ((below1 _ _).mono HBR.out.size))).mono ?_
                      rintro e w2 ⟨rfl, hb⟩
                      have hbr2 : Below wr.heap.size wr w2 := (below1 _ _).trans (hb.mono (by simp))
                      have HB2 : Hid (Below w.heap.size w w2) := Lib.hid (HBR.out.trans (hbr2.mono HBR.out.size))
                      have HBX2 := Lib.hid (And.intro HB2.out (And.intro (cellB hbr2 HBX.out.2.1) (And.intro (cellB hbr2 HBX.out.2.2.1) (Nat.lt_of_lt_of_le HBX.out.2.2.2 hbr2.size))))
                      clear hb hbr2
                      cases q
                      · go_wp2_with (fail)
                        go_ret
                        exact ⟨by rw [HRR.out, HFF.out (by first | rfl | trivial)]; rfl, HB2.out⟩
                      · go_wp2_with (fail)
                        go_roundw
                        case rel => exact ⟨k + 1, by omega, by go_num, Lib.hid (by rw [HT.out, hA.out]; rfl), HBX2⟩
                        case measure => simp [intOf]; omega
                    · have hke : k = 1 := by omega
                      have HAX : Hid (args.all (exVal isNB) = true) := Lib.hid (by have := hA.out; rw [hke, HAL.out, List.take_length] at this; exact this)
                      obtain ⟨qb, hqb⟩ : ∃ q, q = body.all (stOk isNB d) := ⟨_, rfl⟩
                      obtain ⟨qe, hqe⟩ : ∃ q, q = els.all (stOk isNB d) := ⟨_, rfl⟩
                      have HC1 := Lib.hid (fun w' (hb : Below w.heap.size w w') => HBLK.out body w' _ (HK.out.below hb) HWB.out (HBB.out.dn hb))
                      have HC2 := Lib.hid (fun w' (hb : Below w.heap.size w w') => HBLK.out els w' _ (HK.out.below hb) HWE.out (HEE.out.dn hb))
                      have HRE := HRR
                      rw [HAX.out, Bool.true_and, ← hqb, ← hqe] at HRE
                      rw [← hqb] at HC1
                      rw [← hqe] at HC2
                      have c3 := HBX.out.2.1
                      have c4 := HBX.out.2.2.1
                      clear hqb hqe hke
                      go_wp2_with (fail)
                      go_at_call 136
                      refine (HC1.out _ HBR.out).mono ?_
                      rintro e w2 ⟨rfl, hb⟩
                      have HB2 := Lib.hid (HBR.out.trans (hb.mono HBR.out.size))
                      have c4 := cellB hb c4
                      clear hb c3
                      cases qb
                      · go_wp2_with (fail)
                        go_ret
                        exact ⟨by rw [HRE.out]; rfl, HB2.out⟩
                      · go_wp2_with (fail)
                        go_at_call 136
                        refine (HC2.out _ HB2.out).mono ?_
                        rintro e w3 ⟨rfl, hb⟩
                        have HB3 := Lib.hid (HB2.out.trans (hb.mono HB2.out.size))
                        clear hb
                        go_wp2_with (fail)
                        go_ret
                        exact ⟨by rw [HRE.out]; simp, HB3.out⟩

                · have o13b : (x.op != 13) = true := by simpa using o13
                  rw [HAO.out, show ((8 : Int) == 8) = true from rfl, neI o13] at HR
                  go_wp2_with (fail)
                  go_ret
                  exact ⟨by rw [HR.out]; simp, HBZ.out⟩
              · have o8 := neI o8
                rw [o8] at HR
                have HRR : Hid (r = (args.all (exVal isNB) && body.all (stOk isNB d) && els.all (stOk isNB d))) := Lib.hid (by rw [HR.out]; simp)
                go_wp2_with (fail)
                go_loopw [71] (fun i wr => ∃ k : Nat, k ≤ al ∧ i = .int .i64 (k : Int) ∧ Hid ((args.take k).all (exVal isNB) = true) ∧ Hid (Below w.heap.size w wr ∧ wr.cell? ⟨w.heap.size, 3, none⟩ = some (.slice ba 0 bc) ∧ wr.cell? ⟨w.heap.size, 4, none⟩ = some (.slice ea el ec) ∧ w.heap.size < wr.heap.size)) (fun i _ => al - (intOf i).toNat)
                case atStart => exact ⟨0, Nat.zero_le _, rfl, Lib.hid rfl, Lib.hid ⟨HBZ.out, HBX3.out⟩⟩
                case round =>
                  obtain ⟨k, hk, rfl, hA, HBX⟩ := hrel
                  have HBR := Lib.hid HBX.out.1
                  by_cases hlt : k < al
                  · have hkl : k < args.length := by rw [← HAL.out]; exact hlt
                    obtain ⟨x, hx⟩ : ∃ x, x = args[k] := ⟨_, rfl⟩
                    have hxk : args[k]? = some x := by rw [hx]; exact List.getElem?_eq_getElem hkl
                    obtain ⟨b', off', kv', hab', hbl', g0, g1, g2, g3, hkx⟩ := HAA.out.get hxk
                    first | (injection hab' with hab'; injection hab' with hab1 hab2 _; subst hab1 hab2) | subst hab'
                    have g0 := cellB HBR.out g0; have g1 := cellB HBR.out g1; have g2 := cellB HBR.out g2; have g3 := cellB HBR.out g3
                    obtain ⟨ka, kc, hkf⟩ := hkx.form
                    obtain ⟨kl, hkl2⟩ : ∃ l, l = x.kids.length := ⟨_, rfl⟩
                    rw [← hkl2] at hkf
                    subst hkf
                    obtain ⟨q, hqx⟩ : ∃ q, q = exVal isNB x := ⟨_, rfl⟩
                    have HC : Hid (∀ w', Below w.heap.size w w' → Calls Tryz.prog 179 #[.agg #[.int .i64 x.op, .int .i64 x.n, .string x.name, .slice ka kl kc]] w' (BoolP q w')) := Lib.hid (fun w' hb =>
                      exprValid_any w' x _ q (HK.out.below hb) (HWA.out x (List.mem_of_getElem? hxk)) (HAA.out.lens.2 k x hxk) (hkx.dn hb) hqx)
                    have HT := Lib.hid (all_take (exVal isNB) args k x hxk)
                    have HFF := Lib.hid (fun h => all_false (exVal isNB) (List.mem_of_getElem? hxk) h)
                    rw [← hqx] at HT HFF
                    have k0 : (0 : Int) ≤ k := by omega
                    have k1 : (k : Int) < al := by omega
                    clear hkl hx hxk hkx hkl2 hqx
                    go_wp2_with (fail)
                    go_at_call 179
                    refine (HC.out _ (HBR.out.trans ((below1 _ _).mono HBR.out.size))).mono ?_
                    rintro e w2 ⟨rfl, hb⟩
                    have hbr2 : Below wr.heap.size wr w2 := (below1 _ _).trans (hb.mono (by simp))
                    have HB2 : Hid (Below w.heap.size w w2) := Lib.hid (HBR.out.trans (hbr2.mono HBR.out.size))
                    have HBX2 := Lib.hid (And.intro HB2.out (And.intro (cellB hbr2 HBX.out.2.1) (And.intro (cellB hbr2 HBX.out.2.2.1) (Nat.lt_of_lt_of_le HBX.out.2.2.2 hbr2.size))))
                    clear hb hbr2
                    cases q
                    · go_wp2_with (fail)
                      go_ret
                      exact ⟨by rw [HRR.out, HFF.out (by first | rfl | trivial)]; rfl, HB2.out⟩
                    · go_wp2_with (fail)
                      go_roundw
                      case rel => exact ⟨k + 1, by omega, by go_num, Lib.hid (by rw [HT.out, hA.out]; rfl), HBX2⟩
                      case measure => simp [intOf]; omega
                  · have hke : k = al := by omega
                    have HAX : Hid (args.all (exVal isNB) = true) := Lib.hid (by have := hA.out; rw [hke, HAL.out, List.take_length] at this; exact this)
                    obtain ⟨qb, hqb⟩ : ∃ q, q = body.all (stOk isNB d) := ⟨_, rfl⟩
                    obtain ⟨qe, hqe⟩ : ∃ q, q = els.all (stOk isNB d) := ⟨_, rfl⟩
                    have HC1 := Lib.hid (fun w' (hb : Below w.heap.size w w') => HBLK.out body w' _ (HK.out.below hb) HWB.out (HBB.out.dn hb))
                    have HC2 := Lib.hid (fun w' (hb : Below w.heap.size w w') => HBLK.out els w' _ (HK.out.below hb) HWE.out (HEE.out.dn hb))
                    have HRE := HRR
                    rw [HAX.out, Bool.true_and, ← hqb, ← hqe] at HRE
                    rw [← hqb] at HC1
                    rw [← hqe] at HC2
                    have c3 := HBX.out.2.1
                    have c4 := HBX.out.2.2.1
                    clear hqb hqe hke
                    go_wp2_with (fail)
                    go_at_call 136
                    refine (HC1.out _ HBR.out).mono ?_
                    rintro e w2 ⟨rfl, hb⟩
                    have HB2 := Lib.hid (HBR.out.trans (hb.mono HBR.out.size))
                    have c4 := cellB hb c4
                    clear hb c3
                    cases qb
                    · go_wp2_with (fail)
                      go_ret
                      exact ⟨by rw [HRE.out]; rfl, HB2.out⟩
                    · go_wp2_with (fail)
                      go_at_call 136
                      refine (HC2.out _ HB2.out).mono ?_
                      rintro e w3 ⟨rfl, hb⟩
                      have HB3 := Lib.hid (HB2.out.trans (hb.mono HB2.out.size))
                      clear hb
                      go_wp2_with (fail)
                      go_ret
                      exact ⟨by rw [HRE.out]; simp, HB3.out⟩



          · have hb1 : (0 : Int) < bl := by omega
            rw [decide_eq_false hb0] at HR
            go_wp2_with (fail)
            go_ret
            exact ⟨by rw [HR.out]; rfl, HBZ.out⟩
        · clear hbb
          cases ot
          · by_cases he0 : el = 0
            · subst he0
              by_cases o8 : op = 8
              · have hal1 := H8.out o8
                have hal2 : al = 1 := by omega
                subst o8 hal2
                obtain ⟨x, hx⟩ : ∃ x, args[0]? = some x := ⟨_, List.getElem?_eq_getElem (by rw [← HAL.out]; omega)⟩
                obtain ⟨b, off, kv, rfl, hbl, e0, e1, e2, e3, hkx⟩ := HAA.out.get hx
                have e0 := cellB HBZ.out e0
                rw [Nat.zero_mul, Nat.add_zero] at e0
                have HAO : Hid (argOp args = x.op) := Lib.hid (by unfold argOp; rw [List.getD_eq_getElem?_getD, hx]; rfl)
                clear hx hkx e1 e2 e3 hal1
                by_cases o13 : x.op = 13
                · have o13b : (x.op != 13) = false := by rw [o13]; rfl
                  rw [HAO.out, show ((8 : Int) == 8) = true from rfl, eqI o13] at HR
                  have HRR : Hid (r = (args.all (exVal isNB) && body.all (stOk isNB d) && els.all (stOk isNB d))) := Lib.hid (by rw [HR.out]; simp)
                  go_wp2_with (fail)
                  go_loopw [71] (fun i wr => ∃ k : Nat, k ≤ 1 ∧ i = .int .i64 (k : Int) ∧ Hid ((args.take k).all (exVal isNB) = true) ∧ Hid (Below w.heap.size w wr ∧ wr.cell? ⟨w.heap.size, 3, none⟩ = some (.slice ba bl bc) ∧ wr.cell? ⟨w.heap.size, 4, none⟩ = some (.slice ea 0 ec) ∧ w.heap.size < wr.heap.size)) (fun i _ => 1 - (intOf i).toNat)
                  case atStart => exact ⟨0, Nat.zero_le _, rfl, Lib.hid rfl, Lib.hid ⟨HBZ.out, HBX3.out⟩⟩
                  case round =>
                    obtain ⟨k, hk, rfl, hA, HBX⟩ := hrel
                    have HBR := Lib.hid HBX.out.1
                    by_cases hlt : k < 1
                    · have hkl : k < args.length := by rw [← HAL.out]; exact hlt
                      obtain ⟨x, hx⟩ : ∃ x, x = args[k] := ⟨_, rfl⟩
                      have hxk : args[k]? = some x := by rw [hx]; exact List.getElem?_eq_getElem hkl
                      obtain ⟨b', off', kv', hab', hbl', g0, g1, g2, g3, hkx⟩ := HAA.out.get hxk
                      first | (injection hab' with hab'; injection hab' with hab1 hab2 _; subst hab1 hab2) | subst hab'
                      have g0 := cellB HBR.out g0; have g1 := cellB HBR.out g1; have g2 := cellB HBR.out g2; have g3 := cellB HBR.out g3
                      obtain ⟨ka, kc, hkf⟩ := hkx.form
                      obtain ⟨kl, hkl2⟩ : ∃ l, l = x.kids.length := ⟨_, rfl⟩
                      rw [← hkl2] at hkf
                      subst hkf
                      obtain ⟨q, hqx⟩ : ∃ q, q = exVal isNB x := ⟨_, rfl⟩
                      have HC : Hid (∀ w', Below w.heap.size w w' → Calls Tryz.prog 179 #[.agg #[.int .i64 x.op, .int .i64 x.n, .string x.name, .slice ka kl kc]] w' (BoolP q w')) := Lib.hid (fun w' hb =>
                        exprValid_any w' x _ q (HK.out.below hb) (HWA.out x (List.mem_of_getElem? hxk)) (HAA.out.lens.2 k x hxk) (hkx.dn hb) hqx)
                      have HT := Lib.hid (all_take (exVal isNB) args k x hxk)
                      have HFF := Lib.hid (fun h => all_false (exVal isNB) (List.mem_of_getElem? hxk) h)
                      rw [← hqx] at HT HFF
                      have k0 : (0 : Int) ≤ k := by omega
                      have k1 : (k : Int) < 1 := by omega
                      clear hkl hx hxk hkx hkl2 hqx
                      go_wp2_with (fail)
                      go_at_call 179
                      refine (HC.out _ (HBR.out.trans ((below1 _ _).mono HBR.out.size))).mono ?_
                      rintro e w2 ⟨rfl, hb⟩
                      have hbr2 : Below wr.heap.size wr w2 := (below1 _ _).trans (hb.mono (by simp))
                      have HB2 : Hid (Below w.heap.size w w2) := Lib.hid (HBR.out.trans (hbr2.mono HBR.out.size))
                      have HBX2 := Lib.hid (And.intro HB2.out (And.intro (cellB hbr2 HBX.out.2.1) (And.intro (cellB hbr2 HBX.out.2.2.1) (Nat.lt_of_lt_of_le HBX.out.2.2.2 hbr2.size))))
                      clear hb hbr2
                      cases q
                      · go_wp2_with (fail)
                        go_ret
                        exact ⟨by rw [HRR.out, HFF.out (by first | rfl | trivial)]; rfl, HB2.out⟩
                      · go_wp2_with (fail)
                        go_roundw
                        case rel => exact ⟨k + 1, by omega, by go_num, Lib.hid (by rw [HT.out, hA.out]; rfl), HBX2⟩
                        case measure => simp [intOf]; omega
                    · have hke : k = 1 := by omega
                      have HAX : Hid (args.all (exVal isNB) = true) := Lib.hid (by have := hA.out; rw [hke, HAL.out, List.take_length] at this; exact this)
                      obtain ⟨qb, hqb⟩ : ∃ q, q = body.all (stOk isNB d) := ⟨_, rfl⟩
                      obtain ⟨qe, hqe⟩ : ∃ q, q = els.all (stOk isNB d) := ⟨_, rfl⟩
                      have HC1 := Lib.hid (fun w' (hb : Below w.heap.size w w') => HBLK.out body w' _ (HK.out.below hb) HWB.out (HBB.out.dn hb))
                      have HC2 := Lib.hid (fun w' (hb : Below w.heap.size w w') => HBLK.out els w' _ (HK.out.below hb) HWE.out (HEE.out.dn hb))
                      have HRE := HRR
                      rw [HAX.out, Bool.true_and, ← hqb, ← hqe] at HRE
                      rw [← hqb] at HC1
                      rw [← hqe] at HC2
                      have c3 := HBX.out.2.1
                      have c4 := HBX.out.2.2.1
                      clear hqb hqe hke
                      go_wp2_with (fail)
                      go_at_call 136
                      refine (HC1.out _ HBR.out).mono ?_
                      rintro e w2 ⟨rfl, hb⟩
                      have HB2 := Lib.hid (HBR.out.trans (hb.mono HBR.out.size))
                      have c4 := cellB hb c4
                      clear hb c3
                      cases qb
                      · go_wp2_with (fail)
                        go_ret
                        exact ⟨by rw [HRE.out]; rfl, HB2.out⟩
                      · go_wp2_with (fail)
                        go_at_call 136
                        refine (HC2.out _ HB2.out).mono ?_
                        rintro e w3 ⟨rfl, hb⟩
                        have HB3 := Lib.hid (HB2.out.trans (hb.mono HB2.out.size))
                        clear hb
                        go_wp2_with (fail)
                        go_ret
                        exact ⟨by rw [HRE.out]; simp, HB3.out⟩

                · have o13b : (x.op != 13) = true := by simpa using o13
                  rw [HAO.out, show ((8 : Int) == 8) = true from rfl, neI o13] at HR
                  go_wp2_with (fail)
                  go_ret
                  exact ⟨by rw [HR.out]; simp, HBZ.out⟩
              · have o8 := neI o8
                rw [o8] at HR
                have HRR : Hid (r = (args.all (exVal isNB) && body.all (stOk isNB d) && els.all (stOk isNB d))) := Lib.hid (by rw [HR.out]; simp)
                go_wp2_with (fail)
                go_loopw [71] (fun i wr => ∃ k : Nat, k ≤ al ∧ i = .int .i64 (k : Int) ∧ Hid ((args.take k).all (exVal isNB) = true) ∧ Hid (Below w.heap.size w wr ∧ wr.cell? ⟨w.heap.size, 3, none⟩ = some (.slice ba bl bc) ∧ wr.cell? ⟨w.heap.size, 4, none⟩ = some (.slice ea 0 ec) ∧ w.heap.size < wr.heap.size)) (fun i _ => al - (intOf i).toNat)
                case atStart => exact ⟨0, Nat.zero_le _, rfl, Lib.hid rfl, Lib.hid ⟨HBZ.out, HBX3.out⟩⟩
                case round =>
                  obtain ⟨k, hk, rfl, hA, HBX⟩ := hrel
                  have HBR := Lib.hid HBX.out.1
                  by_cases hlt : k < al
                  · have hkl : k < args.length := by rw [← HAL.out]; exact hlt
                    obtain ⟨x, hx⟩ : ∃ x, x = args[k] := ⟨_, rfl⟩
                    have hxk : args[k]? = some x := by rw [hx]; exact List.getElem?_eq_getElem hkl
                    obtain ⟨b', off', kv', hab', hbl', g0, g1, g2, g3, hkx⟩ := HAA.out.get hxk
                    first | (injection hab' with hab'; injection hab' with hab1 hab2 _; subst hab1 hab2) | subst hab'
                    have g0 := cellB HBR.out g0; have g1 := cellB HBR.out g1; have g2 := cellB HBR.out g2; have g3 := cellB HBR.out g3
                    obtain ⟨ka, kc, hkf⟩ := hkx.form
                    obtain ⟨kl, hkl2⟩ : ∃ l, l = x.kids.length := ⟨_, rfl⟩
                    rw [← hkl2] at hkf
                    subst hkf
                    obtain ⟨q, hqx⟩ : ∃ q, q = exVal isNB x := ⟨_, rfl⟩
                    have HC : Hid (∀ w', Below w.heap.size w w' → Calls Tryz.prog 179 #[.agg #[.int .i64 x.op, .int .i64 x.n, .string x.name, .slice ka kl kc]] w' (BoolP q w')) := Lib.hid (fun w' hb =>
                      exprValid_any w' x _ q (HK.out.below hb) (HWA.out x (List.mem_of_getElem? hxk)) (HAA.out.lens.2 k x hxk) (hkx.dn hb) hqx)
                    have HT := Lib.hid (all_take (exVal isNB) args k x hxk)
                    have HFF := Lib.hid (fun h => all_false (exVal isNB) (List.mem_of_getElem? hxk) h)
                    rw [← hqx] at HT HFF
                    have k0 : (0 : Int) ≤ k := by omega
                    have k1 : (k : Int) < al := by omega
                    clear hkl hx hxk hkx hkl2 hqx
                    go_wp2_with (fail)
                    go_at_call 179
                    refine (HC.out _ (HBR.out.trans ((below1 _ _).mono HBR.out.size))).mono ?_
                    rintro e w2 ⟨rfl, hb⟩
                    have hbr2 : Below wr.heap.size wr w2 := (below1 _ _).trans (hb.mono (by simp))
                    have HB2 : Hid (Below w.heap.size w w2) := Lib.hid (HBR.out.trans (hbr2.mono HBR.out.size))
                    have HBX2 := Lib.hid (And.intro HB2.out (And.intro (cellB hbr2 HBX.out.2.1) (And.intro (cellB hbr2 HBX.out.2.2.1) (Nat.lt_of_lt_of_le HBX.out.2.2.2 hbr2.size))))
                    clear hb hbr2
                    cases q
                    · go_wp2_with (fail)
                      go_ret
                      exact ⟨by rw [HRR.out, HFF.out (by first | rfl | trivial)]; rfl, HB2.out⟩
                    · go_wp2_with (fail)
                      go_roundw
                      case rel => exact ⟨k + 1, by omega, by go_num, Lib.hid (by rw [HT.out, hA.out]; rfl), HBX2⟩
                      case measure => simp [intOf]; omega
                  · have hke : k = al := by omega
                    have HAX : Hid (args.all (exVal isNB) = true) := Lib.hid (by have := hA.out; rw [hke, HAL.out, List.take_length] at this; exact this)
                    obtain ⟨qb, hqb⟩ : ∃ q, q = body.all (stOk isNB d) := ⟨_, rfl⟩
                    obtain ⟨qe, hqe⟩ : ∃ q, q = els.all (stOk isNB d) := ⟨_, rfl⟩
                    have HC1 := Lib.hid (fun w' (hb : Below w.heap.size w w') => HBLK.out body w' _ (HK.out.below hb) HWB.out (HBB.out.dn hb))
                    have HC2 := Lib.hid (fun w' (hb : Below w.heap.size w w') => HBLK.out els w' _ (HK.out.below hb) HWE.out (HEE.out.dn hb))
                    have HRE := HRR
                    rw [HAX.out, Bool.true_and, ← hqb, ← hqe] at HRE
                    rw [← hqb] at HC1
                    rw [← hqe] at HC2
                    have c3 := HBX.out.2.1
                    have c4 := HBX.out.2.2.1
                    clear hqb hqe hke
                    go_wp2_with (fail)
                    go_at_call 136
                    refine (HC1.out _ HBR.out).mono ?_
                    rintro e w2 ⟨rfl, hb⟩
                    have HB2 := Lib.hid (HBR.out.trans (hb.mono HBR.out.size))
                    have c4 := cellB hb c4
                    clear hb c3
                    cases qb
                    · go_wp2_with (fail)
                      go_ret
                      exact ⟨by rw [HRE.out]; rfl, HB2.out⟩
                    · go_wp2_with (fail)
                      go_at_call 136
                      refine (HC2.out _ HB2.out).mono ?_
                      rintro e w3 ⟨rfl, hb⟩
                      have HB3 := Lib.hid (HB2.out.trans (hb.mono HB2.out.size))
                      clear hb
                      go_wp2_with (fail)
                      go_ret
                      exact ⟨by rw [HRE.out]; simp, HB3.out⟩


            · have he1 : (0 : Int) < el := by omega
              rw [decide_eq_false he0] at HR
              go_wp2_with (fail)
              go_ret
              exact ⟨by rw [HR.out]; (try rfl); (try simp), HBZ.out⟩
          · clear heb
            by_cases o8 : op = 8
            · have hal1 := H8.out o8
              have hal2 : al = 1 := by omega
              subst o8 hal2
              obtain ⟨x, hx⟩ : ∃ x, args[0]? = some x := ⟨_, List.getElem?_eq_getElem (by rw [← HAL.out]; omega)⟩
              obtain ⟨b, off, kv, rfl, hbl, e0, e1, e2, e3, hkx⟩ := HAA.out.get hx
              have e0 := cellB HBZ.out e0
              rw [Nat.zero_mul, Nat.add_zero] at e0
              have HAO : Hid (argOp args = x.op) := Lib.hid (by unfold argOp; rw [List.getD_eq_getElem?_getD, hx]; rfl)
              clear hx hkx e1 e2 e3 hal1
              by_cases o13 : x.op = 13
              · have o13b : (x.op != 13) = false := by rw [o13]; rfl
                rw [HAO.out, show ((8 : Int) == 8) = true from rfl, eqI o13] at HR
                have HRR : Hid (r = (args.all (exVal isNB) && body.all (stOk isNB d) && els.all (stOk isNB d))) := Lib.hid (by rw [HR.out]; simp)
                go_wp2_with (fail)
                go_loopw [71] (fun i wr => ∃ k : Nat, k ≤ 1 ∧ i = .int .i64 (k : Int) ∧ Hid ((args.take k).all (exVal isNB) = true) ∧ Hid (Below w.heap.size w wr ∧ wr.cell? ⟨w.heap.size, 3, none⟩ = some (.slice ba bl bc) ∧ wr.cell? ⟨w.heap.size, 4, none⟩ = some (.slice ea el ec) ∧ w.heap.size < wr.heap.size)) (fun i _ => 1 - (intOf i).toNat)
                case atStart => exact ⟨0, Nat.zero_le _, rfl, Lib.hid rfl, Lib.hid ⟨HBZ.out, HBX3.out⟩⟩
                case round =>
                  obtain ⟨k, hk, rfl, hA, HBX⟩ := hrel
                  have HBR := Lib.hid HBX.out.1
                  by_cases hlt : k < 1
                  · have hkl : k < args.length := by rw [← HAL.out]; exact hlt
                    obtain ⟨x, hx⟩ : ∃ x, x = args[k] := ⟨_, rfl⟩
                    have hxk : args[k]? = some x := by rw [hx]; exact List.getElem?_eq_getElem hkl
                    obtain ⟨b', off', kv', hab', hbl', g0, g1, g2, g3, hkx⟩ := HAA.out.get hxk
                    first | (injection hab' with hab'; injection hab' with hab1 hab2 _; subst hab1 hab2) | subst hab'
                    have g0 := cellB HBR.out g0; have g1 := cellB HBR.out g1; have g2 := cellB HBR.out g2; have g3 := cellB HBR.out g3
                    obtain ⟨ka, kc, hkf⟩ := hkx.form
                    obtain ⟨kl, hkl2⟩ : ∃ l, l = x.kids.length := ⟨_, rfl⟩
                    rw [← hkl2] at hkf
                    subst hkf
                    obtain ⟨q, hqx⟩ : ∃ q, q = exVal isNB x := ⟨_, rfl⟩
                    have HC : Hid (∀ w', Below w.heap.size w w' → Calls Tryz.prog 179 #[.agg #[.int .i64 x.op, .int .i64 x.n, .string x.name, .slice ka kl kc]] w' (BoolP q w')) := Lib.hid (fun w' hb =>
                      exprValid_any w' x _ q (HK.out.below hb) (HWA.out x (List.mem_of_getElem? hxk)) (HAA.out.lens.2 k x hxk) (hkx.dn hb) hqx)
                    have HT := Lib.hid (all_take (exVal isNB) args k x hxk)
                    have HFF := Lib.hid (fun h => all_false (exVal isNB) (List.mem_of_getElem? hxk) h)
                    rw [← hqx] at HT HFF
                    have k0 : (0 : Int) ≤ k := by omega
                    have k1 : (k : Int) < 1 := by omega
                    clear hkl hx hxk hkx hkl2 hqx
                    go_wp2_with (fail)
                    go_at_call 179
                    refine (HC.out _ (HBR.out.trans ((below1 _ _).mono HBR.out.size))).mono ?_
                    rintro e w2 ⟨rfl, hb⟩
                    have hbr2 : Below wr.heap.size wr w2 := (below1 _ _).trans (hb.mono (by simp))
                    have HB2 : Hid (Below w.heap.size w w2) := Lib.hid (HBR.out.trans (hbr2.mono HBR.out.size))
                    have HBX2 := Lib.hid (And.intro HB2.out (And.intro (cellB hbr2 HBX.out.2.1) (And.intro (cellB hbr2 HBX.out.2.2.1) (Nat.lt_of_lt_of_le HBX.out.2.2.2 hbr2.size))))
                    clear hb hbr2
                    cases q
                    · go_wp2_with (fail)
                      go_ret
                      exact ⟨by rw [HRR.out, HFF.out (by first | rfl | trivial)]; rfl, HB2.out⟩
                    · go_wp2_with (fail)
                      go_roundw
                      case rel => exact ⟨k + 1, by omega, by go_num, Lib.hid (by rw [HT.out, hA.out]; rfl), HBX2⟩
                      case measure => simp [intOf]; omega
                  · have hke : k = 1 := by omega
                    have HAX : Hid (args.all (exVal isNB) = true) := Lib.hid (by have := hA.out; rw [hke, HAL.out, List.take_length] at this; exact this)
                    obtain ⟨qb, hqb⟩ : ∃ q, q = body.all (stOk isNB d) := ⟨_, rfl⟩
                    obtain ⟨qe, hqe⟩ : ∃ q, q = els.all (stOk isNB d) := ⟨_, rfl⟩
                    have HC1 := Lib.hid (fun w' (hb : Below w.heap.size w w') => HBLK.out body w' _ (HK.out.below hb) HWB.out (HBB.out.dn hb))
                    have HC2 := Lib.hid (fun w' (hb : Below w.heap.size w w') => HBLK.out els w' _ (HK.out.below hb) HWE.out (HEE.out.dn hb))
                    have HRE := HRR
                    rw [HAX.out, Bool.true_and, ← hqb, ← hqe] at HRE
                    rw [← hqb] at HC1
                    rw [← hqe] at HC2
                    have c3 := HBX.out.2.1
                    have c4 := HBX.out.2.2.1
                    clear hqb hqe hke
                    go_wp2_with (fail)
                    go_at_call 136
                    refine (HC1.out _ HBR.out).mono ?_
                    rintro e w2 ⟨rfl, hb⟩
                    have HB2 := Lib.hid (HBR.out.trans (hb.mono HBR.out.size))
                    have c4 := cellB hb c4
                    clear hb c3
                    cases qb
                    · go_wp2_with (fail)
                      go_ret
                      exact ⟨by rw [HRE.out]; rfl, HB2.out⟩
                    · go_wp2_with (fail)
                      go_at_call 136
                      refine (HC2.out _ HB2.out).mono ?_
                      rintro e w3 ⟨rfl, hb⟩
                      have HB3 := Lib.hid (HB2.out.trans (hb.mono HB2.out.size))
                      clear hb
                      go_wp2_with (fail)
                      go_ret
                      exact ⟨by rw [HRE.out]; simp, HB3.out⟩

              · have o13b : (x.op != 13) = true := by simpa using o13
                rw [HAO.out, show ((8 : Int) == 8) = true from rfl, neI o13] at HR
                go_wp2_with (fail)
                go_ret
                exact ⟨by rw [HR.out]; simp, HBZ.out⟩
            · have o8 := neI o8
              rw [o8] at HR
              have HRR : Hid (r = (args.all (exVal isNB) && body.all (stOk isNB d) && els.all (stOk isNB d))) := Lib.hid (by rw [HR.out]; simp)
              go_wp2_with (fail)
              go_loopw [71] (fun i wr => ∃ k : Nat, k ≤ al ∧ i = .int .i64 (k : Int) ∧ Hid ((args.take k).all (exVal isNB) = true) ∧ Hid (Below w.heap.size w wr ∧ wr.cell? ⟨w.heap.size, 3, none⟩ = some (.slice ba bl bc) ∧ wr.cell? ⟨w.heap.size, 4, none⟩ = some (.slice ea el ec) ∧ w.heap.size < wr.heap.size)) (fun i _ => al - (intOf i).toNat)
              case atStart => exact ⟨0, Nat.zero_le _, rfl, Lib.hid rfl, Lib.hid ⟨HBZ.out, HBX3.out⟩⟩
              case round =>
                obtain ⟨k, hk, rfl, hA, HBX⟩ := hrel
                have HBR := Lib.hid HBX.out.1
                by_cases hlt : k < al
                · have hkl : k < args.length := by rw [← HAL.out]; exact hlt
                  obtain ⟨x, hx⟩ : ∃ x, x = args[k] := ⟨_, rfl⟩
                  have hxk : args[k]? = some x := by rw [hx]; exact List.getElem?_eq_getElem hkl
                  obtain ⟨b', off', kv', hab', hbl', g0, g1, g2, g3, hkx⟩ := HAA.out.get hxk
                  first | (injection hab' with hab'; injection hab' with hab1 hab2 _; subst hab1 hab2) | subst hab'
                  have g0 := cellB HBR.out g0; have g1 := cellB HBR.out g1; have g2 := cellB HBR.out g2; have g3 := cellB HBR.out g3
                  obtain ⟨ka, kc, hkf⟩ := hkx.form
                  obtain ⟨kl, hkl2⟩ : ∃ l, l = x.kids.length := ⟨_, rfl⟩
                  rw [← hkl2] at hkf
                  subst hkf
                  obtain ⟨q, hqx⟩ : ∃ q, q = exVal isNB x := ⟨_, rfl⟩
                  have HC : Hid (∀ w', Below w.heap.size w w' → Calls Tryz.prog 179 #[.agg #[.int .i64 x.op, .int .i64 x.n, .string x.name, .slice ka kl kc]] w' (BoolP q w')) := Lib.hid (fun w' hb =>
                    exprValid_any w' x _ q (HK.out.below hb) (HWA.out x (List.mem_of_getElem? hxk)) (HAA.out.lens.2 k x hxk) (hkx.dn hb) hqx)
                  have HT := Lib.hid (all_take (exVal isNB) args k x hxk)
                  have HFF := Lib.hid (fun h => all_false (exVal isNB) (List.mem_of_getElem? hxk) h)
                  rw [← hqx] at HT HFF
                  have k0 : (0 : Int) ≤ k := by omega
                  have k1 : (k : Int) < al := by omega
                  clear hkl hx hxk hkx hkl2 hqx
                  go_wp2_with (fail)
                  go_at_call 179
                  refine (HC.out _ (HBR.out.trans ((below1 _ _).mono HBR.out.size))).mono ?_
                  rintro e w2 ⟨rfl, hb⟩
                  have hbr2 : Below wr.heap.size wr w2 := (below1 _ _).trans (hb.mono (by simp))
                  have HB2 : Hid (Below w.heap.size w w2) := Lib.hid (HBR.out.trans (hbr2.mono HBR.out.size))
                  have HBX2 := Lib.hid (And.intro HB2.out (And.intro (cellB hbr2 HBX.out.2.1) (And.intro (cellB hbr2 HBX.out.2.2.1) (Nat.lt_of_lt_of_le HBX.out.2.2.2 hbr2.size))))
                  clear hb hbr2
                  cases q
                  · go_wp2_with (fail)
                    go_ret
                    exact ⟨by rw [HRR.out, HFF.out (by first | rfl | trivial)]; rfl, HB2.out⟩
                  · go_wp2_with (fail)
                    go_roundw
                    case rel => exact ⟨k + 1, by omega, by go_num, Lib.hid (by rw [HT.out, hA.out]; rfl), HBX2⟩
                    case measure => simp [intOf]; omega
                · have hke : k = al := by omega
                  have HAX : Hid (args.all (exVal isNB) = true) := Lib.hid (by have := hA.out; rw [hke, HAL.out, List.take_length] at this; exact this)
                  obtain ⟨qb, hqb⟩ : ∃ q, q = body.all (stOk isNB d) := ⟨_, rfl⟩
                  obtain ⟨qe, hqe⟩ : ∃ q, q = els.all (stOk isNB d) := ⟨_, rfl⟩
                  have HC1 := Lib.hid (fun w' (hb : Below w.heap.size w w') => HBLK.out body w' _ (HK.out.below hb) HWB.out (HBB.out.dn hb))
                  have HC2 := Lib.hid (fun w' (hb : Below w.heap.size w w') => HBLK.out els w' _ (HK.out.below hb) HWE.out (HEE.out.dn hb))
                  have HRE := HRR
                  rw [HAX.out, Bool.true_and, ← hqb, ← hqe] at HRE
                  rw [← hqb] at HC1
                  rw [← hqe] at HC2
                  have c3 := HBX.out.2.1
                  have c4 := HBX.out.2.2.1
                  clear hqb hqe hke
                  go_wp2_with (fail)
                  go_at_call 136
                  refine (HC1.out _ HBR.out).mono ?_
                  rintro e w2 ⟨rfl, hb⟩
                  have HB2 := Lib.hid (HBR.out.trans (hb.mono HBR.out.size))
                  have c4 := cellB hb c4
                  clear hb c3
                  cases qb
                  · go_wp2_with (fail)
                    go_ret
                    exact ⟨by rw [HRE.out]; rfl, HB2.out⟩
                  · go_wp2_with (fail)
                    go_at_call 136
                    refine (HC2.out _ HB2.out).mono ?_
                    rintro e w3 ⟨rfl, hb⟩
                    have HB3 := Lib.hid (HB2.out.trans (hb.mono HB2.out.size))
                    clear hb
                    go_wp2_with (fail)
                    go_ret
                    exact ⟨by rw [HRE.out]; simp, HB3.out⟩



  · have HN : Hid (decide ((al : Int) = n) = false) := Lib.hid (decide_eq_false hn)
    have hn1 : ((al : Int) == n) = false := neI hn
    have hn2 : ((al : Int) != n) = true := by simpa using hn
    rw [HN.out] at HR
    go_wp2_with (fail)
    go_ret
    exact ⟨by rw [HR.out]; rfl, HB1.out⟩
theorem oks : ∀ d, d ≤ 4 → SOkAt d ∧ BOkAt d := by
  intro d
  induction d with
  | zero =>
    intro _
    have h : SOkAt 0 := fun x w av bv ev hK hW hz ha hb he => by
      have : stOk isNB 0 x = false := by cases x; rfl
      rw [this]
      exact stmtOk_no x w av bv ev hK ha hb he
    exact ⟨h, blockOk_of 0 h⟩
  | succ d ih =>
    intro hd
    have h := stmtOk_of d (by omega) (ih (by omega)).2
    exact ⟨h, blockOk_of _ h⟩
end Go.Proofs.YtpnliencahnmoaaGreatDoor
