/- ImageTable on both sides. Premises: the magic bytes and the table of forms read as laid. -/
import Derived.Test.YtbdbmmdnidonjaaDoorTTs
set_option linter.unusedVariables false
set_option linter.unusedSimpArgs false
set_option maxRecDepth 100000
namespace Go.Proofs.YtbdbmmdnidonjaaDoor
open Go.RowKit
set_option maxHeartbeats 1000000 in
theorem secInts_any (w : World) (s : Sec) : Calls Tryd.prog 70 #[.agg #[.int .i64 (s.par : Int), .int .i64 (s.slo : Int), .int .i64 (s.beg : Int), .int .i64 (s.siz : Int)]] w fun e w' => ∃ g, e = .returned (r4 g) ∧ w.heap.size ≤ g ∧ w'.ownsRow w.heap.size 3 1 (r4 g) 4 (ints (secRow s)) ∧ Below w.heap.size w w' := by
  obtain ⟨y0, y1, p, N⟩ := s
  obtain ⟨Q, hQ⟩ : ∃ Q : Ending → World → Prop, Q = fun e w' => ∃ g, e = .returned (r4 g) ∧ w.heap.size ≤ g ∧ w'.ownsRow w.heap.size 3 1 (r4 g) 4 (ints (secRow ⟨y0, y1, p, N⟩)) ∧ Below w.heap.size w w' := ⟨_, rfl⟩
  have HQ : Hid (∀ g w', w.heap.size ≤ g → w'.ownsRow w.heap.size 3 1 (r4 g) 4 (ints (secRow ⟨y0, y1, p, N⟩)) → Below w.heap.size w w' → Q (.returned (.slice (some ⟨g, 0, none⟩) 4 4)) w') := Lib.hid (fun g w' h1 h2 h3 => by rw [hQ]; exact ⟨g, rfl, h1, h2, h3⟩)
  rw [← hQ]
  clear hQ
  go_enter Tryd.func70, Tryd.ntmps70
  go_wp2_with (fail)
  first | go_ret | skip
  refine HQ.out _ _ ?_ ?_ ?_
  · simp
  · have h := World.ownsRow_lit (base := w.heap.size) (e := 3) (size := 1) (w.alloc (.cells #[.int .i64 (y0 : Int), .int .i64 (y1 : Int), .int .i64 (p : Int), .int .i64 (N : Int)] 87)) #[.int .i64 (y0 : Int), .int .i64 (y1 : Int), .int .i64 (p : Int), .int .i64 (N : Int)] 4 (by simp) (by decide) rfl
    rw [show (w.alloc (.cells #[.int .i64 (y0 : Int), .int .i64 (y1 : Int), .int .i64 (p : Int), .int .i64 (N : Int)] 87)).heap.size = w.heap.size + 1 by simp] at h
    exact h
  · exact (below1 _ _).alloc (by simp) _
def MpsP (l : List Sec) (w : World) (e : Ending) (w' : World) : Prop := ∃ v, e = .returned v ∧ TabV w.heap.size w' v ((secRows l).map ints) ∧ Below w.heap.size w w'
set_option maxHeartbeats 4000000 in
theorem mappedSec_any (w : World) (B : Nat) (v : Value) (l : List Sec) (h : w.ownsRow B 87 4 v l.length (secCells l)) (hle : l.length ≤ 1048576) :
    Calls Tryd.prog 69 #[v, .func (.func 70) #[] #[]] w (MpsP l w) := by
  obtain ⟨i0, hi, hz0, hz1, hz2⟩ := info_parts info_ints
  obtain ⟨n, hn⟩ : ∃ n, n = l.length := ⟨_, rfl⟩
  obtain ⟨sa, sc, rfl⟩ : ∃ sa sc, v = .slice sa n sc := by
    rcases h.2 with ⟨rfl, h0⟩ | ⟨g, cap, cur, rfl, _⟩
    · exact ⟨none, 0, by rw [hn, h0]⟩
    · exact ⟨_, _, by rw [hn]⟩
  have HSC : Hid (∀ k s, l[k]? = some s → ∃ g, sa = some ⟨g, 0, none⟩ ∧ w.cell? ⟨g, k * 4, none⟩ = some (.int .i64 (s.par : Int)) ∧ w.cell? ⟨g, k * 4 + 1, none⟩ = some (.int .i64 (s.slo : Int)) ∧ w.cell? ⟨g, k * 4 + 2, none⟩ = some (.int .i64 (s.beg : Int)) ∧ w.cell? ⟨g, k * 4 + 3, none⟩ = some (.int .i64 (s.siz : Int))) := Lib.hid (fun k s hk => by
    have hl := idx_lt hk
    obtain ⟨g, cap, he⟩ := own_form h (by omega)
    injection he with e1 e2 e3
    subst e1 e3
    obtain ⟨h0, h1, h2, h3⟩ := secCells_at hk
    rw [← hn] at h hl
    refine ⟨g, rfl, ?_, ?_, ?_, ?_⟩
    · rw [h.cellAt _ (by omega)]; exact h0
    · rw [h.cellAt _ (by omega)]; exact h1
    · rw [h.cellAt _ (by omega)]; exact h2
    · rw [h.cellAt _ (by omega)]; exact h3)
  obtain ⟨Q, hQ⟩ : ∃ Q, Q = MpsP l w := ⟨_, rfl⟩
  have HQ : Hid (∀ v w', TabV w.heap.size w' v ((secRows l).map ints) → Below w.heap.size w w' → Q (.returned v) w') := Lib.hid (fun v w' h1 h2 => by rw [hQ]; exact ⟨v, rfl, h1, h2⟩)
  rw [← hQ]
  rw [← hn] at hle
  have HN := Lib.hid hn
  clear h hn hQ
  go_enter Tryd.func69, Tryd.ntmps69
  go_wp2_with (fail)
  go_loopw [5, 10] (fun ov iv wr => ∃ (k : Nat) (oa : Option Addr) (oc : Nat), k ≤ n ∧ ov = .slice oa k oc ∧ iv = .int .i64 (k : Int) ∧ Hid (TabV w.heap.size wr ov ((secRows (l.take k)).map ints)) ∧ Hid (Below w.heap.size w wr)) (fun _ iv _ => n - (intOf iv).toNat)
  case atStart => exact ⟨0, none, 0, Nat.zero_le _, rfl, rfl, Lib.hid (TabV.nil _ _), Lib.hid (Below.refl _ _)⟩
  case round =>
    obtain ⟨k, oa, oc, hk, rfl, rfl, HT, HB⟩ := hrel
    obtain ⟨wo, rfl⟩ : ∃ wo : World, wo = wr := ⟨_, rfl⟩
    by_cases hlt : k < n
    · have k0 : (0 : Int) ≤ k := by omega
      have k1 : (k : Int) < n := by omega
      obtain ⟨s, hs⟩ : ∃ s, l[k]? = some s := ⟨_, List.getElem?_eq_getElem (by rw [← HN.out]; exact hlt)⟩
      obtain ⟨g, rfl, c0, c1, c2, c3⟩ := HSC.out k s hs
      have t0 := cellB HB.out c0; have t1 := cellB HB.out c1; have t2 := cellB HB.out c2; have t3 := cellB HB.out c3
      have hsz := HB.out.size
      have HTK : Hid (secRows (l.take (k + 1)) = secRows (l.take k) ++ [secRow s]) := Lib.hid (by rw [List.take_add_one, hs]; simp [secRows])
      have HSI := Lib.hid (fun w' => secInts_any w' s)
      obtain ⟨gs, hG⟩ := HT.out
      have HG := Lib.hid hG
      have hlen : ((secRows (l.take k)).map ints).length = k := by
        have := HN.out
        rw [List.length_map, secRows_len, List.length_take]; omega
      have HR : Hid (wo.ownsRow w.heap.size 26 1 (.slice oa k oc) k (gs.map r4)) := Lib.hid (by have := hG.row; rw [hlen] at this; exact this)
      have HLN := Lib.hid hlen
      clear c0 c1 c2 c3 hG hlen hs HT
      go_wp2_with (fail)
      go_at_call 70
      generalize hw1 : wo.alloc _ = w1
      have hb1 : Below wo.heap.size wo w1 := by rw [← hw1]; exact below1 _ _
      have HB1 := Lib.hid hb1
      clear hw1 hb1 t0 t1 t2 t3
      refine (HSI.out w1).mono ?_
      rintro e w2 ⟨q, rfl, hq, hr, hb⟩
      unfold r4
      have HB2 := Lib.hid (HB1.out.trans (hb.mono HB1.out.size))
      have HQ2 : Hid (wo.heap.size ≤ q) := Lib.hid (Nat.le_trans HB1.out.size hq)
      have HW2 := Lib.hid (ownsRow_mono hr (Nat.le_trans hsz HB1.out.size))
      have HR2 := Lib.hid (ownsRow_below HR.out HB2.out)
      have HBW := Lib.hid (HB.out.trans (HB2.out.mono hsz))
      have hs2 := HBW.out.size
      clear hb hr hq HB1
      go_wp2_with (first | (at_builtin; refine wpList_append_own_at _ rfl _ _ 53 (by rfl) w.heap.size 26 i0 (.slice none 0 0) 1 24 Tryd.underlying53 hi hz0 hz1 hz2 rfl (by decide) _ k (gs.map r4) (by rfl) (HR2.out.alloc _) ⟨w2.heap.size, 0, none⟩ 1 1 [r4 q] (by rfl) rfl (World.news_of_block (heap_alloc_new w2 _)) (by simp [r4, Value.oneCell']) (by unfold maxLen; omega) (by omega) (by simp; omega) ?_; intro v9 w9 ho9 hg9 _ hat9; obtain ⟨g9, c9, rfl⟩ := own_form ho9 (by omega); have HO9 := Lib.hid ho9; have HG9 := Lib.hid hg9; have HA9 := Lib.hid hat9; clear ho9 hg9 hat9) | fail)
      go_roundw
      case rel =>
        refine ⟨k + 1, _, _, by omega, rfl, by go_num, Lib.hid ?_, Lib.hid ?_⟩
        · rw [HTK.out, List.map_append]
          exact HG.out.app (HB2.out.alloc (HB2.out.size) _) HQ2.out (HW2.out.alloc _) (by rw [HLN.out]; exact HO9.out) HG9.out HA9.out
        · exact (HBW.out.alloc hs2 _).grown HG9.out (by simp; omega) (fun q hq => ownBlock_of HR2.out q hq)
      case measure => simp [intOf]; omega
    · obtain rfl : n = k := by omega
      have HE : Hid (l.take n = l) := Lib.hid (by rw [HN.out]; exact List.take_length)
      go_wp2_with (fail)
      first | go_ret | skip
      refine HQ.out _ _ ?_ HB.out
      have := HT.out
      rw [HE.out] at this
      exact this
noncomputable def tabAns (b : List Nat) : List (List Int) := match readI b with | some r => secRows r.1 | none => []
theorem tabAns_yes {b : List Nat} {l : List Sec} {fs : List Mf} (h : readI b = some (l, fs)) : tabAns b = secRows l := by unfold tabAns; rw [h]
theorem tabAns_no {b : List Nat} (h : readI b = none) : tabAns b = [] := by unfold tabAns; rw [h]
theorem tabAns_four {b : List Nat} : ∀ zs ∈ tabAns b, zs.length = 4 := by
  unfold tabAns
  cases readI b with
  | none => simp
  | some r => exact secRows_four
def ItP (b : List Nat) (w : World) (e : Ending) (w' : World) : Prop := ∃ v, e = .returned v ∧ TabV w.heap.size w' v ((tabAns b).map ints) ∧ Below w.heap.size w w'
theorem readI_tab {b : List Nat} {l : List Sec} {fs : List Mf} (h : readI b = some (l, fs)) : 3 ≤ b.length ∧ secF b (byteN b 2) = some (l, b.length) := by
  obtain ⟨h1, h2, _⟩ := readI_some h
  refine ⟨?_, (imF_sec h2).1⟩
  unfold headN at h1
  simp only [Bool.and_eq_true, decide_eq_true_eq] at h1
  exact h1.1.1
set_option maxHeartbeats 2000000 in
theorem specImageTable_any (w : World) (v : Value) (b : List Nat) (h : CsC w v b) (hle : b.length ≤ 1048576) : Calls Tryd.prog 35 #[v] w (ItP b w) := by
  have HIV := Lib.hid (specImageValid_any w v b h hle)
  have HCS := Lib.hid h
  have HTB := Lib.hid (fun w' l h1 h2 h3 => table_any w' v b l h1 hle h2 h3)
  obtain ⟨a, cap, rfl, _⟩ := h.2
  obtain ⟨L, hL⟩ : ∃ L, L = b.length := ⟨_, rfl⟩
  have HLN := Lib.hid hL
  rw [← hL] at HIV HCS HTB ⊢
  obtain ⟨Q, hQ⟩ : ∃ Q, Q = ItP b w := ⟨_, rfl⟩
  have HQ : Hid (∀ v w', TabV w.heap.size w' v ((tabAns b).map ints) → Below w.heap.size w w' → Q (.returned v) w') := Lib.hid (fun v w' h1 h2 => by rw [hQ]; exact ⟨v, rfl, h1, h2⟩)
  rw [← hQ]
  clear hL hQ h
  go_enter Tryd.func35, Tryd.ntmps35
  go_wp2_with (fail)
  go_at_call 31
  refine HIV.out.mono ?_
  rintro e w5 ⟨ok, rfl, hok, hb⟩
  have HB := Lib.hid hb
  have hs := hb.size
  have HOK := Lib.hid hok
  clear hok hb
  cases ok with
  | false =>
    have HX : Hid (tabAns b = []) := Lib.hid (by
      cases hr : readI b with
      | none => exact tabAns_no hr
      | some r => exact absurd (HOK.out.2 ⟨r, hr⟩) (by decide))
    go_wp2_with (fail)
    first | go_ret | skip
    refine HQ.out _ _ ?_ (HB.out.alloc hs _)
    rw [HX.out]
    exact ⟨[], rfl, ownLit0 w5 _ _ rfl hs, List.nodup_nil, by simp, by simp⟩
  | true =>
    obtain ⟨⟨l, fs⟩, hr⟩ := HOK.out.1 rfl
    obtain ⟨h3, hsf⟩ := readI_tab hr
    have HX := Lib.hid (tabAns_yes hr)
    have HTC := Lib.hid (HTB.out w5 l (HCS.out.below HB.out) (by rw [HLN.out]; exact h3) (by rw [HLN.out]; exact hsf))
    clear h3 hsf hr
    go_wp2_with (fail)
    go_at_call 67
    refine HTC.out.mono ?_
    rintro e w6 ⟨tv, rfl, ht, hb⟩
    have HT6 := Lib.hid (ht.mono hs)
    have HB6 := Lib.hid (HB.out.trans (hb.mono hs))
    clear ht hb
    go_wp2_with (fail)
    first | go_ret | skip
    refine HQ.out _ _ ?_ HB6.out
    rw [HX.out]; exact HT6.out
set_option maxHeartbeats 2000000 in
theorem implImageTable_any (w : World) (v : Value) (b : List Nat) (hF : Forms w) (hM : Magic w) (h : CsC w v b) (hle : b.length ≤ 1048576) : Calls Tryd.prog 36 #[v] w (ItP b w) := by
  have HIV := Lib.hid (implImageValid_any w v b hF hM h hle)
  have HCS := Lib.hid h; have HMG := Lib.hid hM
  have HTB := Lib.hid (fun w' h1 h2 => sections_any w' v b h1 h2 hle)
  obtain ⟨a, cap, rfl, _⟩ := h.2
  have HSM := Lib.hid (h.1.choose_spec.choose_spec.2.1)
  obtain ⟨L, hL⟩ : ∃ L, L = b.length := ⟨_, rfl⟩
  rw [← hL] at HIV HCS HTB ⊢
  have HLN := Lib.hid hL
  obtain ⟨Q, hQ⟩ : ∃ Q, Q = ItP b w := ⟨_, rfl⟩
  have HQ : Hid (∀ v w', TabV w.heap.size w' v ((tabAns b).map ints) → Below w.heap.size w w' → Q (.returned v) w') := Lib.hid (fun v w' h1 h2 => by rw [hQ]; exact ⟨v, rfl, h1, h2⟩)
  rw [← hQ]
  clear hL hQ h hF hM
  go_enter Tryd.func36, Tryd.ntmps36
  go_wp2_with (fail)
  go_at_call 33
  refine HIV.out.mono ?_
  rintro e w5 ⟨ok, rfl, hok, hb⟩
  have HB := Lib.hid hb
  have hs := hb.size
  have HOK := Lib.hid hok
  clear hok hb
  cases ok with
  | false =>
    have HX : Hid (tabAns b = []) := Lib.hid (by
      cases hr : readI b with
      | none => exact tabAns_no hr
      | some r => exact absurd (HOK.out.2 ⟨r, hr⟩) (by decide))
    go_wp2_with (fail)
    first | go_ret | skip
    refine HQ.out _ _ ?_ HB.out
    rw [HX.out]
    exact TabV.nil _ _
  | true =>
    obtain ⟨⟨l, fs⟩, hr⟩ := HOK.out.1 rfl
    obtain ⟨h3, hsf⟩ := readI_tab hr
    have HX := Lib.hid (tabAns_yes hr)
    have HSF := Lib.hid hsf
    have HHD := Lib.hid (readI_some hr).1
    have HTC := Lib.hid (HTB.out w5 (HMG.out.below HB.out) (HCS.out.below HB.out))
    clear h3 hsf hr
    go_wp2_with (fail)
    go_at_call 68
    refine HTC.out.mono ?_
    rintro e w6 ⟨sv, l', ok, rfl, hy, hno, hb⟩
    have hB6 := HB.out.trans (hb.mono hs)
    cases ok with
    | false => exact absurd ⟨HHD.out, _, HSF.out⟩ (hno rfl)
    | true =>
      obtain ⟨_, hsf', ho⟩ := hy rfl
      have hll : l' = l := by
        have h1 := HSF.out
        rw [hsf'] at h1
        injection h1 with h1; injection h1
      subst hll
      have hl6 : l'.length < 256 := by rw [(secF_len hsf').1]; exact byteN_lt HSM.out _
      have HMP := Lib.hid (mappedSec_any w6 w5.heap.size sv l' ho (by omega))
      have HB6 := Lib.hid hB6
      clear hy hno hb hB6 hsf' ho hl6
      go_wp2_with (fail)
      go_at_call 69
      refine HMP.out.mono ?_
      rintro e w7 ⟨tv, rfl, ht, hb⟩
      have hs6 := HB6.out.size
      have HT7 := Lib.hid (ht.mono hs6)
      have HB7 := Lib.hid (HB6.out.trans (hb.mono hs6))
      clear ht hb
      go_wp2_with (fail)
      first | go_ret | skip
      refine HQ.out _ _ ?_ HB7.out
      rw [HX.out]; exact HT7.out
end Go.Proofs.YtbdbmmdnidonjaaDoor
