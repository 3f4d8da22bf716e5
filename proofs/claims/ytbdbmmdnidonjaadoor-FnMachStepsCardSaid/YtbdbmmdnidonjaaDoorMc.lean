/- Programs of a machine: copied, compared, measured. -/
import Derived.Test.YtbdbmmdnidonjaaDoorMf
set_option maxRecDepth 100000
namespace Go.Proofs.YtbdbmmdnidonjaaDoor
open Go.RowKit

def NewMach (fs : List Mf) (w : World) (e : Ending) (w' : World) : Prop :=
  ∃ g, e = .returned (.agg #[.slice (some ⟨g, 0, none⟩) fs.length fs.length]) ∧ OwnMfs w.heap.size w' g fs.length fs ∧ Below w.heap.size w w'

theorem OwnMfs.mono {B B' : Nat} {w : World} {g cap : Nat} {fs : List Mf} (h : OwnMfs B w g cap fs) (hB : B' ≤ B) : OwnMfs B' w g cap fs := by
  obtain ⟨ys, ho, hx⟩ := h
  refine ⟨ys, ownsRow_mono ho hB, fun i f hi => ?_⟩
  obtain ⟨h0, h1, gi, hg, h2, hm⟩ := hx i f hi
  exact ⟨h0, h1, gi, hg, h2, hm.mono hB⟩
/-- what the call owns from B on stands while what is from B on stands -/
theorem OwnMfs.blocks {B : Nat} {w w' : World} {g cap : Nat} {fs : List Mf} (h : OwnMfs B w g cap fs) (hg : ∀ q, B ≤ q → q < w.heap.size → w'.heap[q]? = w.heap[q]?) : OwnMfs B w' g cap fs := by
  obtain ⟨ys, ho, hx⟩ := h
  have hl := ownsRow_lt ho
  refine ⟨ys, ownsRow_block ho (hg g hl.2.1 hl.1), fun i f hi => ?_⟩
  obtain ⟨h0, h1, gi, hgi, h2, hm⟩ := hx i f hi
  have hlm := hm.lt
  exact ⟨h0, h1, gi, hgi, h2, hm.block (hg gi hlm.2 hlm.1)⟩

set_option maxHeartbeats 1000000 in
theorem toMach_any (w : World) (v : Value) (fs : List Mf) (h : MfsAt w v fs) (hm : MfsLe fs) :
    Calls Tryd.prog 18 #[.agg #[v]] w (NewMach fs w) := by
  have HI := Lib.hid (fun w' (hb : Below w.heap.size w w') => toMfnS_any w' v fs (h.below hb) hm)
  obtain ⟨a, cap, rfl, _⟩ := h
  obtain ⟨n, hn⟩ : ∃ n, n = fs.length := ⟨_, rfl⟩
  unfold NewMach
  rw [← hn] at HI ⊢
  unfold NewMfs at HI
  rw [← hn] at HI
  clear hn
  go_enter Tryd.func18, Tryd.ntmps18
  go_wp2_with (fail)
  refine (HI.out _ (below3 _ _ _ _)).mono ?_
  rintro e w1 ⟨g, rfl, hO, hb⟩
  obtain ⟨hc, hf⟩ := bcell hb
  have hsz : w.heap.size + 3 ≤ w1.heap.size := by have := hb.size; simp at this; omega
  have HB := Lib.hid ((below3 w _ _ _).trans (hb.mono (by simp; omega)))
  have HO := Lib.hid hO
  clear hb hO
  go_wp2_with (fail)
  refine bodyPost_ret (v := .agg #[.slice (some ⟨g, 0, none⟩) n n]) (by simp [results, Tryd.results18, go_sem, hc]) rfl ⟨g, rfl, ?_, ?_⟩
  · refine OwnMfs.mono (HO.out.blocks (fun q hq1 hq2 => ?_)) (by simp; omega)
    simp at hq1
    repeat rw [Below.heap_setCell _ _ _ _ (by simp; omega)]
  · repeat' (first | exact HB.out | (refine Below.setCell ?_ ?_ _))
    all_goals (first | omega | (simp; done) | (simp; omega))

set_option maxHeartbeats 1000000 in
theorem eqMach_same (w : World) (v v2 : Value) (fs : List Mf) (h : MfsAt w v fs) (h2 : MfsAt w v2 fs) (hm : MfsLe fs) :
    Calls Tryd.prog 20 #[.agg #[v], .agg #[v2]] w (Yes w) := by
  have HI := Lib.hid (fun w' (hb : Below w.heap.size w w') => eqMfnS_same w' v v2 fs (h.below hb) (h2.below hb) hm)
  obtain ⟨a, cap, rfl, _⟩ := h
  obtain ⟨a2, cap2, rfl, _⟩ := h2
  go_enter Tryd.func20, Tryd.ntmps20
  go_wp2_with (fail)
  refine (HI.out _ (below2 _ _ _)).mono ?_
  rintro e w1 ⟨rfl, hb⟩
  have HB := Lib.hid ((below2 w _ _).trans (hb.mono (by simp; omega)))
  clear hb
  go_wp2_with (fail)
  go_ret
  exact ⟨rfl, HB.out⟩

/-- the sizes of functions, as szMach counts them -/
def sumIns : List Mf → Int
  | [] => 0
  | f :: fs => f.ins.length + sumIns fs
theorem sumIns_nonneg : ∀ fs, 0 ≤ sumIns fs
  | [] => by simp [sumIns]
  | f :: fs => by have := sumIns_nonneg fs; unfold sumIns; omega

set_option maxHeartbeats 1000000 in
theorem szMinsS_any (w : World) (a : Option Addr) (n cap : Nat) (left : Int) (h0 : 0 ≤ left) (h1 : left ≤ 1048576) (hn : n ≤ 9223372036854775807) :
    Calls Tryd.prog 111 #[.slice a n cap, .int .i64 left] w fun e w' => e = .returned (.int .i64 (if left < n then -1 else left - n)) ∧ w = w' := by
  by_cases h : left < n
  · rw [if_pos h]
    go_enter Tryd.func111, Tryd.ntmps111
    go_wp2
    go_ret
    exact ⟨rfl, rfl⟩
  · rw [if_neg h]
    go_enter Tryd.func111, Tryd.ntmps111
    go_wp2
    go_ret
    exact ⟨rfl, rfl⟩

set_option maxHeartbeats 1000000 in
theorem szMfn_any (w : World) (p s : Int) (a : Option Addr) (n cap : Nat) (left : Int) (h0 : 0 ≤ left) (h1 : left ≤ 1048576) (hn : n ≤ 9223372036854775807) :
    Calls Tryd.prog 82 #[.agg #[.int .i64 p, .int .i64 s, .slice a n cap], .int .i64 left] w fun e w' => e = .returned (.int .i64 (if left < n then -1 else left - n)) ∧ Below w.heap.size w w' := by
  by_cases h : left < n
  · have HS := Lib.hid (fun w' => szMinsS_any w' a n cap left h0 h1 hn)
    rw [if_pos h] at HS ⊢
    go_enter Tryd.func82, Tryd.ntmps82
    go_wp2_with (go_at_call 111; refine (HS.out _).mono ?_; rintro e w1 ⟨rfl, rfl⟩)
    go_ret
    exact ⟨rfl, below1 _ _⟩
  · have HS := Lib.hid (fun w' => szMinsS_any w' a n cap left h0 h1 hn)
    rw [if_neg h] at HS ⊢
    have h2 : 0 ≤ left - n := by omega
    obtain ⟨q, hq⟩ : ∃ q, q = left - n := ⟨_, rfl⟩
    rw [← hq] at HS h2 ⊢
    clear hq
    go_enter Tryd.func82, Tryd.ntmps82
    go_wp2_with (go_at_call 111; refine (HS.out _).mono ?_; rintro e w1 ⟨rfl, rfl⟩)
    go_ret
    exact ⟨rfl, below1 _ _⟩

/-- what szMach comes to: -1 where the sizes pass the bound -/
def SzPost (fs : List Mf) (left : Int) (w : World) (e : Ending) (w' : World) : Prop :=
  ∃ r, e = .returned (.int .i64 r) ∧ (r = -1 ∨ (0 ≤ r ∧ fs.length + sumIns fs ≤ left)) ∧ Below w.heap.size w w'

theorem sumIns_append : ∀ (a b : List Mf), sumIns (a ++ b) = sumIns a + sumIns b
  | [], b => by simp [sumIns]
  | f :: a, b => by
    show (f.ins.length : Int) + sumIns (a ++ b) = ((f.ins.length : Int) + sumIns a) + sumIns b
    rw [sumIns_append a b]; omega
theorem take_snocF (fs : List Mf) (k : Nat) (f : Mf) (h : fs[k]? = some f) : sumIns (fs.take (k + 1)) = sumIns (fs.take k) + f.ins.length := by
  have hk := idx_lt h
  rw [List.take_succ_eq_append_getElem hk, sumIns_append]
  rw [List.getElem?_eq_getElem hk] at h
  injection h with h
  rw [h]
  simp [sumIns]

set_option maxHeartbeats 1000000 in
theorem szMfnS_any (w : World) (v : Value) (fs : List Mf) (left : Int) (h : MfsAt w v fs) (h0 : 0 ≤ left) (h1 : left ≤ 1048576) (hn : fs.length ≤ 9223372036854775807) (hni : ∀ f ∈ fs, f.ins.length ≤ 9223372036854775807) :
    Calls Tryd.prog 54 #[v, .int .i64 left] w (SzPost fs left w) := by
  obtain ⟨a, cap, rfl, hc⟩ := h
  obtain ⟨n, hl⟩ : ∃ n, n = fs.length := ⟨_, rfl⟩
  rw [← hl] at hn ⊢
  have Hc := Lib.hid hc
  have Hl := Lib.hid hl
  have HNI := Lib.hid hni
  clear hc hl hni
  by_cases hbig : left < n
  · go_enter Tryd.func54, Tryd.ntmps54
    go_wp2
    go_ret
    exact ⟨-1, rfl, .inl rfl, Below.refl _ _⟩
  go_enter Tryd.func54, Tryd.ntmps54
  go_wp2
  go_loopw [1, 5] (fun l i wr => ∃ (k : Nat) (q : Int), k ≤ n ∧ i = .int .i64 k ∧ l = .int .i64 q ∧ 0 ≤ q ∧ q ≤ 1048576 ∧ Hid (n + sumIns (fs.take k) + q = left) ∧ Below w.heap.size w wr) (fun _ i _ => n - (intOf i).toNat)
  case atStart => exact ⟨0, left - n, Nat.zero_le _, rfl, rfl, by omega, by omega, by show _ = _; simp [sumIns]; omega, Below.refl _ _⟩
  case round =>
    obtain ⟨k, q, hk, rfl, rfl, hq0, hq1, hs, hB⟩ := hrel
    obtain ⟨wo, rfl⟩ : ∃ wo : World, wo = wr := ⟨_, rfl⟩
    have HB := Lib.hid hB
    by_cases hlt : k < n
    · have hkl : k < fs.length := by rw [← Hl.out]; exact hlt
      obtain ⟨f, hf⟩ : ∃ f, f = fs[k] := ⟨_, rfl⟩
      have hfk : fs[k]? = some f := by rw [hf]; exact List.getElem?_eq_getElem hkl
      have hfm : f ∈ fs := List.mem_of_getElem? hfk
      obtain ⟨b, off, iv, rfl, c0, c1, c2, hmi⟩ := Hc.out k f hfk
      obtain ⟨ai, capi, rfl, _⟩ := hmi
      have hbl : b < w.heap.size := World.block_lt_of_cell? w ⟨b, off + k * 3, none⟩ c0
      rw [← hB.cell (p := ⟨b, off + k * 3, none⟩) hbl] at c0
      rw [← hB.cell (p := ⟨b, off + k * 3 + 1, none⟩) hbl] at c1
      rw [← hB.cell (p := ⟨b, off + k * 3 + 2, none⟩) hbl] at c2
      have HS := Lib.hid (szMfn_any wo f.params f.slots ai f.ins.length capi q hq0 hq1 (HNI.out f hfm))
      have HT := Lib.hid (take_snocF fs k f hfk)
      obtain ⟨r, hr⟩ : ∃ r, r = if q < (f.ins.length : Int) then -1 else q - f.ins.length := ⟨_, rfl⟩
      rw [← hr] at HS
      have HR := Lib.hid hr
      clear hB hf hfk hfm hr
      by_cases hlq : q < (f.ins.length : Int)
      · have hre : r = -1 := by rw [HR.out, if_pos hlq]
        subst hre
        go_wp2_with (fail)
        refine HS.out.mono ?_
        rintro e w2 ⟨rfl, hb⟩
        have HB2 := Lib.hid (HB.out.trans (hb.mono HB.out.size))
        clear hb
        go_wp2_with (fail)
        go_ret
        exact ⟨-1, rfl, .inl rfl, HB2.out⟩
      · have hre : r = q - f.ins.length := by rw [HR.out, if_neg hlq]
        have hr0 : 0 ≤ r := by omega
        have hr1 : r ≤ 1048576 := by omega
        have HRE := Lib.hid hre
        clear hre
        go_wp2_with (fail)
        refine HS.out.mono ?_
        rintro e w2 ⟨rfl, hb⟩
        have HB2 := Lib.hid (HB.out.trans (hb.mono HB.out.size))
        clear hb
        go_wp2_with (fail)
        go_roundw
        case rel => exact ⟨k + 1, r, by omega, by go_num, rfl, hr0, hr1, by show _ = _; rw [HT.out, HRE.out]; have := hs.out; omega, HB2.out⟩
        case measure => simp [intOf]; omega
    · obtain rfl : k = n := by omega
      have hs' := hs.out
      rw [List.take_of_length_le (by rw [← Hl.out]; exact Nat.le_refl _), Hl.out] at hs'
      have HS := Lib.hid hs'
      clear hB hs'
      go_wp2_with (fail)
      go_ret
      exact ⟨q, rfl, .inr ⟨hq0, by have := HS.out; omega⟩, HB.out⟩

set_option maxHeartbeats 1000000 in
theorem szMach_any (w : World) (v : Value) (fs : List Mf) (left : Int) (h : MfsAt w v fs) (h0 : 0 ≤ left) (h1 : left ≤ 1048576) (hn : fs.length ≤ 9223372036854775807) (hni : ∀ f ∈ fs, f.ins.length ≤ 9223372036854775807) :
    Calls Tryd.prog 17 #[.agg #[v], .int .i64 left] w (SzPost fs left w) := by
  have HS := Lib.hid (fun w' (hb : Below w.heap.size w w') => szMfnS_any w' v fs left (h.below hb) h0 h1 hn hni)
  obtain ⟨a, cap, rfl, _⟩ := h
  go_enter Tryd.func17, Tryd.ntmps17
  go_wp2_with (fail)
  refine (HS.out _ (below1 _ _)).mono ?_
  rintro e w1 ⟨r, rfl, hr, hb⟩
  have HB := Lib.hid ((below1 w _).trans (hb.mono (by simp)))
  clear hb
  rcases hr with rfl | ⟨hr0, hr1⟩
  · go_wp2_with (fail)
    go_ret
    exact ⟨-1, rfl, .inl rfl, HB.out⟩
  · have HR := Lib.hid hr1
    clear hr1
    go_wp2_with (fail)
    go_ret
    exact ⟨r, rfl, .inr ⟨hr0, HR.out⟩, HB.out⟩

theorem mem_sum : ∀ (fs : List Mf) (f : Mf), f ∈ fs → (f.ins.length : Int) ≤ sumIns fs
  | g :: fs, f, h => by
    unfold sumIns
    rcases List.mem_cons.1 h with rfl | h
    · have := sumIns_nonneg fs; omega
    · have := mem_sum fs f h; omega
theorem mfsLe_of {fs : List Mf} {left : Int} (h : (fs.length : Int) + sumIns fs ≤ left) (h1 : left ≤ 1048576) : MfsLe fs := by
  have hs := sumIns_nonneg fs
  refine ⟨by omega, fun f hf => ?_⟩
  have := mem_sum fs f hf
  omega

end Go.Proofs.YtbdbmmdnidonjaaDoor
