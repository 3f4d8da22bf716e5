/- FnExactIntsText answers true for every slice of ints. Premise of the walk: the table of powers of ten reads as laid (the card ties it). -/
import Derived.Test.YtkpkgengdcleiaaDoorIti
import Derived.Test.YtkpkgengdcleiaaDoorLaid
set_option maxRecDepth 100000
namespace Go.Proofs.YtkpkgengdcleiaaDoor.ItLaw
open Go.RowKit

set_option maxHeartbeats 1000000 in
theorem small (w : World) (v : Value) (zs : List Int) (h : IntsAt w v zs) (hm : zs.length ≤ 1048576) (hr : InR zs) (ht : Tab w) :
    Calls Tryd.prog 3 #[v] w (Yes w) := by
  have hi := h
  obtain ⟨a, cap, rfl, hc⟩ := hi
  have HR := Lib.hid hr
  have HT := Lib.hid ht
  have HM := Lib.hid hm
  obtain ⟨n, hn⟩ : ∃ n, n = zs.length := ⟨_, rfl⟩
  rw [← hn] at hm h ⊢
  have HI := Lib.hid h
  clear h hr ht hc hn
  have HB := Lib.hid (Below.refl w.heap.size w)
  go_enter Tryd.func3, Tryd.ntmps3
  go_wp2_with (fail)
  refine (toInts HI.out (by have := HM.out; omega)).mono ?_
  rintro e w1 ⟨g, rfl, hown, hb⟩
  have HB1 := Lib.hid hb
  have HI1 := Lib.hid (intsAt_own hown)
  clear hb hown
  go_wp2_with (fail)
  refine (specIntsText_any _ _ zs HI1.out HM.out HR.out).mono ?_
  rintro e w2 ⟨rfl, hb⟩
  have HB2 := Lib.hid (HB1.out.trans (hb.mono HB1.out.size))
  clear hb HI1 HB1
  go_wp2_with (fail)
  refine (toInts (HI.out.below HB2.out) (by have := HM.out; omega)).mono ?_
  rintro e w3 ⟨g3, rfl, hown, hb⟩
  have HB3 := Lib.hid (HB2.out.trans (hb.mono HB2.out.size))
  have HI3 := Lib.hid (intsAt_own hown)
  clear hb hown HB2
  go_wp2_with (fail)
  refine (implIntsText_any _ _ zs HI3.out HM.out HR.out (tab_below HT.out HB3.out)).mono ?_
  rintro e w4 ⟨rfl, hb⟩
  have HB4 := Lib.hid (HB3.out.trans (hb.mono HB3.out.size))
  have HI4 := Lib.hid (HI3.out.below hb)
  clear hb HI3 HB3
  go_wp2_with (fail)
  refine (toInts (HI.out.below HB4.out) (by have := HM.out; omega)).mono ?_
  rintro e w5 ⟨g5, rfl, hown, hb⟩
  have HB5 := Lib.hid (HB4.out.trans (hb.mono HB4.out.size))
  have HI5 := Lib.hid (intsAt_own hown)
  have HI4' := Lib.hid (HI4.out.below hb)
  clear hb hown HB4 HI4
  go_wp2_with (fail)
  refine (eqInts HI4'.out HI5.out (by have := HM.out; omega)).mono ?_
  rintro e w6 ⟨rfl, hb⟩
  have HB6 := Lib.hid (HB5.out.trans (hb.mono HB5.out.size))
  clear hb HB5
  go_wp2_with (fail)
  go_ret
  exact ⟨rfl, HB6.out⟩

set_option maxHeartbeats 400000 in
theorem big (a : Option Addr) (n cap : Nat) (w : World) (hn : 1048576 < n) (hm : n ≤ 9223372036854775807) :
    Calls Tryd.prog 3 #[.slice a n cap] w (Yes w) := by
  go_enter Tryd.func3, Tryd.ntmps3
  go_wp2
  go_ret
  exact ⟨rfl, Below.refl _ _⟩

end Go.Proofs.YtkpkgengdcleiaaDoor.ItLaw
