/- FnExactReadInts answers true for every string. Premise of the walk: the library's variable MaxLen holds a number. -/
import Derived.Test.YtkpkgengdcleiaaDoorRii
import Derived.Test.YtkpkgengdcleiaaDoorMark
import Derived.Test.YtkpkgengdcleiaaDoorLaid
set_option maxRecDepth 100000
namespace Go.Proofs.YtkpkgengdcleiaaDoor.RiLaw
open Go.RowKit

set_option maxHeartbeats 2000000 in
theorem small (w : World) (s : ByteArray) (m : Int) (hm : s.size ≤ 1048576) (hml : w.cell? ⟨0, 0, none⟩ = some (.int .i64 m)) :
    Calls Tryd.prog 4 #[.string s] w (Yes w) := by
  have HSpec := Lib.hid (specReadInts_any w s hm)
  have HImp := Lib.hid (fun w' => implReadInts_any w' s m hm)
  unfold RiPost at HSpec HImp
  have hrl : (riOf s.data.toList).2.length ≤ 1048578 := by
    unfold riOf
    split
    · simp
    · split
      · simp
      · split
        · simp only [List.length_map]; omega
        · simp
  generalize riOf s.data.toList = R at *
  obtain ⟨ok, zs⟩ := R
  simp only at HSpec HImp hrl
  have hlt := World.block_lt_of_cell? _ _ hml
  have HML := Lib.hid hml
  clear hml
  go_enter Tryd.func4, Tryd.ntmps4
  go_wp2_with (fail)
  refine HSpec.out.mono ?_
  rintro e w1 ⟨v0, rfl, hown, hb⟩
  have HB1 := Lib.hid hb
  have HI0 := Lib.hid (intsAt_of hown)
  clear hb hown HSpec
  have hc1 : w1.cell? ⟨0, 0, none⟩ = some (.int .i64 m) := by rw [HB1.out.cell hlt]; exact HML.out
  have HC1 := Lib.hid hc1
  clear hc1
  go_wp2_with (fail)
  refine (HImp.out w1 HC1.out).mono ?_
  rintro e w2 ⟨v1, rfl, hown, hb⟩
  have HB2 := Lib.hid hb
  have HO1 := Lib.hid hown
  have HI1 := Lib.hid (intsAt_of hown)
  have HI02 := Lib.hid (HI0.out.below hb)
  clear hb hown
  go_wp2_with (fail)
  refine (eqInts HI1.out HI02.out (by omega)).mono ?_
  rintro e w3 ⟨rfl, hb⟩
  have HB3 := Lib.hid (HB2.out.trans (hb.mono HB2.out.size))
  have HO3 := Lib.hid (ownsRow_below HO1.out hb)
  clear hb HO1 HI1 HI02 HB2
  have e1 : (!true) = false := rfl
  go_wp2_with (fail)
  refine (markIntS_any w3 w1.heap.size v1 _ 1 _ HO3.out (by omega)).mono ?_
  rintro e w4 ⟨rfl, hown, hb⟩
  have HB4 := Lib.hid (HB3.out.trans hb)
  have HO4 := Lib.hid hown
  have hI : IntsAt w4 v1 (iota 1 zs.length) := intsAt_of (by rw [iota_length]; exact hown)
  have HI4 := Lib.hid hI
  clear hb hown HO3 HB3 hI
  obtain ⟨q, hq⟩ : ∃ q : Nat, q = 1 + zs.length := ⟨_, rfl⟩
  rw [← hq]
  have HQ := Lib.hid hq
  have hq0 : 0 ≤ (q : Int) := by omega
  clear hq
  go_wp2_with (fail)
  refine (heldIntS_any w4 v1 zs.length 1 HI4.out (by omega)).mono ?_
  rintro e w5 ⟨rfl, rfl⟩
  rw [← HQ.out]
  go_wp2_with (fail)
  have hsz1 := HB1.out.size
  refine (HImp.out w4 (by rw [HB4.out.cell (World.block_lt_of_cell? _ _ HC1.out)]; exact HC1.out)).mono ?_
  rintro e w5 ⟨v2, rfl, hown, hb⟩
  have HB5 := Lib.hid (HB4.out.trans (hb.mono HB4.out.size))
  have HI2 := Lib.hid (intsAt_of hown)
  have HI5 := Lib.hid (HI4.out.below hb)
  clear hb hown HB4 HI4 HO4
  go_wp2_with (fail)
  refine (eqInts HI2.out (HI0.out.below HB5.out) (by omega)).mono ?_
  rintro e w6 ⟨rfl, hb⟩
  have HB6 := Lib.hid (HB5.out.trans (hb.mono HB5.out.size))
  have HI6 := Lib.hid (HI5.out.below hb)
  clear hb HB5 HI5
  go_wp2_with (fail)
  refine (heldIntS_any w6 v1 zs.length 1 HI6.out (by omega)).mono ?_
  rintro e w7 ⟨rfl, rfl⟩
  rw [← HQ.out]
  go_wp2_with (fail)
  go_ret
  exact ⟨rfl, HB1.out.trans (HB6.out.mono HB1.out.size)⟩

set_option maxHeartbeats 400000 in
theorem big (s : ByteArray) (w : World) (hn : 1048576 < s.size) (hm : s.size ≤ 9223372036854775807) :
    Calls Tryd.prog 4 #[.string s] w (Yes w) := by
  go_enter Tryd.func4, Tryd.ntmps4
  go_wp2
  go_ret
  exact ⟨rfl, Below.refl _ _⟩

end Go.Proofs.YtkpkgengdcleiaaDoor.RiLaw
