/- A call of a function of the machine begins: impl's newCall, slices.Clone. -/
import Derived.Test.YtbdbmmdnidonjaaDoorSt
import Derived.Deep.RegionLaw
set_option maxRecDepth 100000
namespace Go.Proofs.YtbdbmmdnidonjaaDoor
open Go.RowKit

/-- a new row with these numbers (or nil, if there are none) -/
def CloPost (xs : List Nat) (w : World) (e : Ending) (w' : World) : Prop :=
  ∃ v, e = .returned v ∧ w'.ownsRow w.heap.size 3 1 v xs.length (nats xs) ∧ Below w.heap.size w w'

set_option maxHeartbeats 1000000 in
theorem clone_none (w : World) : Calls Tryd.prog 104 #[.slice none 0 0] w (CloPost [] w) := by
  have qT : ∀ (w : World) (a : Option Addr) (n c n' c' : Nat), (binOp .eql 26 (.slice a n c) (.slice none n' c')).run Tryd.prog w = .ok (.bool a.isNone) w := fun w a n c n' c' => Lib.run_eql_slice_nil w _ _ a n c n' c' Tryd.underlying26
  go_enter Tryd.func104, Tryd.ntmps104
  go_wp2_with (fail)
  go_ret
  exact ⟨_, rfl, World.ownsRow_nil _ _ _ _, Below.refl _ _⟩

set_option maxHeartbeats 1000000 in
theorem clone_some (w : World) (b off n cap : Nat) (xs : List Nat) (hn : xs.length = n) (hm : n ≤ 1048576) (hc : ∀ i, i < n → w.cell? ⟨b, off + i, none⟩ = some (.int .i64 ((xs.getD i 0 : Nat) : Int))) :
    Calls Tryd.prog 104 #[.slice (some ⟨b, off, none⟩) n cap] w (CloPost xs w) := by
  have qT : ∀ (w : World) (a : Option Addr) (n c n' c' : Nat), (binOp .eql 26 (.slice a n c) (.slice none n' c')).run Tryd.prog w = .ok (.bool a.isNone) w := fun w a n c n' c' => Lib.run_eql_slice_nil w _ _ a n c n' c' Tryd.underlying26
  obtain ⟨i0, hi, hz0, hz1, hz2⟩ := info_parts info_int
  have HNEWS : Hid (∀ j u, (nats xs)[j]? = some u → (w.alloc (.cells #[] 3)).cell? ((⟨b, off, none⟩ : Addr).add j) = some u) := by
    apply Lib.hid
    intro j u hu
    have hj : j < xs.length := by
      rcases Nat.lt_or_ge j xs.length with h | h
      · exact h
      · rw [List.getElem?_eq_none (by rw [nats_len]; exact h)] at hu; cases hu
    rw [nats_get hj] at hu
    have h2 := hc j (by omega)
    rw [Arg.add_eq, World.cell?_alloc_past _ _ _ (World.block_lt_of_cell? _ _ h2), h2]
    exact hu
  have HN := Lib.hid hn
  clear hc hn
  go_enter Tryd.func104, Tryd.ntmps104
  go_wp2_with (at_builtin; refine wpList_append_own _ rfl _ _ 26 (by rfl) w.heap.size 3 i0 (.int .i64 0) 1 8 Tryd.underlying26 hi hz0 hz1 hz2 rfl (by decide) _ 0 [] (by rfl) (ownsRow_empty w 3 1) ⟨b, off, none⟩ n cap (nats xs) (by rfl) (by rw [nats_len, HN.out]; omega) HNEWS.out (by simp [nats, Value.oneCell']) (by unfold maxLen; omega) (by omega) (by simp) ?_; intro v w2 hown hg _; have HOW := Lib.hid hown; have HB := Lib.hid ((below1 w _).grown hg (by simp) (fun k hk => by simp [Value.ownBlock] at hk; omega)); clear hown hg)
  go_ret
  have h := HOW.out
  rw [Nat.zero_add, List.nil_append] at h
  exact ⟨_, rfl, by rw [HN.out]; exact h, HB.out⟩

theorem inAt_row {w : World} {B : Nat} {v : Value} {xs : List Nat} (h : w.ownsRow B 3 1 v xs.length (nats xs)) {P : Nat → Prop} (hP : ∀ g, v.ownBlock = some g → B ≤ g → g < w.heap.size → P g) : InAt w v xs P := by
  rcases h.2 with ⟨rfl, h0⟩ | ⟨g, cap, cur, rfl, hg, hh, _, _, _, ht⟩
  · exact ⟨none, 0, by rw [h0], .inl (List.length_eq_zero_iff.1 h0)⟩
  · refine ⟨_, _, rfl, .inr ⟨g, cur.toList.drop (xs.length * 1), rfl, ⟨cur, _, hh, ?_⟩, hP g rfl hg (Array.getElem?_eq_some_iff.1 hh).1⟩⟩
    rw [← ht, List.take_append_drop]

end Go.Proofs.YtbdbmmdnidonjaaDoor
