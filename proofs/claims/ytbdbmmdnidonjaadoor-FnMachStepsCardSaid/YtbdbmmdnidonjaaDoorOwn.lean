/- Small facts on rows of the call's own. -/
import Derived.Test.YtbdbmmdnidonjaaDoorInt
import Derived.Carry
import Derived.Deep.AppendLies
set_option maxRecDepth 100000
namespace Go.Proofs.YtbdbmmdnidonjaaDoor
open Go.RowKit

theorem info_str : (Tryd.prog.info? 9).map (fun i => (i.zero, i.size, i.bytes)) = some (some (.string .empty), 1, 16) := by kernel_rfl
theorem ownBlock_of {B : Nat} {w : World} {e : TypeId} {size : Nat} {v : Value} {n : Nat} {xs : List Value} (h : w.ownsRow B e size v n xs) (k : Nat) (hk : v.ownBlock = some k) : B ≤ k := by
  rcases h.2 with ⟨rfl, _⟩ | ⟨g, cap, cur, rfl, hg, _⟩
  · simp [Value.ownBlock] at hk
  · simp [Value.ownBlock] at hk; omega
theorem ownsRow_empty (w : World) (e : TypeId) (size : Nat) : (w.alloc (.cells #[] e)).ownsRow w.heap.size e size (.slice (some ⟨w.heap.size, 0, none⟩) 0 0) 0 [] :=
  ⟨by simp, .inr ⟨_, 0, #[], rfl, Nat.le_refl _, by (show (w.heap.push _)[w.heap.size]? = _); simp, Nat.le_refl _, by decide, by simp, by simp⟩⟩
theorem ownsRow_lt {B : Nat} {w : World} {e : TypeId} {size : Nat} {g n cap : Nat} {xs : List Value} (h : w.ownsRow B e size (.slice (some ⟨g, 0, none⟩) n cap) n xs) : g < w.heap.size ∧ B ≤ g ∧ n ≤ cap := by
  rcases h.2 with ⟨h', _⟩ | ⟨g', cap', cur, h', hg, hh, hnc, _⟩
  · simp at h'
  · injection h' with h1 _ h2
    injection h1 with h1
    injection h1 with h1
    subst h1; subst h2
    refine ⟨?_, hg, hnc⟩
    rcases Nat.lt_or_ge g w.heap.size with hl | hl
    · exact hl
    · simp [Array.getElem?_eq_none hl] at hh
theorem ownsRow_form {B : Nat} {w : World} {e : TypeId} {size : Nat} {v : Value} {n : Nat} {xs : List Value} (h : w.ownsRow B e size v n xs) (hne : v ≠ .slice none 0 0) : ∃ g cap, v = .slice (some ⟨g, 0, none⟩) n cap := by
  rcases h.2 with ⟨h', _⟩ | ⟨g', cap', cur, h', _⟩
  · exact absurd h' hne
  · exact ⟨g', cap', h'⟩
theorem intsAt_of {w : World} {B : Nat} {v : Value} {zs : List Int} (h : w.ownsRow B 3 1 v zs.length (ints zs)) : IntsAt w v zs := by
  rcases h.2 with ⟨rfl, h0⟩ | ⟨g, cap, cur, rfl, _⟩
  · have : zs = [] := by simpa using h0
    subst this
    exact ⟨none, 0, rfl, by simp⟩
  · exact intsAt_own h
/-- a row of the call's own stands while what is below its base may turn -/
theorem ownsRow_below {w w' : World} {B : Nat} {e : TypeId} {size : Nat} {v : Value} {n : Nat} {xs : List Value} (h : w.ownsRow B e size v n xs) (hb : Below w.heap.size w w') : w'.ownsRow B e size v n xs :=
  ownsRow_only h (Only.of_below hb []) (by simp)

theorem ownsRow_mono {w : World} {B B' : Nat} {e : TypeId} {size : Nat} {v : Value} {n : Nat} {xs : List Value} (h : w.ownsRow B e size v n xs) (hB : B' ≤ B) : w.ownsRow B' e size v n xs := by
  obtain ⟨h1, h2⟩ := h
  refine ⟨h1, ?_⟩
  rcases h2 with h2 | ⟨g, cap, cur, hv, hg, r⟩
  · exact .inl h2
  · exact .inr ⟨g, cap, cur, hv, Nat.le_trans hB hg, r⟩
/-- a row stands while another row grows -/
theorem ownsRow_other {w w' : World} {B : Nat} {e : TypeId} {size : Nat} {g n cap : Nat} {xs : List Value} {row : Option Nat} (h : w.ownsRow B e size (.slice (some ⟨g, 0, none⟩) n cap) n xs) (hg : w.grownBy w' row) (hr : row ≠ some g) : w'.ownsRow B e size (.slice (some ⟨g, 0, none⟩) n cap) n xs := by
  have hlt := (ownsRow_lt h).1
  obtain ⟨h1, h2⟩ := h
  refine ⟨h1, ?_⟩
  rcases h2 with h2 | ⟨g', cap', cur, hv, hg', hh, r⟩
  · exact .inl h2
  · have e : g' = g := by
      injection hv with hv _ _
      injection hv with hv
      injection hv with hv
      exact hv.symm
    subst e
    exact .inr ⟨g', cap', cur, hv, hg', by rw [hg.block g' hlt (fun e => hr e.symm)]; exact hh, r⟩

end Go.Proofs.YtbdbmmdnidonjaaDoor
