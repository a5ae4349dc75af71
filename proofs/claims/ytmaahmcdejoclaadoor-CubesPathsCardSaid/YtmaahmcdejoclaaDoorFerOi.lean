import Derived.Test.YtmaahmcdejoclaaDoorFerOh
/- Plain facts: slides into the first box; evacuation. No program in sight. -/
set_option maxHeartbeats 1000000
namespace Fer

abbrev z0 : Nat → Nat := fun _ => 0
theorem Sk.hole {s : List (List Int)} {hs : Nat → Nat} (h : Sk s hs s.length 0) (i j : Nat) : Sk s hs i j := by
  have hin : ∀ k l, l < ln s k → k < s.length := fun k l g => by
    by_cases e : k < s.length
    · exact e
    · rw [ln_out (by omega)] at g; omega
  refine ⟨h.pos, h.dec, h.hm, h.hl, h.zer, fun k l g1 g2 _ => h.lt k l g1 g2 (by have := hin k l g2; omega), fun k l k' l' g1 g2 g3 g4 _ _ => ?_⟩
  have := hin k' l' g4
  exact h.ord k l k' l' g1 g2 g3 g4 (by omega) (by omega)
/-! ### Shapes of what is cut -/

end Fer
