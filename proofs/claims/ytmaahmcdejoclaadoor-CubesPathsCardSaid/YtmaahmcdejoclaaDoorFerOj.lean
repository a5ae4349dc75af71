import Derived.Test.YtmaahmcdejoclaaDoorFerOi
/- Plain facts: evacuation, step by step. No program in sight. -/
set_option maxHeartbeats 1000000
namespace Fer

/-- A standard tableau: its word. -/
structure StdW (N : Nat) (w : List Int) : Prop where
  nodup : w.Nodup
  rng : ∀ x ∈ w, 1 ≤ x ∧ x ≤ (N : Int)
  all : ∀ x : Int, 1 ≤ x → x ≤ (N : Int) → x ∈ w
noncomputable def evL (t : List (List Int)) : List (List Int) := intoW [] (rc t.flatten.length (wordR t))
/-- What holds after j slides. -/
structure EvI (t s out : List (List Int)) (j : Nat) : Prop where
  eq : s = intoW [] ((wordR t).filter fun x => decide ((j : Int) < x))
  sk : Sk s z0 s.length 0
  fl : s.flatten.length ≤ 40
  len : out.length = t.length
  lns : ∀ k, ln out k = ln t k
  cell : ∀ k l, ln s k ≤ l → l < ln t k → vl out k l = vl (evL t) k l
  le : ∀ k, ln s k ≤ ln t k
end Fer
