/-
  Walks: all pairs of two tableaux. No condition.
-/
import Derived.Test.YtkekijblmalkdaaRows
import Derived.Test.YtkekijblmalkdaaPrB
import Derived.Test.YtkekijblmalkdaaPrC
set_option linter.unusedSimpArgs false
set_option linter.unusedVariables false
set_option maxHeartbeats 1000000
-- SPECS: tL, tI, tB, LI, NI, LLI, tLL, LPR, tPR, spL, spLI, spIL, spLL, spT, spTT, spTI, spTQ, searchSp, twinSp, takSp, revSp, undSp
namespace Fer
open Go Go.Proofs

def spTQ (f : List (List Int) → List (List Int) → (List TV → Prop) → Prop) : Spec := ⟨[LLI, LLI], fun args K => match args with | [⟨.list _ (.list _ (.int _)), l⟩, ⟨.list _ (.list _ (.int _)), m⟩] => f l m K | _ => False⟩
theorem at_TQ {f : List (List Int) → List (List Int) → (List TV → Prop) → Prop} {args : List TV} {K : List TV → Prop} (ht : args.map (·.t) = (spTQ f).ps) (hK : (spTQ f).wp args K) : ∃ l m, args = [tLL l, tLL m] ∧ f l m K := by
  match args, ht, hK with
  | [⟨t, x⟩, ⟨u, y⟩], ht, hK =>
    simp only [spTQ, List.map_cons, List.map_nil, List.cons.injEq, and_true] at ht
    obtain ⟨rfl, rfl⟩ := ht
    exact ⟨x, y, rfl, hK⟩
  | [], ht, _ => simp [spTQ] at ht
  | [_], ht, _ => simp [spTQ] at ht
  | _ :: _ :: _ :: _, ht, _ => simp [spTQ] at ht
def undSp (n : Nat) : Spec := spTQ fun p q K => PQ p q ∧ p.flatten.length < n ∧ n ≤ 41 ∧ K [tPR (und p q).reverse]

theorem pq_size {p q : List (List Int)} {n : Nat} (h : PQ p q) (hf : p.flatten.length ≤ n) : p.length ≤ n ∧ q.length ≤ n ∧ (∀ i, (p.getD i []).length ≤ n) ∧ ∀ i, (q.getD i []).length ≤ n := by
  have h1 := tab_length h.1
  have key : ∀ i, (p.getD i []).length ≤ n := fun i => by
    by_cases hi : i < p.length
    · have := row_le_flatten hi; omega
    · rw [List.getD_eq_getElem?_getD, List.getElem?_eq_none (by omega)]; exact Nat.zero_le _
  exact ⟨by omega, by rw [← h.2.2.1]; omega, key, fun i => by rw [← h.2.2.2]; exact key i⟩

end Fer
