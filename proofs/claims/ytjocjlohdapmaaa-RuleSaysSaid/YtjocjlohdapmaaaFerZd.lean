import Derived.Test.YtjocjlohdapmaaaFerMa
namespace Fer


def sgn (n : Nat) : Int := if n % 2 = 0 then 1 else -1
def cntGt (a : Int) (l : List Int) : Nat := (l.filter fun b => decide (a < b)).length
def invN : List Int → Nat
  | [] => 0
  | a :: l => cntGt a l + invN l
def idx (n : Nat) : List Int := (List.range n).map fun i : Nat => (i : Int)
open Classical in
noncomputable def base (x : List Int) : Int := if x.Perm (idx x.length) then sgn (invN x) else 0


def upd (x : List Int) (i : Nat) (k : Int) : List Int := x.set i (x.getD i 0 - k)


end Fer

namespace Fer

def beads : List Int → List Int
  | [] => []
  | a :: p => (a + p.length) :: beads p
def unb : List Int → List Int
  | [] => []
  | b :: l => (b - l.length) :: unb l
structure PartL (p : List Int) : Prop where
  pos : ∀ a ∈ p, 1 ≤ a
  fall : p.Pairwise (fun a b => b ≤ a)

def sumL (l : List Int) : Int := l.foldr (· + ·) 0
theorem sumL_cons (a : Int) (l : List Int) : sumL (a :: l) = a + sumL l := rfl
theorem sumL_pos : ∀ {l : List Int}, (∀ a ∈ l, 1 ≤ a) → (l.length : Int) ≤ sumL l
  | [], _ => by simp [sumL]
  | a :: l, h => by
    have := sumL_pos fun x hx => h x (List.mem_cons_of_mem _ hx)
    have := h a List.mem_cons_self
    rw [sumL_cons]
    simp only [List.length_cons]
    omega

def stepL (p : List Int) (k : Int) (i : Nat) : Option (List Int × Int) :=
  if (beads p).getD i 0 - k < 0 ∨ (beads p).getD i 0 - k ∈ beads p then none else
  some ((unb ((beads p).take i ++ ((beads p).drop (i + 1)).takeWhile (fun b => decide ((beads p).getD i 0 - k < b)) ++ ((beads p).getD i 0 - k) :: ((beads p).drop (i + 1)).dropWhile (fun b => decide ((beads p).getD i 0 - k < b)))).filter (fun a => decide (0 < a)),
    ((((beads p).drop (i + 1)).takeWhile (fun b => decide ((beads p).getD i 0 - k < b))).length : Nat))
def strips (p : List Int) (k : Int) : List (List Int × Int) := (List.range p.length).reverse.filterMap (stepL p k)
end Fer

namespace Fer

end Fer

namespace Fer

def cmpL : List Int → List Int → Int
  | [], [] => 0
  | [], _ :: _ => -1
  | _ :: _, [] => 1
  | a :: x, b :: y => if a < b then -1 else if b < a then 1 else cmpL x y
theorem cmpL_self : ∀ x, cmpL x x = 0
  | [] => rfl
  | a :: x => by simp [cmpL, cmpL_self x]
theorem cmpL_neg : ∀ x y, cmpL y x = - cmpL x y
  | [], [] => rfl
  | [], _ :: _ => rfl
  | _ :: _, [] => rfl
  | a :: x, b :: y => by
    unfold cmpL
    by_cases h1 : a < b
    · rw [if_neg (by omega), if_pos h1, if_pos h1]; rfl
    · by_cases h2 : b < a
      · rw [if_pos h2, if_neg h1, if_pos h2]
      · rw [if_neg h2, if_neg h1, if_neg h1, if_neg h2, cmpL_neg x y]
theorem cmpL_eq : ∀ {x y}, cmpL x y = 0 → x = y
  | [], [], _ => rfl
  | [], _ :: _, h => by simp [cmpL] at h
  | _ :: _, [], h => by simp [cmpL] at h
  | a :: x, b :: y, h => by
    unfold cmpL at h
    split at h
    · omega
    · split at h
      · omega
      · rw [cmpL_eq h, show a = b by omega]
theorem cmpL_trans : ∀ {x y z}, cmpL x y ≤ 0 → cmpL y z ≤ 0 → cmpL x z ≤ 0 ∧ (cmpL x z = 0 → cmpL x y = 0 ∧ cmpL y z = 0)
  | [], [], [], _, _ => by simp [cmpL]
  | [], [], _ :: _, _, _ => by simp [cmpL]
  | [], _ :: _, [], _, h => by simp [cmpL] at h
  | [], _ :: _, _ :: _, _, _ => by simp [cmpL]
  | _ :: _, [], _, h, _ => by simp [cmpL] at h
  | _ :: _, _ :: _, [], _, h => by simp [cmpL] at h
  | a :: x, b :: y, c :: z, h1, h2 => by
    have ih := @cmpL_trans x y z
    unfold cmpL at h1 h2 ⊢
    by_cases a1 : a < b
    · by_cases b1 : b < c
      · rw [if_pos (by omega)]; omega
      · by_cases b2 : c < b
        · rw [if_neg b1, if_pos b2] at h2; omega
        · rw [if_pos (by omega)]; omega
    · by_cases a2 : b < a
      · rw [if_neg a1, if_pos a2] at h1; omega
      · rw [if_neg a1, if_neg a2] at h1 ⊢
        by_cases b1 : b < c
        · rw [if_pos (by omega)]; omega
        · by_cases b2 : c < b
          · rw [if_neg b1, if_pos b2] at h2; omega
          · rw [if_neg b1, if_neg b2] at h2 ⊢
            rw [if_neg (by omega), if_neg (by omega)]
            exact ih h1 h2
theorem cmpL_lt {x y z : List Int} (h1 : cmpL x y < 0) (h2 : cmpL y z ≤ 0) : cmpL x z < 0 := by
  obtain ⟨h3, h4⟩ := cmpL_trans (Int.le_of_lt h1) h2
  rcases Int.lt_or_eq_of_le h3 with h | h
  · exact h
  · have := (h4 h).1; omega

end Fer

namespace Fer

theorem sum_nil {x : List Int} (h : ∀ a ∈ x, 1 ≤ a) (hs : sumL x = 0) : x = [] := by
  have := sumL_pos h
  exact List.length_eq_zero_iff.1 (by omega)


end Fer
