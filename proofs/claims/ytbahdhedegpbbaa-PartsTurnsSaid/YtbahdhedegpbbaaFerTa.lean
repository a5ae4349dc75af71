import Derived.Test.YtbahdhedegpbbaaFerT
/- A region in another order: operations that look at no memory go ahead of others. Over any program. -/
namespace Fer
open Go

def notSel (o : Oper) : Bool := match o.op with | .select _ _ => false | _ => true
theorem notSel_spec {o : Oper} (h : notSel o = true) : ∀ cs b, o.op ≠ .select cs b := by
  intro cs b e
  simp [notSel, e] at h

def swapAt : List Nat → Nat → List Nat
  | i :: j :: l, 0 => j :: i :: l
  | i :: l, k + 1 => i :: swapAt l k
  | l, _ => l
def swapB (ops : Array Oper) : List Nat → Nat → Bool
  | i :: j :: _, 0 => match ops[i]?, ops[j]? with
    | some oi, some oj => oj.apart ops oi && okMate (okind oj.op) (okind oi.op) && !waitsOn oi j && notSel oi && notSel oj
    | _, _ => false
  | _ :: l, k + 1 => swapB ops l k
  | _, _ => false
def ordOf : List Nat → List Nat → List Nat
  | l, [] => l
  | l, k :: ks => ordOf (swapAt l k) ks
def ordsB (ops : Array Oper) : List Nat → List Nat → Bool
  | _, [] => true
  | l, k :: ks => swapB ops l k && ordsB ops (swapAt l k) ks

section
variable {P : Program} {C : Ctx} {w0 : World} {S0 : Nat → Prop} {s : XS} {ops : Array Oper}

theorem wpOrd_swap {Q : Pins → Act → World → Prop} : ∀ (l : List Nat) (k : Nat) (pins : Pins) (a : Act) (w : World), swapB ops l k = true → wpOrd P ops Q (swapAt l k) pins a w → wpOrd P ops Q l pins a w
  | i :: j :: l, 0, pins, a, w, hB, h => by
    simp only [swapB] at hB
    simp only [swapAt, wpOrd] at h ⊢
    cases hi : ops[i]? with
    | none => rw [hi] at hB; simp at hB
    | some oi =>
      cases hj : ops[j]? with
      | none => rw [hi, hj] at hB; simp at hB
      | some oj =>
        rw [hi, hj] at hB
        simp only [hi, hj] at h ⊢
        simp only [Bool.and_eq_true, Bool.not_eq_true'] at hB
        obtain ⟨⟨⟨⟨b1, b2⟩, b3⟩, b4⟩, b5⟩ := hB
        exact k_swap b1 (notSel_spec b5) (notSel_spec b4) b2 b3 h
  | i :: l, k + 1, pins, a, w, hB, h => by
    have hB' : swapB ops l k = true := by
      cases l with
      | nil => simp [swapB] at hB
      | cons j l => simpa [swapB] using hB
    have h' : wpOrd P ops Q (i :: swapAt l k) pins a w := by
      cases l with
      | nil => exact h
      | cons j l => simpa [swapAt] using h
    simp only [wpOrd] at h' ⊢
    cases hi : ops[i]? with
    | none => rw [hi] at h'; exact h'
    | some oi =>
      simp only [hi] at h' ⊢
      exact kOper_mono (fun p a w h => wpOrd_swap l k p a w hB' h) h'
  | [], _, _, _, _, hB, _ => by simp [swapB] at hB
  | [i], 0, _, _, _, hB, _ => by simp [swapB] at hB

theorem wpOrd_ords {Q : Pins → Act → World → Prop} : ∀ (ks l : List Nat) (pins : Pins) (a : Act) (w : World), ordsB ops l ks = true → wpOrd P ops Q (ordOf l ks) pins a w → wpOrd P ops Q l pins a w
  | [], _, _, _, _, _, h => h
  | k :: ks, l, pins, a, w, hB, h => by
    simp only [ordsB, Bool.and_eq_true] at hB
    exact wpOrd_swap l k pins a w hB.1 (wpOrd_ords ks _ pins a w hB.2 h)

theorem list_of_ord {Q : Exit → Act → World → Prop} {Q' : Act → World → Prop} (hQ : ∀ a w, Q' a w → Q .normal a w) : ∀ (l : List Oper) (i : Nat) (pins : Pins) (a : Act) (w : World), (∀ j o, l[j]? = some o → ops[i + j]? = some o) →
    wpOrd P ops (fun _ a w => Q' a w) (List.range' i l.length) pins a w → wpList P ops Q l a w
  | [], _, _, a, w, _, h => hQ a w h
  | o :: l, i, pins, a, w, hl, h => by
    have ho : ops[i]? = some o := by simpa using hl 0 o (by simp)
    simp only [List.length_cons, List.range'_succ, wpOrd, ho] at h
    have h' := kOper_mono (K' := fun _ a w => wpList P ops Q l a w) (fun p a w h => list_of_ord hQ l (i + 1) p a w (fun j o' hj => by rw [show i + 1 + j = i + (j + 1) by omega]; exact hl (j + 1) o' (by simpa using hj)) h) h
    simp only [wpList]
    unfold kOper at h'
    split
    · rename_i hw
      rw [if_pos hw] at h'
      exact .inl (kUpon_wp h')
    · rename_i hw
      rw [if_neg hw] at h'
      exact h'

theorem xord_cons {K : XS → Prop} {i : Nat} {o : Oper} {l : List Nat} (ho : ops[i]? = some o) (h : xoper C true ops o i (xord C ops K l) s) : xord C ops K (i :: l) s := by
  simp only [xord, ho]; exact h
theorem xord_nil {K : XS → Prop} (h : K { s with pins := [] }) : xord C ops K [] s := h

theorem XW.swapped {Q : Exit → XS → Prop} (hC : CtxOK P C) {id : Nat} (ks l : List Nat) (hB : ordsB ops (List.range' 0 ops.toList.length) ks = true) (hl : ordOf (List.range' 0 ops.toList.length) ks = l) (h : ∀ K : XS → Prop, (∀ s, Q .normal s → K s) → xord C ops K l s) : XW P C w0 S0 (.region id ops false) Q s := fun a w R => by
  subst hl
  refine wp_region_list (list_of_ord (Q' := fun a w => ∃ s', Q .normal s' ∧ Rel w0 S0 C.n false noPins s' a w) (fun a w h => h) ops.toList 0 noPins a w (fun j o hj => by simpa using hj) (wpOrd_ords ks _ noPins a w hB ?_))
  refine xord_ok hC (Q := fun a w => ∃ s', Q .normal s' ∧ Rel w0 S0 C.n false noPins s' a w) (K := fun s => Q .normal s) (fun s a w hK R => ⟨s, hK, R⟩) _ s noPins a _ (h _ fun _ h => h) ?_
  obtain ⟨S, pl, R⟩ := R
  exact ⟨S, pl, { R with pins := (fun _ i b h => h.elim) }⟩

end
end Fer
