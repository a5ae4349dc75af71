import Derived.Test.YtbahdhedegpbbaaFerTa
/- A drawn region in which operations that change memory come in several orders: a tree of orders, each walked. Over any program. -/
namespace Fer
open Go

inductive OT where
  | nil : OT
  | one : Nat → OT → OT
  | two : Nat → OT → Nat → OT → OT

def OT.len : OT → Nat
  | .nil => 0
  | .one _ t => t.len + 1
  | .two _ t _ _ => t.len + 1

def OT.ok (ops : Array Oper) : OT → Array Bool → Bool
  | .nil, listed => (Region.ready .any ops listed).isEmpty
  | .one k t, listed => (((Region.ready .any ops listed).contains k && freeX ops listed k) || Region.ready .any ops listed == [k]) && t.ok ops (listed.setIfInBounds k true)
  | .two i t j u, listed => (Region.ready .any ops listed).all (fun k => k == i || k == j) && !(Region.ready .any ops listed).isEmpty && t.len == u.len && t.ok ops (listed.setIfInBounds i true) && u.ok ops (listed.setIfInBounds j true)

def otOK (ops : Array Oper) (t : OT) : Bool := Region.noSelect ops && t.len == ops.size && t.ok ops (Array.replicate ops.size false)

def wpTree (P : Program) (ops : Array Oper) (Q : Pins → Act → World → Prop) : OT → Pins → Act → World → Prop
  | .nil, pins, a, w => Q pins a w
  | .one i t, pins, a, w => match ops[i]? with
    | none => False
    | some o => kOper P ops o i pins a w (wpTree P ops Q t)
  | .two i t j u, pins, a, w => (match ops[i]? with
    | none => False
    | some o => kOper P ops o i pins a w (wpTree P ops Q t)) ∧ (match ops[j]? with
    | none => False
    | some o => kOper P ops o j pins a w (wpTree P ops Q u))

def xtree (C : Ctx) (ops : Array Oper) (K : XS → Prop) : OT → XS → Prop
  | .nil, s => K { s with pins := [] }
  | .one i t, s => match ops[i]? with
    | some o => xoper C true ops o i (xtree C ops K t) s
    | none => False
  | .two i t j u, s => (match ops[i]? with
    | some o => xoper C true ops o i (xtree C ops K t) s
    | none => False) ∧ (match ops[j]? with
    | some o => xoper C true ops o j (xtree C ops K u) s
    | none => False)

section
variable {P : Program} {C : Ctx} {w0 : World} {S0 : Nat → Prop} {s : XS} {ops : Array Oper}

theorem anyX_tree {Q : Pins → Act → World → Prop} (hs : Region.noSelect ops = true) : ∀ (t : OT) (listed : Array Bool) (pins : Pins) (a : Act) (w : World),
    t.ok ops listed = true → wpTree P ops Q t pins a w → wpAnyX P ops Q t.len listed pins a w
  | .nil, _, _, _, _, hB, h => ⟨by simpa [OT.ok] using hB, h⟩
  | .one k t, listed, pins, a, w, hB, h => by
    simp only [OT.ok, Bool.and_eq_true, Bool.or_eq_true, beq_iff_eq] at hB
    obtain ⟨hrf, hB'⟩ := hB
    simp only [wpTree] at h
    cases h0 : ops[k]? with
    | none => rw [h0] at h; exact h.elim
    | some o =>
      rw [h0] at h
      rcases hrf with ⟨hr, hf⟩ | hr
      case inr =>
        refine ⟨fun h1 => (by rw [h1] at hr; cases hr), fun j hj => ?_⟩
        rw [hr, List.mem_singleton] at hj
        subst hj
        unfold kOp
        rw [h0]
        exact kOper_mono (fun p a' w' h' => anyX_tree hs t _ p a' w' hB' h') h
      refine anyX_first h0 (Region.noSelect_spec hs) t.len listed pins a w (freeX_spec h0 hf) (by simpa using hr) ?_
      exact kOper_mono (fun p a' w' h' => anyX_tree hs t _ p a' w' hB' h') h
  | .two i t j u, listed, pins, a, w, hB, h => by
    simp only [OT.ok, Bool.and_eq_true, List.all_eq_true, Bool.or_eq_true, beq_iff_eq, Bool.not_eq_true'] at hB
    obtain ⟨⟨⟨⟨hr, hne⟩, hl⟩, hB1⟩, hB2⟩ := hB
    simp only [wpTree] at h
    refine ⟨fun h0 => (by rw [h0] at hne; cases hne), fun k hk => ?_⟩
    rcases hr k hk with rfl | rfl
    · have h := h.1
      unfold kOp
      cases h0 : ops[k]? with
      | none => rw [h0] at h; exact h.elim
      | some o => rw [h0] at h; exact kOper_mono (fun p a' w' h' => anyX_tree hs t _ p a' w' hB1 h') h
    · have h := h.2
      unfold kOp
      cases h0 : ops[k]? with
      | none => rw [h0] at h; exact h.elim
      | some o =>
        rw [h0] at h
        refine kOper_mono (fun p a' w' h' => ?_) h
        have := anyX_tree hs u _ p a' w' hB2 h'
        rwa [← hl] at this

theorem wp_region_tree {id : Nat} {Q : Exit → Act → World → Prop} {a : Act} {w : World} (t : OT) (hm : P.follows .mixedOrders = true) (hB : otOK ops t = true)
    (h : wpTree P ops (fun _ a' w' => Q .normal a' w') t noPins a { w with drawn := w.drawn + 1 }) : (Code.region id ops true).wp P Q a w := by
  simp only [otOK, Bool.and_eq_true, beq_iff_eq] at hB
  refine wp_region_any hm (wpAny_of_X (Q := fun _ a' w' => Q .normal a' w') (fun _ _ _ h => h) _ _ noPins _ _ ?_)
  have := anyX_tree hB.1.1 t (Array.replicate ops.size false) noPins a { w with drawn := w.drawn + 1 } hB.2 h
  rwa [hB.1.2] at this

theorem xoper_ok (hC : CtxOK P C) {o : Oper} {i : Nat} {K : XS → Prop} {K' : Pins → Act → World → Prop} {pc : Pins} {a : Act} {w : World}
    (hK : ∀ s pc a w, K s → Rel w0 S0 C.n true pc s a w → K' pc a w) (h : xoper C true ops o i K s) (R : Rel w0 S0 C.n true pc s a w) : kOper P ops o i pc a w K' := by
  obtain ⟨S, pl, R⟩ := R
  obtain ⟨hd, h⟩ := h
  have hd := dOK_lt hd
  simp only [kOper]
  split at h
  · exact h.elim
  · rename_i b hb
    rw [xwant_ok R hb]
    cases b with
    | true =>
      simp only [if_true]
      have := xdo_ok hC (R.known hb) hd h
      exact Out.k (this.mono fun pc' a' w' hh => by
        obtain ⟨s', h1, h2⟩ := hh
        exact hK s' pc' a' w' h1 h2)
    | false =>
      simp only [Bool.false_eq_true, if_false]
      exact hK _ pc _ w h ⟨S, pl, (R.known hb).skip hd⟩

theorem xtree_ok (hC : CtxOK P C) {K : XS → Prop} {Q : Act → World → Prop} (hK : ∀ s a w, K s → Rel w0 S0 C.n false noPins s a w → Q a w) :
    ∀ (t : OT) (s : XS) (pc : Pins) (a : Act) (w : World), xtree C ops K t s → Rel w0 S0 C.n true pc s a w → wpTree P ops (fun _ a w => Q a w) t pc a w
  | .nil, s, pc, a, w, h, ⟨S, pl, R⟩ => hK _ a w h ⟨S, pl, { R with pins := (fun h => by cases h) }⟩
  | .one i t, s, pc, a, w, h, R => by
    simp only [xtree] at h
    simp only [wpTree]
    cases ho : ops[i]? with
    | none => rw [ho] at h; exact h.elim
    | some o =>
      rw [ho] at h
      exact xoper_ok hC (fun s' pc' a' w' h1 h2 => xtree_ok hC hK t s' pc' a' w' h1 h2) h R
  | .two i t j u, s, pc, a, w, h, R => by
    simp only [xtree] at h
    simp only [wpTree]
    constructor
    · have h := h.1
      cases ho : ops[i]? with
      | none => rw [ho] at h; exact h.elim
      | some o =>
        rw [ho] at h
        exact xoper_ok hC (fun s' pc' a' w' h1 h2 => xtree_ok hC hK t s' pc' a' w' h1 h2) h R
    · have h := h.2
      cases ho : ops[j]? with
      | none => rw [ho] at h; exact h.elim
      | some o =>
        rw [ho] at h
        exact xoper_ok hC (fun s' pc' a' w' h1 h2 => xtree_ok hC hK u s' pc' a' w' h1 h2) h R

theorem xtree_nil {K : XS → Prop} (h : K { s with pins := [] }) : xtree C ops K .nil s := h
theorem xtree_one {K : XS → Prop} {i : Nat} {o : Oper} {t : OT} (ho : ops[i]? = some o) (h : xoper C true ops o i (xtree C ops K t) s) : xtree C ops K (.one i t) s := by
  simp only [xtree, ho]; exact h
theorem xtree_two {K : XS → Prop} {i j : Nat} {t u : OT} (h1 : xtree C ops K (.one i t) s) (h2 : xtree C ops K (.one j u) s) : xtree C ops K (.two i t j u) s := ⟨h1, h2⟩

theorem XW.tree {Q : Exit → XS → Prop} (hC : CtxOK P C) (hm : P.follows .mixedOrders = true) {id : Nat} (t : OT) (hB : otOK ops t = true) (h : ∀ K : XS → Prop, (∀ s, Q .normal s → K s) → xtree C ops K t s) : XW P C w0 S0 (.region id ops true) Q s := fun a w R => by
  refine wp_region_tree t hm hB (xtree_ok hC (Q := fun a w => ∃ s', Q .normal s' ∧ Rel w0 S0 C.n false noPins s' a w) (K := fun s => Q .normal s) (fun s a w hK R => ⟨s, hK, R⟩) t s noPins a _ (h _ fun _ h => h) ?_)
  obtain ⟨S, pl, R⟩ := R
  have R' := R.grown (Grew.drew w)
  exact ⟨S, pl, { R' with pins := (fun _ i b h => h.elim) }⟩

end
end Fer
