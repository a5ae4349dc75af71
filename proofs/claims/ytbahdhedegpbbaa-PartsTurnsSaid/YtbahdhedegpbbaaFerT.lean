/- The abstract machine: control; loops; functions. Over any program. -/
import Derived.Test.YtbahdhedegpbbaaFerS
namespace Fer
open Go

/-! ### One state serves for another -/

def fitD (t t' : Ty) (x : t.den) (y : t'.den) : Prop := if h : t = t' then h ▸ x = y else False
@[simp] theorem fitD_self (t : Ty) (x y : t.den) : fitD t t x y ↔ x = y := by simp [fitD]

/-- A plain value of the one as one of the other; roots by other names. -/
def fitB (ren : List (Nat × Nat)) : AV → AV → Prop
  | _, .junk => True
  | .dat t x, .dat t' y => fitD t t' x y
  | .ref r p, .ref r' p' => lk ren r' = some r ∧ p = p'
  | .sub r p lo hi, .sub r' p' lo' hi' => lk ren r' = some r ∧ p = p' ∧ lo = lo' ∧ hi = hi'
  | .ptr r p, .ptr r' p' => lk ren r' = some r ∧ p = p'
  | _, _ => False

def fitEnv (ren : List (Nat × Nat)) (s : XS) : List (Nat × AV) → Prop
  | [] => True
  | (i, av) :: l => (match s.get i with | some u => fitB ren u av | none => False) ∧ fitEnv ren s l

/-- A root serves for another: the same, or empty. -/
def fitRT (rt rt' : RT) : Prop := rt.e = rt'.e ∧ rt.h = none ∧ rt'.h = none ∧ fitD (.list rt.e rt.t) (.list rt'.e rt'.t) rt.x rt'.x ∧ (rt.t.flat = true ∨ rt.k = rt'.k ∨ rt.x = [])

def fitRoots (ren : List (Nat × Nat)) (s : XS) : List (Nat × RT) → Prop
  | [] => True
  | (r, rt) :: l => (match lk ren r with | some q => (match s.root q with | some qt => fitRT qt rt | none => False) | none => False) ∧ fitRoots ren s l

def distinct : List Nat → Bool
  | [] => true
  | x :: l => l.all (fun y => !(x == y)) && distinct l

def idsOK (st : XS) : Bool := st.env.all (fun x => (match x.2 with | .tup _ | .agg _ => false | av => av.ids.all fun r => decide (r < st.nxt))) && st.rts.all (fun x => decide (x.1 < st.nxt))

/-- State s serves for st. -/
def Fits (ren : List (Nat × Nat)) (s st : XS) : Prop :=
  distinct (ren.map (·.2)) = true ∧ idsOK st = true ∧ fitEnv ren s st.env ∧ fitRoots ren s st.rts

section
variable {P : Program} {C : Ctx} {w0 : World} {S0 : Nat → Prop} {N : Nat} {s : XS} {a : Act} {w w' : World} {S : Nat → Prop} {pl : Nat → PL}

theorem distinct_ren : ∀ {l : List (Nat × Nat)} {r r' q : Nat}, distinct (l.map (·.2)) = true → lk l r = some q → lk l r' = some q → r = r'
  | [], _, _, _, _, h, _ => by cases h
  | (i, x) :: l, r, r', q, hd, h, h' => by
    simp only [List.map_cons, distinct, Bool.and_eq_true, List.all_eq_true] at hd
    have key : ∀ r, lk l r = some q → x ≠ q := fun r hr => by
      have := hd.1 q (List.mem_map.2 ⟨(r, q), lk_mem hr, rfl⟩)
      simpa using this
    simp only [lk] at h h'
    by_cases h1 : i = r <;> by_cases h2 : i = r'
    · exact h1.symm.trans h2
    · rw [if_pos h1] at h; rw [if_neg h2] at h'; exact absurd (Option.some.inj h) (key r' h')
    · rw [if_neg h1] at h; rw [if_pos h2] at h'; exact absurd (Option.some.inj h') (key r h)
    · rw [if_neg h1] at h; rw [if_neg h2] at h'; exact distinct_ren hd.2 h h'

theorem fitEnv_get {ren : List (Nat × Nat)} : ∀ {l : List (Nat × AV)} {i : Nat} {av : AV}, fitEnv ren s l → lk l i = some av → ∃ u, s.get i = some u ∧ fitB ren u av
  | [], _, _, _, h => by cases h
  | (j, a) :: l, i, av, hf, h => by
    simp only [lk] at h
    obtain ⟨h1, h2⟩ := hf
    by_cases e : j = i
    · rw [if_pos e] at h
      subst e
      cases h
      cases hg : s.get j with
      | none => rw [hg] at h1; exact h1.elim
      | some u => rw [hg] at h1; exact ⟨u, rfl, h1⟩
    · rw [if_neg e] at h; exact fitEnv_get h2 h

theorem fitRoots_get {ren : List (Nat × Nat)} : ∀ {l : List (Nat × RT)} {r : Nat} {rt : RT}, fitRoots ren s l → lk l r = some rt → ∃ q qt, lk ren r = some q ∧ s.root q = some qt ∧ fitRT qt rt
  | [], _, _, _, h => by cases h
  | (j, a) :: l, r, rt, hf, h => by
    simp only [lk] at h
    obtain ⟨h1, h2⟩ := hf
    by_cases e : j = r
    · rw [if_pos e] at h
      subst e
      cases h
      cases hg : lk ren j with
      | none => rw [hg] at h1; exact h1.elim
      | some q =>
        rw [hg] at h1
        simp only at h1
        cases hq : s.root q with
        | none => rw [hq] at h1; exact h1.elim
        | some qt => rw [hq] at h1; exact ⟨q, qt, rfl, hq, h1⟩
    · rw [if_neg e] at h; exact fitRoots_get h2 h

theorem own_flat_k {t : Ty} {k k' : Nat} {x : t.den} {ct : CT} {cs : List Value} {F : Nat → Prop} (h : t.flat = true) (H : Own w S t k x none ct cs F) : Own w S t k' x none ct cs F := by
  induction t generalizing ct cs F with
  | int | bool | str | raw => exact H
  | list e t _ => simp [Ty.flat] at h
  | prod a b iha ihb =>
    simp only [Ty.flat, Bool.and_eq_true] at h
    rcases H with H | ⟨h0, H⟩
    · exact .inl H
    · cases ct with
      | pair c d =>
        obtain ⟨c1, c2, F1, F2, h1, g1, g2, g3, g4⟩ := H
        exact .inr ⟨h0, c1, c2, F1, F2, h1, g1, g2, iha h.1 g3, ihb h.2 g4⟩
      | nil => exact H.elim
      | leaf => exact H.elim
      | node => exact H.elim

theorem fitRT_own {qt rt : RT} (h : fitRT qt rt) {ct : CT} {v : Value} {F : Nat → Prop} (H : Own w S qt.ty (qt.k + 1) qt.x qt.h ct [v] F) :
    Own w S rt.ty (rt.k + 1) rt.x rt.h ct [v] F ∧ (qt.at []).len = (rt.at []).len := by
  obtain ⟨e, t, k, x, hh⟩ := qt
  obtain ⟨e', t', k', x', hh'⟩ := rt
  obtain ⟨h1, h2, h3, h4, h5⟩ := h
  simp only at h1 h2 h3 h4 h5 H ⊢
  subst h1 h2 h3
  unfold fitD at h4
  split at h4
  · rename_i e1
    cases e1
    simp only at h4
    subst h4
    refine ⟨?_, rfl⟩
    rcases h5 with h5 | h5 | h5
    · rcases own_inv H with ⟨rfl, hx, hv, hF⟩ | ⟨b, cap, kids, arr, Fs, rfl, hv, q2, q3, h4, h5', g1, g2, g3, g4⟩
      · exact .inr ⟨by simp, hx, hv, hF⟩
      · exact .inr ⟨by simp, hv, q2, q3, arr, h4, h5', Fs, g1, g2, g3, fun i hi => by simpa using own_flat_k h5 (g4 i hi)⟩
    · rw [← h5]; exact H
    · subst h5; exact own_relabel _ H
  · exact h4.elim

theorem fitRT_eq {qt rt : RT} (h : fitRT qt rt) : rt = { qt with k := rt.k } := by
  obtain ⟨e, t, k, x, hh⟩ := qt
  obtain ⟨e', t', k', x', hh'⟩ := rt
  obtain ⟨h1, h2, h3, h4, h5⟩ := h
  simp only at h1 h2 h3 h4
  subst h1 h2 h3
  unfold fitD at h4
  split at h4
  · rename_i e1
    cases e1
    simp only at h4
    subst h4
    rfl
  · exact h4.elim

theorem fitD_eq {t t' : Ty} {x : t.den} {y : t'.den} (h : fitD t t' x y) : AV.dat t x = AV.dat t' y := by
  unfold fitD at h
  split at h
  · rename_i e; subst e; simp only at h; rw [h]
  · exact h.elim

theorem lk_idsOK {st : XS} (h : idsOK st = true) : (∀ i av, st.get i = some av → (∀ l, av ≠ .tup l) ∧ (∀ l, av ≠ .agg l) ∧ ∀ r ∈ av.ids, r < st.nxt) ∧ ∀ r rt, st.root r = some rt → r < st.nxt := by
  simp only [idsOK, Bool.and_eq_true, List.all_eq_true] at h
  refine ⟨fun i av hi => ?_, fun r rt hr => by simpa using h.2 _ (lk_mem hr)⟩
  have := h.1 _ (lk_mem hi)
  cases av <;> simp_all

theorem Rel.fits (R : Rel w0 S0 N false noPins s a w) {st : XS} {ren : List (Nat × Nat)} (h : Fits ren s st) : Rel w0 S0 N false noPins st a w := by
  obtain ⟨S, pl, R⟩ := R
  obtain ⟨hd, hi, he, hr⟩ := h
  obtain ⟨i1, i2⟩ := lk_idsOK hi
  let pl' : Nat → PL := fun r => match lk ren r with | some q => pl q | none => pl 0
  have hroot : ∀ r rt, st.root r = some rt → ∃ q qt, lk ren r = some q ∧ s.root q = some qt ∧ fitRT qt rt ∧ pl' r = pl q := fun r rt h => by
    obtain ⟨q, qt, h1, h2, h3⟩ := fitRoots_get hr h
    exact ⟨q, qt, h1, h2, h3, by simp only [pl', h1]⟩
  refine ⟨S, pl', { defers := R.defers, size := R.size, os := R.os, tape := R.tape, output := R.output, grow := R.grow, stay := R.stay, base := R.base, lt := R.lt, own := ?_, Flt := ?_, disj := ?_, ids := i2, env := ?_, pins := fun h => by cases h }⟩
  · intro r rt h
    obtain ⟨q, qt, h1, h2, h3, h4⟩ := hroot r rt h
    obtain ⟨hv, H⟩ := R.own q qt h2
    rw [h4]
    exact ⟨hv, (fitRT_own h3 H).1⟩
  · intro r rt b h hb
    obtain ⟨q, qt, h1, h2, h3, h4⟩ := hroot r rt h
    rw [h4] at hb
    exact R.Flt q qt b h2 hb
  · intro r r' rt rt' b h h' hb hb'
    obtain ⟨q, qt, h1, h2, h3, h4⟩ := hroot r rt h
    obtain ⟨q', qt', h1', h2', h3', h4'⟩ := hroot r' rt' h'
    rw [h4] at hb
    rw [h4'] at hb'
    have := R.disj q q' qt qt' b h2 h2' hb hb'
    subst this
    exact distinct_ren hd h1 h1'
  · intro i av h
    obtain ⟨t1, t2, t3⟩ := i1 i av h
    obtain ⟨u, hu, hf⟩ := fitEnv_get he h
    have hlt : av.lt st.nxt := by cases av <;> first | exact t3 | exact absurd rfl (t1 _) | exact absurd rfl (t2 _)
    refine ⟨?_, hlt⟩
    have hx := (R.env i u hu).1
    have name : ∀ r q qt rt, lk ren r = some q → lk st.rts r = some rt → (∀ q' qt', lk ren r = some q' → s.root q' = some qt' → fitRT qt' rt → q' = q → qt = qt' → True) → True := fun _ _ _ _ _ _ _ => trivial
    cases av with
    | junk => trivial
    | tup l => exact absurd rfl (t1 l)
    | agg l => exact absurd rfl (t2 l)
    | dat t y =>
      cases u with
      | dat t' x => simp only [fitB] at hf; rw [fitD_eq hf] at hx; exact hx
      | _ => exact hf.elim
    | ref r' p' =>
      cases u with
      | ref r p =>
        obtain ⟨f1, rfl⟩ := hf
        intro rt hrt
        obtain ⟨q, qt, h1, h2, h3, h4⟩ := hroot r' rt hrt
        rw [f1] at h1
        cases h1
        rw [h4, fitRT_eq h3]
        exact hx qt h2
      | _ => exact hf.elim
    | sub r' p' lo' hi' =>
      cases u with
      | sub r p lo hi =>
        obtain ⟨f1, rfl, rfl, rfl⟩ := hf
        intro rt hrt
        obtain ⟨q, qt, h1, h2, h3, h4⟩ := hroot r' rt hrt
        rw [f1] at h1
        cases h1
        rw [h4, fitRT_eq h3]
        exact hx qt h2
      | _ => exact hf.elim
    | ptr r' p' =>
      cases u with
      | ptr r p =>
        obtain ⟨f1, rfl⟩ := hf
        intro rt hrt
        obtain ⟨q, qt, h1, h2, h3, h4⟩ := hroot r' rt hrt
        rw [f1] at h1
        cases h1
        rw [h4, fitRT_eq h3]
        exact hx qt h2
      | _ => exact hf.elim
    | rptr t y => cases u <;> exact hf.elim
    | clo f c => cases u <;> exact hf.elim

/-! ### Control -/

theorem least {p : Nat → Prop} (h : ∃ n, p n) : ∃ n, p n ∧ ∀ m, p m → n ≤ m := by
  obtain ⟨n, hn⟩ := h
  induction n using Nat.strongRecOn with
  | _ n ih =>
    by_cases hx : ∃ m, m < n ∧ p m
    · obtain ⟨m, h1, h2⟩ := hx; exact ih m h1 h2
    · exact ⟨n, hn, fun m hm => Nat.le_of_not_lt fun hlt => hx ⟨m, hlt, hm⟩⟩


def XW (P : Program) (C : Ctx) (w0 : World) (S0 : Nat → Prop) (c : Code) (Q : Exit → XS → Prop) (s : XS) : Prop :=
  ∀ a w, Rel w0 S0 C.n false noPins s a w → c.wp P (fun e a' w' => ∃ s', Q e s' ∧ Rel w0 S0 C.n false noPins s' a' w') a w

variable {Q : Exit → XS → Prop} {x y : Code}

def XW.thn (K : XS → Prop) (Q : Exit → XS → Prop) : Exit → XS → Prop
  | .normal, s => K s
  | e, s => Q e s

theorem XW.skip (h : Q .normal s) : XW P C w0 S0 .skip Q s := fun _ _ R => wp_skip ⟨s, h, R⟩
theorem XW.exit {id : Nat} (h : Q (.exit id) s) : XW P C w0 S0 (.exit id) Q s := fun _ _ R => wp_exit ⟨s, h, R⟩
theorem XW.ret (h : Q .ret s) : XW P C w0 S0 .ret Q s := fun _ _ R => wp_ret ⟨s, h, R⟩
theorem XW.seq (h : XW P C w0 S0 x (XW.thn (fun s => XW P C w0 S0 y Q s) Q) s) : XW P C w0 S0 (.seq x y) Q s := fun a w R =>
  wp_seq (Go.wp_mono (h a w R) fun e a' w' hh => by
    obtain ⟨s', h1, h2⟩ := hh
    cases e <;> first | exact h1 a' w' h2 | exact ⟨s', h1, h2⟩)
theorem XW.cond {c : Operand} {t : Bool} (hc : s.ev c = some (.dat .bool t)) (h1 : t = true → XW P C w0 S0 x Q s) (h2 : t = false → XW P C w0 S0 y Q s) : XW P C w0 S0 (.cond c x y) Q s := fun a w R => by
  have : a.eval c = .bool t := by obtain ⟨S, pl, R'⟩ := R; exact AVR.bool (R'.ev hc).1
  exact wp_cond_split this (fun e => h1 e a w R) (fun e => h2 (by simpa using e) a w R)
def XW.blk (id : Nat) (Q : Exit → XS → Prop) : Exit → XS → Prop
  | .exit j, s => if j = id then Q .normal s else Q (.exit j) s
  | e, s => Q e s
theorem XW.block {id : Nat} (h : XW P C w0 S0 x (XW.blk id Q) s) : XW P C w0 S0 (.block id x) Q s := fun a w R =>
  wp_block (Go.wp_mono (h a w R) fun e a' w' hh => by
    obtain ⟨s', h1, h2⟩ := hh
    cases e with
    | exit j =>
      simp only [XW.blk] at h1
      simp only [Exit.inBlock]
      split
      · rename_i e; rw [if_pos e] at h1; exact ⟨s', h1, h2⟩
      · rename_i e; rw [if_neg e] at h1; exact ⟨s', h1, h2⟩
    | _ => exact ⟨s', h1, h2⟩)
theorem XW.region (hC : CtxOK P C) {id : Nat} {ops : Array Oper} (h : ∀ K : XS → Prop, (∀ s, Q .normal s → K s) → xrun C ops K 0 ops.toList s) : XW P C w0 S0 (.region id ops false) Q s := fun a w R =>
  wp_region_list (xrun_ok hC (K := fun s => Q .normal s) (fun s pc a w hK ⟨S, pl, R⟩ => ⟨s, hK, S, pl, { R with pins := (fun h => by cases h) }⟩) ops.toList 0 s noPins a w (h _ fun _ h => h) R)
theorem XW.draw (hC : CtxOK P C) (hm : P.follows .mixedOrders = true) {id : Nat} {ops : Array Oper} (l : List Nat) (hB : ordOK ops l = true) (h : ∀ K : XS → Prop, (∀ s, Q .normal s → K s) → xord C ops K l s) : XW P C w0 S0 (.region id ops true) Q s := fun a w R => by
  refine wp_region_ord l hm hB (xord_ok hC (Q := fun a w => ∃ s', Q .normal s' ∧ Rel w0 S0 C.n false noPins s' a w) (K := fun s => Q .normal s) (fun s a w hK R => ⟨s, hK, R⟩) l s noPins a _ (h _ fun _ h => h) ?_)
  obtain ⟨S, pl, R⟩ := R
  have R' := R.grown (Grew.drew w)
  exact ⟨S, pl, { R' with pins := (fun _ i b h => h.elim) }⟩
theorem XW.text (hC : CtxOK P C) (hm : P.follows .mixedOrders = true) {id : Nat} {ops : Array Oper} (hB : ordOK ops (List.range' 0 ops.toList.length) = true) (h : ∀ K : XS → Prop, (∀ s, Q .normal s → K s) → xtxt C ops K 0 ops.toList s) : XW P C w0 S0 (.region id ops true) Q s :=
  XW.draw hC hm _ hB fun K hK => by
    have := h K hK
    rwa [xtxt_ord ops.toList 0 fun j _ => by simp] at this
theorem XW.fits {ren : List (Nat × Nat)} {st : XS} (hf : Fits ren s st) (h : XW P C w0 S0 x Q st) : XW P C w0 S0 x Q s := fun a w R => h a w (R.fits hf)

theorem XW.loop {ι : Type} (st : ι → XS) (I : ι → Prop) (μ : ι → Nat) (i0 : ι) (ren : List (Nat × Nat)) (h0 : I i0) (hf : Fits ren s (st i0))
    (h : ∀ i, I i → XW P C w0 S0 x (XW.thn (fun s' => ∃ i' ren, I i' ∧ μ i' < μ i ∧ Fits ren s' (st i')) Q) (st i)) : XW P C w0 S0 (.loop x) Q s := fun a w R => by
  classical
  let J : Act → World → Prop := fun a w => ∃ i, I i ∧ Rel w0 S0 C.n false noPins (st i) a w
  let G : Act → World → Nat → Prop := fun a w n => ∃ i, I i ∧ Rel w0 S0 C.n false noPins (st i) a w ∧ μ i = n
  have hG : ∀ a w, J a w → ∃ n, G a w n := fun a w ⟨i, h1, h2⟩ => ⟨μ i, i, h1, h2, rfl⟩
  let m : Act → World → Nat := fun a w => if h : ∃ n, G a w n then (least h).choose else 0
  refine wp_loop J m ⟨i0, h0, R.fits hf⟩ fun a w hJ => ?_
  have hex := hG a w hJ
  have hm : m a w = (least hex).choose := by simp only [m]; rw [dif_pos hex]
  obtain ⟨i, h1, h2, h3⟩ := (least hex).choose_spec.1
  refine Go.wp_mono (h i h1 a w h2) fun e a' w' hh => ?_
  obtain ⟨s', q1, q2⟩ := hh
  cases e with
  | normal =>
    obtain ⟨i', ren', r1, r2, r3⟩ := q1
    have R' := q2.fits r3
    refine ⟨⟨i', r1, R'⟩, ?_⟩
    have hex' : ∃ n, G a' w' n := ⟨μ i', i', r1, R', rfl⟩
    have : m a' w' = (least hex').choose := by simp only [m]; rw [dif_pos hex']
    rw [this, hm, ← h3]
    exact Nat.lt_of_le_of_lt ((least hex').choose_spec.2 _ ⟨i', r1, R', rfl⟩) r2
  | _ => exact ⟨s', q1, q2⟩

/-- Ways that meet. -/
theorem XW.cut {c : Code} {ι : Type} (st : ι → XS) (I : ι → Prop) (h : ∀ x, I x → XW P C w0 S0 c Q (st x)) : ∀ s, (∃ x ren, I x ∧ Fits ren s (st x)) → XW P C w0 S0 c Q s := fun _ ⟨x, _, h1, h2⟩ => XW.fits h2 (h x h1)

end

/-- What stands behind so many steps. -/
def tl : Nat → Code → Code
  | 0, c => c
  | n + 1, .seq _ b => tl n b
  | _, c => c

end Fer
