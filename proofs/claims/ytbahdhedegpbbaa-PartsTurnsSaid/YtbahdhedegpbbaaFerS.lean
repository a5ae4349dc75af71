/- The abstract machine is sound: regions, control, functions. Over any program. -/
import Derived.Test.YtbahdhedegpbbaaFerR
import Derived.Laws.Cover3
namespace Fer
open Go

section
variable {P : Program} {C : Ctx} {w0 : World} {S0 : Nat → Prop} {dr : Bool} {pc : Pins} {s : XS} {a : Act} {w w' : World} {S : Nat → Prop} {pl : Nat → PL}

theorem dOK_lt {n : Nat} {d : Option Nat} (h : dOK n d = true) : ∀ t, d = some t → t < n := by
  rintro t rfl; simpa [dOK] using h

theorem RelAt.pin {N : Nat} (R : RelAt w0 S0 N dr pc s a w S pl) {i b : Nat} {q : Option Nat} (hb : b < w.heap.size) (hq : ∀ r rt, s.root r = some rt → (pl r).F b → q = some r) :
    RelAt w0 S0 N dr (addPin i b pc) (s.pin dr i q) a w S pl := by
  cases dr with
  | false => exact { R with pins := (fun h => by cases h) }
  | true =>
    have R1 := R.pinned (l := (i, q) :: s.pins) fun x hx => List.mem_cons_of_mem _ hx
    refine { R1 with pins := fun _ i' b' hp => ?_ }
    rcases hp with ⟨rfl, rfl⟩ | hp
    · exact ⟨q, List.mem_cons_self, hb, hq⟩
    · exact R1.pins rfl i' b' hp

theorem nil_key {T : Nat → Prop} {e : Nat} {t : Ty} {l : List t.den} {v : Value} (hro : RO w T (.list e t) l [v]) : ∃ ad cap, v = .slice ad l.length cap ∧ (ad.isNone = true → l = []) := by
  obtain ⟨ad, cap, e1, e2, e3, e4⟩ := hro
  simp only [List.cons.injEq, and_true] at e1
  refine ⟨ad, cap, e1, fun hn => ?_⟩
  cases ad with
  | some _ => cases hn
  | none =>
    refine Classical.byContradiction fun hne => ?_
    obtain ⟨_, _, _, _, _, e, _⟩ := e4 hne; cases e

theorem nilCmp_ok {N : Nat} (htt : ttB P C.tt = true) (R : RelAt w0 S0 N dr pc s a w S pl) {o : Oper} {q : Prop} {pos : Bool} (h : nilCmp C.tt s o = some (q, pos)) :
    ∃ b : Bool, okind o.op = 0 ∧ (∀ w', (execOp a.eval o).run P w' = .ok (.value (.bool b)) w') ∧ (b = pos → q) := by
  obtain ⟨dst, op, type, pos', after, guard⟩ := o
  simp only [nilCmp] at h
  split at h
  · rename_i op T x u
    split at h
    · rename_i e t by' e' t' l hte hx
      obtain ⟨hu, _⟩ := slice_te (ttB_get htt hte)
      have hx1 := (R.ev hx).1
      generalize hvx : a.eval x = vx at hx1
      obtain ⟨ad, cap, hv, hro, _, _⟩ := hx1.list
      subst hv
      have key : ad.isNone = true → l = [] := fun hn => by
        cases ad with
        | some _ => cases hn
        | none =>
          obtain ⟨ad', cap', e1, e2, e3, e4⟩ := hro
          simp only [List.cons.injEq, Value.slice.injEq, and_true] at e1
          obtain ⟨rfl, _, rfl⟩ := e1
          by_cases hne : l = []
          · exact hne
          · obtain ⟨_, _, _, _, _, e, _⟩ := e4 hne; cases e
      split at h
      · cases h
        refine ⟨ad.isNone, rfl, fun w' => ?_, key⟩
        have hv' : a.eval x = .slice ad l.length cap := hvx
        have e2 : a.eval (.const (.slice none 0 0)) = .slice none 0 0 := rfl
        refine exec_value (P := P) rfl (fun w' => ?_) w'
        rw [hv', e2]
        simp [eqGuard, binOp, run_equal_slice_nil w' T e ad l.length cap hu]
      · cases h
        refine ⟨!ad.isNone, rfl, fun w' => ?_, fun hb => key (by simpa using hb)⟩
        have hv' : a.eval x = .slice ad l.length cap := hvx
        have e2 : a.eval (.const (.slice none 0 0)) = .slice none 0 0 := rfl
        refine exec_value (P := P) rfl (fun w' => ?_) w'
        rw [hv', e2]
        simp [eqGuard, binOp, run_equal_slice_nil w' T e ad l.length cap hu]
      · cases h
    · rename_i e t by' r hte hx
      obtain ⟨hu, _⟩ := slice_te (ttB_get htt hte)
      split at h
      · rename_i rt hr
        have hroot : ∀ hh : rt.h = none, ∃ ad cap, a.eval x = .slice ad rt.x.length cap ∧ (ad.isNone = true → rt.x = []) := fun hh => by
          obtain ⟨hv, H⟩ := R.own r rt hr
          have hv0 : a.eval x = hv := by
            have h1 : a.eval x = hdr (atCT [] rt.ty (pl r).ct) (rt.at []).len := (R.ev hx).1 rt hr
            rw [h1]; exact (H.hdr (by rw [hh]; simp)).1.symm
          rw [hh] at H
          rw [hv0]
          exact nil_key (H.freeze (S' := fun n => S n ∨ (pl r).F n) (fun b hb => .inl hb) fun b hb => .inr hb)
        split at h
        · rename_i hh
          cases h
          obtain ⟨ad, cap, hv', key⟩ := hroot hh
          refine ⟨ad.isNone, rfl, fun w' => ?_, key⟩
          have e2 : a.eval (.const (.slice none 0 0)) = .slice none 0 0 := rfl
          refine exec_value (P := P) rfl (fun w' => ?_) w'
          rw [hv', e2]
          simp [eqGuard, binOp, run_equal_slice_nil w' T e ad rt.x.length cap hu]
        · rename_i hh
          cases h
          obtain ⟨ad, cap, hv', key⟩ := hroot hh
          refine ⟨!ad.isNone, rfl, fun w' => ?_, fun hb => key (by simpa using hb)⟩
          have e2 : a.eval (.const (.slice none 0 0)) = .slice none 0 0 := rfl
          refine exec_value (P := P) rfl (fun w' => ?_) w'
          rw [hv', e2]
          simp [eqGuard, binOp, run_equal_slice_nil w' T e ad rt.x.length cap hu]
        · cases h
      · cases h
    · cases h
  · cases h

theorem xdo_ok (hC : CtxOK P C) (R : RelAt w0 S0 C.n dr pc s a w S pl) {o : Oper} {i : Nat} {K : XS → Prop} (hd : ∀ t, o.dst = some t → t < C.n) (h : xdo C dr o i K s) :
    Out P dr o i pc a w (fun pc' a' w' => ∃ s', K s' ∧ Rel w0 S0 C.n dr pc' s' a' w') := by
  unfold xdo at h
  split at h
  · rename_i e t hn
    refine Out.pure (v := .slice none 0 0) ?_ ?_ ⟨_, h, S, _, (R.nilRoot e t).put hd ?_ ?_⟩
    · rcases nilAt_some hn with h | h <;> rw [h] <;> rfl
    · intro w'; rcases nilAt_some hn with h | h <;> (unfold execOp; rw [h]; rfl)
    · intro rt hrt
      have : rt = nilRT e t := by simp only [XS.addRoot, lk, if_true, Option.some.injEq] at hrt; exact hrt.symm
      subst this
      simp [RT.at, TV.len, nilRT, atCT, hdr]
    · exact AV.lt_ref (Nat.lt_succ_self _)
  · split at h
    · rename_i q pos hc
      obtain ⟨b, k0, e1, e2⟩ := nilCmp_ok hC.1 R hc
      exact Out.pure (v := .bool b) k0 e1 ⟨_, h b e2, S, pl, R.put hd (AVR.mkBool _ _) AV.lt_dat⟩
    split at h
    · rename_i pf hpf
      obtain ⟨h1, h2, h3⟩ := h
      obtain ⟨k0, v, e1, e2, e3, e4⟩ := xpure_ok hC.1 R hpf h1 h2
      exact Out.pure k0 v e1 ⟨_, h3 e4, S, pl, R.put hd e2 e3⟩
    · split at h
      · rename_i T x ho
        split at h
        · rename_i u hu
          split at h
          · rename_i pf hpf
            obtain ⟨h1, h2⟩ := h
            obtain ⟨v, b, e1, e2, e3, e4, e5⟩ := ldAV_ok hC.1 R (R.ev hu).1 (R.ev hu).2 hpf h1
            have hk : okind o.op = 1 := by rw [ho]; rfl
            unfold Out
            rw [hk]
            refine ⟨v, b, fun w' hw' => ?_, _, h2, S, pl, (R.pin e4 e5).put hd ?_ ?_⟩
            · unfold execOp; rw [ho]; simp [e1 w' hw']
            · cases dr <;> exact e2
            · cases dr <;> exact e3
          · exact h.elim
        · exact h.elim
      · rename_i f args ats ho
        split at h
        · rename_i sp hsp
          split at h
          · rename_i p l ha
            exact xcall_ok hC R hd rfl ho hsp ha h.1 h.2
          · exact h.elim
        · split at h
          · rename_i sp hsp
            split at h
            · rename_i x xs t ts hargs hps
              split at h
              · rename_i r hx
                split at h
                · rename_i rt hr
                  split at h
                  · rename_i hc
                    obtain ⟨c1, c2, c3, rfl⟩ := hc
                    split at h
                    · rename_i p l ha
                      exact xmv_ok hC R hd ho hsp hargs hx hr c1 c2 (by rw [hps, c3]) ha h.1 h.2
                    · exact h.elim
                  · exact h.elim
                · exact h.elim
              · exact h.elim
            · exact h.elim
          · exact h.elim
      · rename_i t args ats ho
        split at h
        · rename_i f hf
          split at h
          · rename_i sp hsp
            split at h
            · rename_i p l ha
              exact xcall_ok hC R hd (calleeOf_ok R hf) ho hsp ha h.1 h.2
            · exact h.elim
          · exact h.elim
        · exact h.elim
      · split at h
        · rename_i mf hmf
          exact xmem_ok hC.1 R hd hmf h.2.1 h.1 h.2.2
        · exact h.elim

theorem xwant_ok {N : Nat} (R : RelAt w0 S0 N dr pc s a w S pl) {ops : Array Oper} {o : Oper} {b : Bool} (h : xwant ops s o = some b) : Region.wanted o (yielded ops a.tmps) = b := by
  unfold xwant at h
  unfold Region.wanted
  split at h
  · rename_i hg; rw [hg]; simpa using h
  · rename_i j want hg
    rw [hg]
    simp only [yielded]
    split at h
    · rename_i t ht
      rw [ht]
      simp only [Option.bind_some]
      split at h
      · rename_i c hc
        cases h
        have e := AVR.bool (R.env t _ hc).1
        have : a.tmps[t]? = some (.bool c) := by
          cases hx : a.tmps[t]? with
          | none => simp [hx, undef] at e
          | some v => simp [hx] at e; rw [e]
        rw [this]
        cases c <;> cases want <;> rfl
      · rename_i hc
        cases h
        obtain ⟨vs, e1, e2⟩ := (R.env t _ hc).1
        cases e2
        cases hx : a.tmps[t]? with
        | none => rfl
        | some v => simp [hx] at e1; rw [e1]; rfl
      · cases h
    · rename_i ht
      cases h
      rw [ht]
      rfl

theorem RelAt.known {N : Nat} (R : RelAt w0 S0 N dr pc s a w S pl) {ops : Array Oper} {o : Oper} {b : Bool} (h : xwant ops s o = some b) : RelAt w0 S0 N dr pc (known ops s o b) a w S pl := by
  unfold xwant at h
  unfold Fer.known
  split at h
  · exact R
  · rename_i j want hg
    split at h
    · rename_i t ht
      split at h
      · rename_i c hc
        rw [hc]
        dsimp only
        cases h
        have e : ((c == want) == want) = c := by cases c <;> cases want <;> rfl
        rw [e]
        refine { R with env := fun i av hi => ?_ }
        simp only [XS.get, XS.put, lk] at hi
        split at hi
        · rename_i e1
          subst e1
          cases hi
          exact R.env t _ hc
        · exact R.env i av hi
      · rename_i hc
        rw [hc]
        exact R
      · cases h
    · exact R

theorem RelAt.skip {N : Nat} (R : RelAt w0 S0 N dr pc s a w S pl) {d : Option Nat} (hd : ∀ t, d = some t → t < N) : RelAt w0 S0 N dr pc (s.put d (.tup [])) (a.put d undef) w S pl :=
  R.put hd ⟨[], rfl, .nil⟩ fun _ h => by cases h

theorem xrun_ok (hC : CtxOK P C) {ops : Array Oper} {K : XS → Prop} {Q : Exit → Act → World → Prop} (hK : ∀ s pc a w, K s → Rel w0 S0 C.n false pc s a w → Q .normal a w) :
    ∀ (l : List Oper) (i : Nat) (s : XS) (pc : Pins) (a : Act) (w : World), xrun C ops K i l s → Rel w0 S0 C.n false pc s a w → wpList P ops Q l a w
  | [], i, s, pc, a, w, h, R => hK s pc a w h R
  | o :: l, i, s, pc, a, w, h, ⟨S, pl, R⟩ => by
    obtain ⟨hd, h⟩ := h
    have hd := dOK_lt hd
    split at h
    · exact h.elim
    · rename_i b hb
      simp only [wpList, xwant_ok R hb]
      cases b with
      | true =>
        simp only [if_true]
        refine .inl ?_
        have := xdo_ok hC (R.known hb) hd h
        exact Out.wp (this.mono fun pc' a' w' hh => by
          obtain ⟨s', h1, h2⟩ := hh
          exact xrun_ok hC hK l (i + 1) s' pc' a' w' h1 h2)
      | false =>
        simp only [Bool.false_eq_true, if_false]
        exact xrun_ok hC hK l (i + 1) _ pc _ w h ⟨S, pl, (R.known hb).skip hd⟩

theorem xord_ok (hC : CtxOK P C) {ops : Array Oper} {K : XS → Prop} {Q : Act → World → Prop} (hK : ∀ s a w, K s → Rel w0 S0 C.n false noPins s a w → Q a w) :
    ∀ (l : List Nat) (s : XS) (pc : Pins) (a : Act) (w : World), xord C ops K l s → Rel w0 S0 C.n true pc s a w → wpOrd P ops (fun _ a w => Q a w) l pc a w
  | [], s, pc, a, w, h, ⟨S, pl, R⟩ => hK _ a w h ⟨S, pl, { R with pins := (fun h => by cases h) }⟩
  | i :: l, s, pc, a, w, h, ⟨S, pl, R⟩ => by
    simp only [xord] at h
    simp only [wpOrd]
    cases ho : ops[i]? with
    | none => rw [ho] at h; exact h.elim
    | some o =>
      rw [ho] at h
      obtain ⟨hd, h⟩ := h
      have hd := dOK_lt hd
      simp only [kOper]
      split at h
      · exact h.elim
      · rename_i b hb
        rw [xwant_ok R hb]
        cases b with
        | true =>
          simp only [if_true]
          have := xdo_ok hC (R.known hb) hd h
          exact Out.k (this.mono fun pc' a' w' hh => by
            obtain ⟨s', h1, h2⟩ := hh
            exact xord_ok hC hK l s' pc' a' w' h1 h2)
        | false =>
          simp only [Bool.false_eq_true, if_false]
          exact xord_ok hC hK l _ pc _ w h ⟨S, pl, (R.known hb).skip hd⟩

end
end Fer
