import Derived.Test.YtjocjlohdapmaaaFerQ
import Derived.Laws.Cover3
import Derived.ProofKit
import Derived.Deep.Slices
import Derived.OpenShut
namespace Fer
open Go

section
variable {P : Program} {C : Ctx} {w0 : World} {S0 : Nat → Prop} {dr : Bool} {pc : Pins} {s : XS} {a : Act} {w w' : World} {S : Nat → Prop} {pl : Nat → PL}

theorem dOK_lt {n : Nat} {d : Option Nat} (h : dOK n d = true) : ∀ t, d = some t → t < n := by
  rintro t rfl; simpa [dOK] using h

theorem RelAt.pin {N : Nat} (R : RelAt w0 S0 N dr pc s a w S pl) {i b : Nat} {q : Option Nat} (hb : b < w.heap.size) (hq : ∀ r rt, s.root r = some rt → (pl r).F b → q = some r) :
    RelAt w0 S0 N dr (addPin i b pc) (s.pin dr i q) a w S pl := by
  cases dr with
  | false => exact { R with pins := (fun h => by cases h) }
  | true =>
    have R1 := R.pinned (l := (i, q) :: s.pins) fun x hx => List.mem_cons_of_mem _ hx
    refine { R1 with pins := fun _ i' b' hp => ?_ }
    rcases hp with ⟨rfl, rfl⟩ | hp
    · exact ⟨q, List.mem_cons_self, hb, hq⟩
    · exact R1.pins rfl i' b' hp

theorem nil_key {T : Nat → Prop} {e : Nat} {t : Ty} {l : List t.den} {v : Value} (hro : RO w T (.list e t) l [v]) : ∃ ad cap, v = .slice ad l.length cap ∧ (ad.isNone = true → l = []) := by
  obtain ⟨ad, cap, e1, e2, e3, e4⟩ := hro
  simp only [List.cons.injEq, and_true] at e1
  refine ⟨ad, cap, e1, fun hn => ?_⟩
  cases ad with
  | some _ => cases hn
  | none =>
    refine Classical.byContradiction fun hne => ?_
    obtain ⟨_, _, _, _, _, e, _⟩ := e4 hne; cases e

theorem nilCmp_ok {N : Nat} (htt : ttB P C.tt = true) (R : RelAt w0 S0 N dr pc s a w S pl) {o : Oper} {q : Prop} {pos : Bool} (h : nilCmp C.tt s o = some (q, pos)) :
    ∃ b : Bool, okind o.op = 0 ∧ (∀ w', (execOp a.eval o).run P w' = .ok (.value (.bool b)) w') ∧ (b = pos → q) := by
  obtain ⟨dst, op, type, pos', after, guard⟩ := o
  simp only [nilCmp] at h
  split at h
  · rename_i op T x u
    split at h
    · rename_i e t by' e' t' l hte hx
      obtain ⟨hu, _⟩ := slice_te (ttB_get htt hte)
      have hx1 := (R.ev hx).1
      generalize hvx : a.eval x = vx at hx1
      obtain ⟨ad, cap, hv, hro, _, _⟩ := hx1.list
      subst hv
      have key : ad.isNone = true → l = [] := fun hn => by
        cases ad with
        | some _ => cases hn
        | none =>
          obtain ⟨ad', cap', e1, e2, e3, e4⟩ := hro
          simp only [List.cons.injEq, Value.slice.injEq, and_true] at e1
          obtain ⟨rfl, _, rfl⟩ := e1
          by_cases hne : l = []
          · exact hne
          · obtain ⟨_, _, _, _, _, e, _⟩ := e4 hne; cases e
      split at h
      · cases h
        refine ⟨ad.isNone, rfl, fun w' => ?_, key⟩
        have hv' : a.eval x = .slice ad l.length cap := hvx
        have e2 : a.eval (.const (.slice none 0 0)) = .slice none 0 0 := rfl
        refine exec_value (P := P) rfl (fun w' => ?_) w'
        rw [hv', e2]
        simp [eqGuard, binOp, run_equal_slice_nil w' T e ad l.length cap hu]
      · cases h
        refine ⟨!ad.isNone, rfl, fun w' => ?_, fun hb => key (by simpa using hb)⟩
        have hv' : a.eval x = .slice ad l.length cap := hvx
        have e2 : a.eval (.const (.slice none 0 0)) = .slice none 0 0 := rfl
        refine exec_value (P := P) rfl (fun w' => ?_) w'
        rw [hv', e2]
        simp [eqGuard, binOp, run_equal_slice_nil w' T e ad l.length cap hu]
      · cases h
    · rename_i e t by' ad n cap hte hx
      obtain ⟨hu, _⟩ := slice_te (ttB_get htt hte)
      obtain ⟨cs, hcs, hro, _⟩ := (R.ev hx).1
      subst hro
      have hv' : a.eval x = .slice (some ad) n cap := hcs
      have e2 : a.eval (.const (.slice none 0 0)) = .slice none 0 0 := rfl
      split at h
      · cases h
        refine ⟨false, rfl, fun w' => exec_value (P := P) rfl (fun w' => ?_) w', fun h => by cases h⟩
        rw [hv', e2]
        simp [eqGuard, binOp, run_equal_slice_nil w' T e (some ad) n cap hu]
      · cases h
        refine ⟨true, rfl, fun w' => exec_value (P := P) rfl (fun w' => ?_) w', fun h => by cases h⟩
        rw [hv', e2]
        simp [eqGuard, binOp, run_equal_slice_nil w' T e (some ad) n cap hu]
      · cases h
    · rename_i e t by' n cap hte hx
      obtain ⟨hu, _⟩ := slice_te (ttB_get htt hte)
      obtain ⟨cs, hcs, hro, _⟩ := (R.ev hx).1
      subst hro
      have hv' : a.eval x = .slice none n cap := hcs
      have e2 : a.eval (.const (.slice none 0 0)) = .slice none 0 0 := rfl
      split at h
      · cases h
        refine ⟨true, rfl, fun w' => exec_value (P := P) rfl (fun w' => ?_) w', fun h => by cases h⟩
        rw [hv', e2]
        simp [eqGuard, binOp, run_equal_slice_nil w' T e none n cap hu]
      · cases h
        refine ⟨false, rfl, fun w' => exec_value (P := P) rfl (fun w' => ?_) w', fun h => by cases h⟩
        rw [hv', e2]
        simp [eqGuard, binOp, run_equal_slice_nil w' T e none n cap hu]
      · cases h
    · rename_i e t by' r hte hx
      obtain ⟨hu, _⟩ := slice_te (ttB_get htt hte)
      split at h
      · rename_i rt hr
        have hroot : ∀ hh : rt.h = none, ∃ ad cap, a.eval x = .slice ad rt.x.length cap ∧ (ad.isNone = true → rt.x = []) := fun hh => by
          obtain ⟨hv, H⟩ := R.own r rt hr
          have hv0 : a.eval x = hv := by
            have h1 : a.eval x = hdr (atCT [] rt.ty (pl r).ct) (rt.at []).len := (R.ev hx).1 rt hr
            rw [h1]; exact (H.hdr (by rw [hh]; simp)).1.symm
          rw [hh] at H
          rw [hv0]
          exact nil_key (H.freeze (S' := fun n => S n ∨ (pl r).F n) (fun b hb => .inl hb) fun b hb => .inr hb)
        split at h
        · rename_i hh
          cases h
          obtain ⟨ad, cap, hv', key⟩ := hroot hh
          refine ⟨ad.isNone, rfl, fun w' => ?_, key⟩
          have e2 : a.eval (.const (.slice none 0 0)) = .slice none 0 0 := rfl
          refine exec_value (P := P) rfl (fun w' => ?_) w'
          rw [hv', e2]
          simp [eqGuard, binOp, run_equal_slice_nil w' T e ad rt.x.length cap hu]
        · rename_i hh
          cases h
          obtain ⟨ad, cap, hv', key⟩ := hroot hh
          refine ⟨!ad.isNone, rfl, fun w' => ?_, fun hb => key (by simpa using hb)⟩
          have e2 : a.eval (.const (.slice none 0 0)) = .slice none 0 0 := rfl
          refine exec_value (P := P) rfl (fun w' => ?_) w'
          rw [hv', e2]
          simp [eqGuard, binOp, run_equal_slice_nil w' T e ad rt.x.length cap hu]
        · cases h
      · cases h
    · cases h
  · cases h

theorem ev_slot {x : Operand} {b : Nat} {f : MD} (hx : s.ev x = some (.mp b f)) : ∃ i, s.get i = some (.mp b f) := by
  cases x with
  | tmp x => exact ⟨x, hx⟩
  | const c =>
    have : (constAV c) = some (.mp b f) := hx
    cases c <;> simp [constAV] at this
  | _ => cases hx

theorem xpure_new {N : Nat} {tt : List (Nat × TE)} (R : RelAt w0 S0 N dr pc s a w S pl) {o : Oper} {pf : PF} (h : xpure tt s o = some pf) (hp : (pf.av.plain || isMove o) = true) : pf.av.isNew w0.heap.size := by
  cases hpl : pf.av.plain with
  | true => exact AV.plain_new hpl
  | false =>
    rw [hpl, Bool.false_or] at hp
    have key : ∀ x, (s.ev x).map (PF.of True) = some pf → pf.av.isNew w0.heap.size := fun x hx => by
      cases hev : s.ev x with
      | none => rw [hev] at hx; cases hx
      | some av =>
        rw [hev] at hx
        cases hx
        cases av with
        | mp b f =>
          obtain ⟨i, hi⟩ := ev_slot hev
          exact R.news i b f hi
        | _ => cases hpl
    obtain ⟨dst, op, type, pos', after, guard⟩ := o
    unfold isMove at hp
    cases op <;> first | (cases hp; done) | exact key _ h

theorem xcut_ok {N : Nat} (R : RelAt w0 S0 N dr pc s a w S pl) {o : Oper} {i : Nat} {K : XS → Prop} (hd : ∀ t, o.dst = some t → t < N) {r hi : Nat} {rt : RT} (hc : cutAt s o = some (r, rt, hi)) (h : K ((s.trunc r rt hi).put o.dst (.ref r []))) :
    Out P dr o i pc a w (fun pc' a' w' => ∃ s', K s' ∧ Rel w0 S0 N dr pc' s' a' w') := by
  obtain ⟨dst, op, type, pos', after, guard⟩ := o
  simp only [cutAt] at hc
  split at hc
  · rename_i x d
    split at hc
    · rename_i r' lo hi' q hx hq
      split at hc
      · rename_i hcc
        obtain ⟨rfl, rfl⟩ := hcc
        split at hc
        · rename_i rt' hr
          split at hc
          · rename_i hh
            cases hc
            obtain ⟨_, hle, hsub⟩ := (R.ev (x := .tmp x) hx).1 rt hr
            obtain ⟨pl', R', hv, _⟩ := cutRoot R hr hh (hi := hi) (v := a.eval (.tmp x)) hle hsub
            refine Out.pure (v := a.eval (.tmp x)) rfl (fun w' => rfl) ⟨_, h, S, pl', R'.put hd ?_ (AV.lt_ref (R.ids _ rt hr))⟩
            intro rt2 hrt2
            have : rt2 = { rt with x := rt.x.take hi } := by
              simp only [XS.setRoot, lk, if_true, Option.some.injEq] at hrt2; exact hrt2.symm
            subst this
            exact hv
          · cases hc
        · cases hc
      · cases hc
    · cases hc
  · cases hc

theorem glob_lt {n : Int} {m : Nat} (h0 : 0 ≤ n) (h1 : n < (m : Int)) : n.toNat < m := by omega

theorem xglob_ok (hC : CtxOK P C w0 S0) (R : RelAt w0 S0 C.n dr pc s a w S pl) {o : Oper} {q : Prop} {av : AV} (h : xglob C s o = some (q, av)) (hq : q) :
    okind o.op = 0 ∧ ∃ v, (∀ w', (execOp a.eval o).run P w' = .ok (.value v) w') ∧ AVR w S s.rts pl av v ∧ av.lt s.nxt ∧ av.plain = true := by
  unfold xglob at h
  split at h
  · rename_i T g x ho
    split at h
    · rename_i T' l n hg hx
      split at h
      · rename_i hT
        subst hT
        cases h
        obtain ⟨h0, h1⟩ := hq
        obtain ⟨hS, ⟨arr, E, fr, hb, hl, har⟩, e, inf, hu, hinf, hsz⟩ := hC.2.2.2.2.2.2 g T l hg
        have hn := AVR.int (R.ev hx).1
        have hbw : w.heap[g]? = some (.cells arr E fr) := (R.stay g hS).trans hb
        have hi : n.toNat < l.length := glob_lt h0 h1
        have hget := har n.toNat hi
        refine ⟨by rw [ho]; rfl, .pointer (some ⟨g, n.toNat, none⟩), fun w' => ?_, ⟨g, n.toNat, arr, E, fr, rfl, R.base g hS, hbw, ?_, ?_⟩, AV.lt_rptr, rfl⟩
        · obtain ⟨dst, op, type, pos', after, guard⟩ := o
          cases ho
          have e1 := run_indexAt_arr (P := P) hu hinf g 0 .i64 n h0 h1 w'
          rw [hsz, Nat.zero_add, Nat.mul_one] at e1
          simp only [execOp, Sem.run_bind, hn, show a.eval (.global g) = .pointer (some ⟨g, 0, none⟩) from rfl, e1, Result.andThen_ok, Sem.run_pure]
        · show n.toNat + 1 ≤ arr.size
          omega
        · show RO w S (.int .i64) (l.getD n.toNat 0) (cellsAt arr n.toNat 1)
          rw [cellsAt_get (by simpa using hget)]
          rfl
      · cases h
    · cases h
  · cases h

theorem xdo_ok (hC : CtxOK P C w0 S0) (R : RelAt w0 S0 C.n dr pc s a w S pl) {o : Oper} {i : Nat} {K : XS → Prop} (hd : ∀ t, o.dst = some t → t < C.n) (h : xdo C dr o i K s) :
    Out P dr o i pc a w (fun pc' a' w' => ∃ s', K s' ∧ Rel w0 S0 C.n dr pc' s' a' w') := by
  unfold xdo at h
  split at h
  · rename_i q av hg
    obtain ⟨k0, v, e1, e2, e3, e4⟩ := xglob_ok hC R hg h.1
    exact Out.pure k0 v e1 ⟨_, h.2, S, pl, R.put hd e2 e3 (AV.plain_new e4)⟩
  split at h
  · rename_i e t hn
    refine Out.pure (v := .slice none 0 0) ?_ ?_ ⟨_, h, S, _, (R.nilRoot e t).put hd ?_ ?_⟩
    · rcases nilAt_some hn with h | h <;> rw [h] <;> rfl
    · intro w'; rcases nilAt_some hn with h | h <;> (unfold execOp; rw [h]; rfl)
    · intro rt hrt
      have : rt = nilRT e t := by simp only [XS.addRoot, lk, if_true, Option.some.injEq] at hrt; exact hrt.symm
      subst this
      simp [RT.at, TV.len, nilRT, atCT, hdr]
    · exact AV.lt_ref (Nat.lt_succ_self _)
  · split at h
    · rename_i r rt hi hc
      exact xcut_ok R hd hc h
    split at h
    · rename_i hm
      exact mpOp_ok hC.1 R hd hm h
    split at h
    · rename_i q pos hc
      obtain ⟨b, k0, e1, e2⟩ := nilCmp_ok hC.1 R hc
      exact Out.pure (v := .bool b) k0 e1 ⟨_, h b e2, S, pl, R.put hd (AVR.mkBool _ _) AV.lt_dat⟩
    split at h
    · rename_i pf hpf
      obtain ⟨h1, hp, h2, h3⟩ := h
      obtain ⟨k0, v, e1, e2, e3, e4⟩ := xpure_ok hC.1 R hpf h1 h2
      exact Out.pure k0 v e1 ⟨_, h3 e4, S, pl, R.put hd e2 e3 (xpure_new R hpf hp)⟩
    · split at h
      · rename_i T x ho
        split at h
        · rename_i u hu
          split at h
          · rename_i pf hpf
            obtain ⟨hp, h1, h2⟩ := h
            obtain ⟨v, b, e1, e2, e3, e4, e5⟩ := ldAV_ok hC.1 R (R.ev hu).1 (R.ev hu).2 hpf h1
            have hk : okind o.op = 1 := by rw [ho]; rfl
            refine .inl ?_
            unfold Out0
            rw [hk]
            refine ⟨v, b, fun w' hw' => ?_, _, h2, S, pl, (R.pin e4 e5).put hd ?_ ?_ (AV.plain_new hp)⟩
            · unfold execOp; rw [ho]; simp [e1 w' hw']
            · cases dr <;> exact e2
            · cases dr <;> exact e3
          · exact h.elim
        · exact h.elim
      · rename_i f args ats ho
        split at h
        · rename_i sp hsp
          split at h
          · rename_i p l ha
            exact xcall_ok hC R hd rfl ho hsp ha h.1 h.2
          · exact h.elim
        · split at h
          · rename_i sp hsp
            split at h
            · rename_i x xs t ts hargs hps
              split at h
              · rename_i r hx
                split at h
                · rename_i rt hr
                  split at h
                  · rename_i hc
                    obtain ⟨c1, c2, c3, c4⟩ := hc
                    split at h
                    · rename_i p l ha
                      exact xmv_ok hC R hd ho hsp hargs hx hr c1 c2 (by rw [hps, c3]) ha h.1 c4 h.2
                    · exact h.elim
                  · exact h.elim
                · exact h.elim
              · rename_i r j q hx
                split at h
                · rename_i e u
                  split at h
                  · rename_i p1 s1 r1 ho1
                    split at h
                    · rename_i rt hr
                      split at h
                      · rename_i hc
                        obtain ⟨c1, c2, c3, rfl⟩ := hc
                        split at h
                        · rename_i p l ha
                          exact xmvp_ok hC R hd ho hsp hargs hx ho1 h.1 hr c2 (by rw [hps, c3]) ha h.2.1 h.2.2
                        · exact h.elim
                      · exact h.elim
                    · exact h.elim
                  · exact h.elim
                · exact h.elim
              · exact h.elim
            · exact h.elim
          · split at h
            · rename_i sp hsp
              split at h
              · rename_i x xs t ts hargs hps
                split at h
                · rename_i r hx
                  split at h
                  · rename_i rt hr
                    split at h
                    · rename_i hc
                      obtain ⟨c1, c2, c3, rfl⟩ := hc
                      split at h
                      · rename_i p l ha
                        exact xip_ok hC R hd ho hsp hargs hx hr c1 c2 (by rw [hps, c3]) ha h.1 h.2
                      · exact h.elim
                    · exact h.elim
                  · exact h.elim
                · rename_i r i0 q hx
                  split at h
                  · rename_i rt hr
                    split at h
                    · rename_i el hel
                      split at h
                      · rename_i hc
                        obtain ⟨c1, c2, c3, rfl⟩ := hc
                        split at h
                        · rename_i p l ha
                          exact xipp_ok hC R hd ho hsp hargs hx hr c1 hel h.1 c2 (by rw [hps, c3]) ha h.2.1 h.2.2
                        · exact h.elim
                      · exact h.elim
                    · exact h.elim
                  · exact h.elim
                · exact h.elim
              · exact h.elim
            · split at h
              · rename_i sp hsp
                cases hev : evs s args.toList with
                | none => rw [hev] at h; exact h.elim
                | some xs =>
                  rw [hev] at h
                  refine xst_ok hC R hd (by rw [ho]; rfl) hsp (vs := args.toList.map a.eval) (fun ⟨fn, hf, hn, hb⟩ => ?_) (evs_ok R _ _ hev) h
                  unfold execOp
                  rw [ho]
                  have e : (args.toList.map a.eval).toArray = args.map a.eval := by rw [← Array.toList_map, Array.toArray_toList]
                  rw [e]
                  have := run_call (P := P) (w := w) hf hn hb (args.map a.eval)
                  simp only [resolve, invoke, Deferred.ofValue, Act.eval, Sem.run_bind, Sem.run_pure, Result.andThen_ok, Array.empty_append, Array.append_empty]
                  exact this
              · exact h.elim
      · rename_i t args ats ho
        split at h
        · rename_i f hf
          split at h
          · rename_i sp hsp
            split at h
            · rename_i p l ha
              exact xcall_ok hC R hd (calleeOf_ok R hf) ho hsp ha h.1 h.2
            · exact h.elim
          · exact h.elim
        · split at h
          · rename_i f cs hy
            split at h
            · rename_i sp hsp
              cases hev : evs s args.toList with
              | none => rw [hev] at h; exact h.elim
              | some xs =>
                rw [hev] at h
                obtain ⟨us, e, h1, h2⟩ := (R.ev (x := .tmp t) hy).1
                have hlt := (R.ev (x := .tmp t) hy).2
                have hc : ∀ (cs : List Nat) (us : List Value), us.length = cs.length → (∀ r ∈ cs, r < s.nxt) → (∀ (i c : Nat) (rt : RT) (u : Value), cs[i]? = some c → lk s.rts c = some rt → us[i]? = some u → u = addrP (pl c) rt [0]) → AVRs w S s.rts pl s.nxt (cs.map fun c => .ptr c [0]) us := by
                  intro cs
                  induction cs with
                  | nil => intro us hl _ _; obtain rfl := List.eq_nil_of_length_eq_zero hl; exact .nil
                  | cons c cs ih =>
                    intro us hl hlt hv
                    match us, hl with
                    | u :: us, hl =>
                      exact .cons (fun rt hr => hv 0 c rt u rfl hr rfl) (fun q hq => by simp only [AV.ids, List.mem_singleton] at hq; subst hq; exact hlt _ (by simp)) (ih us (by simpa using hl) (fun r hr => hlt r (by simp [hr])) fun i c' rt u' g1 g2 g3 => hv (i + 1) c' rt u' g1 g2 g3)
                refine xst_ok hC R hd (by rw [ho]; rfl) hsp (vs := args.toList.map a.eval ++ us) (fun ⟨fn, hf, hn, hb⟩ => ?_) ((evs_ok R _ _ hev).app (hc cs us h1 hlt h2)) h
                unfold execOp
                rw [ho]
                have e' : (args.toList.map a.eval ++ us).toArray = args.map a.eval ++ us.toArray := by
                  rw [← List.append_toArray, ← Array.toList_map, Array.toArray_toList]
                rw [e']
                have := run_call (P := P) (w := w) hf hn hb (args.map a.eval ++ us.toArray)
                simp only [resolve, invoke, e, Deferred.ofValue, Sem.run_bind, Sem.run_pure, Result.andThen_ok, Array.empty_append, Array.append_empty]
                exact this
            split at h
            · rename_i sp us l' hs hcap
              split at h
              · rename_i hu
                subst hu
                split at h
                · rename_i p l ha
                  exact xcl_ok hC R hd hy ho hs hcap ha h.1 h.2
                · exact h.elim
              · exact h.elim
            · exact h.elim
          · rename_i f u y hy
            split at h
            · rename_i sp us hs
              split at h
              · rename_i hu
                subst hu
                split at h
                · rename_i p l ha
                  exact xclf_ok hC R hd hy ho hs ha h.1 h.2
                · exact h.elim
              · exact h.elim
            · exact h.elim
          · rename_i f bl hy
            split at h
            · rename_i sp hsp
              obtain ⟨hb, h⟩ := h
              cases hev : evs s args.toList with
              | none => rw [hev] at h; exact h.elim
              | some xs =>
                rw [hev] at h
                obtain ⟨cs, e, hcs⟩ := (R.ev (x := .tmp t) hy).1
                subst hcs
                refine xst_ok hC R hd (by rw [ho]; rfl) hsp (vs := args.toList.map a.eval ++ bl.map fun b => Value.pointer (some ⟨b, 0, none⟩)) (fun ⟨fn, hf, hn, hb⟩ => ?_) ((evs_ok R _ _ hev).app (locsB_ok R _ _ (vs := []) hb fun b t x hx => cloAVs_mem R hx)) h
                unfold execOp
                rw [ho]
                have e' : (args.toList.map a.eval ++ bl.map fun b => Value.pointer (some ⟨b, 0, none⟩)).toArray = args.map a.eval ++ (bl.map fun b => Value.pointer (some ⟨b, 0, none⟩)).toArray := by
                  rw [← List.append_toArray, ← Array.toList_map, Array.toArray_toList]
                rw [e']
                have := run_call (P := P) (w := w) hf hn hb (args.map a.eval ++ (bl.map fun b => Value.pointer (some ⟨b, 0, none⟩)).toArray)
                have e2 : a.eval (.tmp t) = .func (.func f) #[] (bl.map fun b => Value.pointer (some ⟨b, 0, none⟩)).toArray := e
                simp only [resolve, invoke, e2, Deferred.ofValue, Sem.run_bind, Sem.run_pure, Result.andThen_ok, Array.empty_append, Array.append_empty]
                exact this
            · exact h.elim
          · exact h.elim
      · rename_i T x ho
        split at h
        · rename_i ts l hb
          exact bxStr_ok R ho hd hb h
        · split at h
          · rename_i mf hmf
            exact xmem_ok hC.1 R hd hmf h.2.2.1 h.1 h.2.1 h.2.2.2
          · exact h.elim
      · rename_i T x y ho
        have hk0 : okind o.op ≠ 0 := by rw [ho]; simp [okind]
        have hk1 : okind o.op ≠ 1 := by rw [ho]; simp [okind]
        split at h
        · rename_i q hq
          obtain ⟨h1, h2, h3⟩ := h
          obtain ⟨v, hm⟩ := roSt_ok hC.1 R (fun u hu => (R.ev hu).1) (fun u hu => (R.ev hu).1) hq h2
          exact Out.mem R hk0 hk1 hd (fun v w' h => .inr (run_store ho h)) h1 rfl hm (fun _ => h3 v)
        · split at h
          · rename_i p r cs st hq
            obtain ⟨h1, h2, h3⟩ := h
            obtain ⟨bl, s1, h3, R1, e1, e2, e3, e4, hb⟩ := named_ok cs R h3
            have hm := fnSt_ok hC.1 R R1 e1 (fun u hu => (R.ev hu).1) (fun u hu => (R.ev hu).1) hq h2 e4 hb
            exact Out.mem R1 hk0 hk1 hd (fun v w' h => .inr (run_store ho h)) (by unfold tchOK at h1 ⊢; rw [e3]; exact h1) rfl hm (fun _ => h3)
          · split at h
            · rename_i u hu
              split at h
              · rename_i mf hmf
                have hm := stAV_ok hC.1 R (vx := a.eval x) (vy := a.eval y) (fun u hu => (R.ev hu).1) (fun v hv => by cases hv; exact selfAV_ok R (fun u hu => (R.ev hu).1) hu) hmf h.2.2.1
                exact Out.mem R hk0 hk1 hd (fun v w' h => .inr (run_store ho h)) h.1 h.2.1 hm h.2.2.2
              · exact h.elim
            · split at h
              · rename_i mf hmf
                exact xmem_ok hC.1 R hd hmf h.2.2.1 h.1 h.2.1 h.2.2.2
              · exact h.elim
      · split at h
        · rename_i mf hmf
          exact xmem_ok hC.1 R hd hmf h.2.2.1 h.1 h.2.1 h.2.2.2
        · exact h.elim

theorem xwant_ok {N : Nat} (R : RelAt w0 S0 N dr pc s a w S pl) {ops : Array Oper} {o : Oper} {b : Bool} (h : xwant ops s o = some b) : Region.wanted o (yielded ops a.tmps) = b := by
  unfold xwant at h
  unfold Region.wanted
  split at h
  · rename_i hg; rw [hg]; simpa using h
  · rename_i j want hg
    rw [hg]
    simp only [yielded]
    split at h
    · rename_i t ht
      rw [ht]
      simp only [Option.bind_some]
      split at h
      · rename_i c hc
        cases h
        have e := AVR.bool (R.env t _ hc).1
        have : a.tmps[t]? = some (.bool c) := by
          cases hx : a.tmps[t]? with
          | none => simp [hx, undef] at e
          | some v => simp [hx] at e; rw [e]
        rw [this]
        cases c <;> cases want <;> rfl
      · rename_i hc
        cases h
        obtain ⟨vs, e1, e2⟩ := (R.env t _ hc).1
        cases e2
        cases hx : a.tmps[t]? with
        | none => rfl
        | some v => simp [hx] at e1; rw [e1]; rfl
      · cases h
    · rename_i ht
      cases h
      rw [ht]
      rfl

theorem RelAt.known {N : Nat} (R : RelAt w0 S0 N dr pc s a w S pl) {ops : Array Oper} {o : Oper} {b : Bool} (h : xwant ops s o = some b) : RelAt w0 S0 N dr pc (known ops s o b) a w S pl := by
  unfold xwant at h
  unfold Fer.known
  split at h
  · exact R
  · rename_i j want hg
    split at h
    · rename_i t ht
      split at h
      · rename_i c hc
        rw [hc]
        dsimp only
        cases h
        have e : ((c == want) == want) = c := by cases c <;> cases want <;> rfl
        rw [e]
        refine { R with env := fun i av hi => ?_, news := fun i b f hi => ?_ }
        · simp only [XS.get, XS.put, lk] at hi
          split at hi
          · rename_i e1
            subst e1
            cases hi
            exact R.env t _ hc
          · exact R.env i av hi
        · simp only [XS.get, XS.put, lk] at hi
          split at hi
          · cases hi
          · exact R.news i b f hi
      · rename_i hc
        rw [hc]
        exact R
      · cases h
    · exact R

theorem RelAt.skip {N : Nat} (R : RelAt w0 S0 N dr pc s a w S pl) {d : Option Nat} (hd : ∀ t, d = some t → t < N) : RelAt w0 S0 N dr pc (s.put d (.tup [])) (a.put d undef) w S pl :=
  R.put hd ⟨[], rfl, .nil⟩ fun _ h => by cases h

theorem xrun_ok (hC : CtxOK P C w0 S0) {ops : Array Oper} {K : XS → Prop} {Q : Exit → Act → World → Prop} (hK : ∀ s pc a w, K s → Rel w0 S0 C.n false pc s a w → Q .normal a w) :
    ∀ (l : List Oper) (i : Nat) (s : XS) (pc : Pins) (a : Act) (w : World), xrun C ops K i l s → Rel w0 S0 C.n false pc s a w → wpList P ops Q l a w
  | [], i, s, pc, a, w, h, R => hK s pc a w h R
  | o :: l, i, s, pc, a, w, h, ⟨S, pl, R⟩ => by
    obtain ⟨hd, h⟩ := h
    have hd := dOK_lt hd
    split at h
    · exact h.elim
    · rename_i b hb
      simp only [wpList, xwant_ok R hb]
      cases b with
      | true =>
        simp only [if_true]
        refine .inl ?_
        have := xdo_ok hC (R.known hb) hd h
        exact Out.wp (this.mono fun pc' a' w' hh => by
          obtain ⟨s', h1, h2⟩ := hh
          exact xrun_ok hC hK l (i + 1) s' pc' a' w' h1 h2)
      | false =>
        simp only [Bool.false_eq_true, if_false]
        exact xrun_ok hC hK l (i + 1) _ pc _ w h ⟨S, pl, (R.known hb).skip hd⟩

theorem xord_ok (hC : CtxOK P C w0 S0) {ops : Array Oper} {K : XS → Prop} {Q : Act → World → Prop} (hK : ∀ s a w, K s → Rel w0 S0 C.n false noPins s a w → Q a w) :
    ∀ (l : List Nat) (s : XS) (pc : Pins) (a : Act) (w : World), xord C ops K l s → Rel w0 S0 C.n true pc s a w → wpOrd P ops (fun _ a w => Q a w) l pc a w
  | [], s, pc, a, w, h, ⟨S, pl, R⟩ => hK _ a w h ⟨S, pl, { R with pins := (fun h => by cases h) }⟩
  | i :: l, s, pc, a, w, h, ⟨S, pl, R⟩ => by
    simp only [xord] at h
    simp only [wpOrd]
    cases ho : ops[i]? with
    | none => rw [ho] at h; exact h.elim
    | some o =>
      rw [ho] at h
      obtain ⟨hd, h⟩ := h
      have hd := dOK_lt hd
      simp only [kOper]
      split at h
      · exact h.elim
      · rename_i b hb
        rw [xwant_ok R hb]
        cases b with
        | true =>
          simp only [if_true]
          have := xdo_ok hC (R.known hb) hd h
          exact Out.k (this.mono fun pc' a' w' hh => by
            obtain ⟨s', h1, h2⟩ := hh
            exact xord_ok hC hK l s' pc' a' w' h1 h2)
        | false =>
          simp only [Bool.false_eq_true, if_false]
          exact xord_ok hC hK l _ pc _ w h ⟨S, pl, (R.known hb).skip hd⟩

end
end Fer

namespace Fer
open Go


def fitD (t t' : Ty) (x : t.den) (y : t'.den) : Prop := if h : t = t' then h ▸ x = y else False
@[simp] theorem fitD_self (t : Ty) (x y : t.den) : fitD t t x y ↔ x = y := by simp [fitD]

def fitL (ren : List (Nat × Nat)) : List Nat → List Nat → Prop
  | [], [] => True
  | q :: c, r :: c' => lk ren r = some q ∧ fitL ren c c'
  | _, _ => False
theorem fitL_get {ren : List (Nat × Nat)} : ∀ {c c' : List Nat}, fitL ren c c' → c.length = c'.length ∧ ∀ i r : Nat, c'[i]? = some r → ∃ q : Nat, c[i]? = some q ∧ lk ren r = some q
  | [], [], _ => ⟨rfl, fun i r h => by simp at h⟩
  | q :: c, r :: c', ⟨h, h'⟩ => by
    obtain ⟨i1, i2⟩ := fitL_get h'
    refine ⟨by simp [i1], fun i r' hr => ?_⟩
    cases i with
    | zero =>
      simp only [List.getElem?_cons_zero, Option.some.injEq] at hr
      subst hr
      exact ⟨q, rfl, h⟩
    | succ i =>
      simp only [List.getElem?_cons_succ] at hr ⊢
      exact i2 i r' hr
  | [], _ :: _, h => h.elim
  | _ :: _, [], h => h.elim

def fitB (ren : List (Nat × Nat)) : AV → AV → Prop
  | _, .junk => True
  | .dat t x, .dat t' y => fitD t t' x y
  | .ref r p, .ref r' p' => lk ren r' = some r ∧ p = p'
  | .sub r p lo hi, .sub r' p' lo' hi' => lk ren r' = some r ∧ p = p' ∧ lo = lo' ∧ hi = hi'
  | .ptr r p, .ptr r' p' => lk ren r' = some r ∧ p = p'
  | .mp b f, .mp b' f' => b = b' ∧ f = f'
  | .clo f c, .clo f' c' => f = f' ∧ fitL ren c c'
  | .rptr t x, .rptr t' y => fitD t t' x y
  | .rpl b t x, .rpl b' t' y => b = b' ∧ fitD t t' x y
  | .loc r b, .loc r' b' => lk ren r' = some r ∧ b = b'
  | .one r, .one r' => lk ren r' = some r
  | _, _ => False

def fitEnv (ren : List (Nat × Nat)) (s : XS) : List (Nat × AV) → Prop
  | [] => True
  | (i, av) :: l => (match s.get i with | some u => fitB ren u av | none => False) ∧ fitEnv ren s l

def fitRT (rt rt' : RT) : Prop := rt.e = rt'.e ∧ rt.h = none ∧ rt'.h = none ∧ fitD (.list rt.e rt.t) (.list rt'.e rt'.t) rt.x rt'.x ∧ (rt.t.flat = true ∨ rt.k = rt'.k ∨ rt.x = [])

def fitRoots (ren : List (Nat × Nat)) (s : XS) : List (Nat × RT) → Prop
  | [] => True
  | (r, rt) :: l => (match lk ren r with | some q => (match s.root q with | some qt => fitRT qt rt | none => False) | none => False) ∧ fitRoots ren s l

def distinct : List Nat → Bool
  | [] => true
  | x :: l => l.all (fun y => !(x == y)) && distinct l

def idsOK (st : XS) : Bool := st.env.all (fun x => (match x.2 with | .tup _ | .agg _ => false | av => av.ids.all fun r => decide (r < st.nxt))) && st.rts.all (fun x => decide (x.1 < st.nxt))

def Fits (ren : List (Nat × Nat)) (s st : XS) : Prop :=
  distinct (ren.map (·.2)) = true ∧ idsOK st = true ∧ fitEnv ren s st.env ∧ fitRoots ren s st.rts

section
variable {P : Program} {C : Ctx} {w0 : World} {S0 : Nat → Prop} {N : Nat} {s : XS} {a : Act} {w w' : World} {S : Nat → Prop} {pl : Nat → PL}

theorem distinct_ren : ∀ {l : List (Nat × Nat)} {r r' q : Nat}, distinct (l.map (·.2)) = true → lk l r = some q → lk l r' = some q → r = r'
  | [], _, _, _, _, h, _ => by cases h
  | (i, x) :: l, r, r', q, hd, h, h' => by
    simp only [List.map_cons, distinct, Bool.and_eq_true, List.all_eq_true] at hd
    have key : ∀ r, lk l r = some q → x ≠ q := fun r hr => by
      have := hd.1 q (List.mem_map.2 ⟨(r, q), lk_mem hr, rfl⟩)
      simpa using this
    simp only [lk] at h h'
    by_cases h1 : i = r <;> by_cases h2 : i = r'
    · exact h1.symm.trans h2
    · rw [if_pos h1] at h; rw [if_neg h2] at h'; exact absurd (Option.some.inj h) (key r' h')
    · rw [if_neg h1] at h; rw [if_pos h2] at h'; exact absurd (Option.some.inj h') (key r h)
    · rw [if_neg h1] at h; rw [if_neg h2] at h'; exact distinct_ren hd.2 h h'

theorem fitEnv_get {ren : List (Nat × Nat)} : ∀ {l : List (Nat × AV)} {i : Nat} {av : AV}, fitEnv ren s l → lk l i = some av → ∃ u, s.get i = some u ∧ fitB ren u av
  | [], _, _, _, h => by cases h
  | (j, a) :: l, i, av, hf, h => by
    simp only [lk] at h
    obtain ⟨h1, h2⟩ := hf
    by_cases e : j = i
    · rw [if_pos e] at h
      subst e
      cases h
      cases hg : s.get j with
      | none => rw [hg] at h1; exact h1.elim
      | some u => rw [hg] at h1; exact ⟨u, rfl, h1⟩
    · rw [if_neg e] at h; exact fitEnv_get h2 h

theorem fitRoots_get {ren : List (Nat × Nat)} : ∀ {l : List (Nat × RT)} {r : Nat} {rt : RT}, fitRoots ren s l → lk l r = some rt → ∃ q qt, lk ren r = some q ∧ s.root q = some qt ∧ fitRT qt rt
  | [], _, _, _, h => by cases h
  | (j, a) :: l, r, rt, hf, h => by
    simp only [lk] at h
    obtain ⟨h1, h2⟩ := hf
    by_cases e : j = r
    · rw [if_pos e] at h
      subst e
      cases h
      cases hg : lk ren j with
      | none => rw [hg] at h1; exact h1.elim
      | some q =>
        rw [hg] at h1
        simp only at h1
        cases hq : s.root q with
        | none => rw [hq] at h1; exact h1.elim
        | some qt => rw [hq] at h1; exact ⟨q, qt, rfl, hq, h1⟩
    · rw [if_neg e] at h; exact fitRoots_get h2 h

theorem own_flat_k {t : Ty} {k k' : Nat} {x : t.den} {ct : CT} {cs : List Value} {F : Nat → Prop} (h : t.flat = true) (H : Own w S t k x none ct cs F) : Own w S t k' x none ct cs F := by
  induction t generalizing ct cs F with
  | int | bool | str | raw => exact H
  | fn f t _ => simp [Ty.flat] at h
  | row f t _ => simp [Ty.flat] at h
  | ro f t _ => simp [Ty.flat] at h
  | func => exact H
  | list e t _ => simp [Ty.flat] at h
  | prod a b iha ihb =>
    simp only [Ty.flat, Bool.and_eq_true] at h
    rcases H with H | ⟨h0, H⟩
    · exact .inl H
    · cases ct with
      | pair c d =>
        obtain ⟨c1, c2, F1, F2, h1, g1, g2, g3, g4⟩ := H
        exact .inr ⟨h0, c1, c2, F1, F2, h1, g1, g2, iha h.1 g3, ihb h.2 g4⟩
      | nil => exact H.elim
      | leaf => exact H.elim
      | node => exact H.elim

theorem fitRT_own {qt rt : RT} (h : fitRT qt rt) {ct : CT} {v : Value} {F : Nat → Prop} (H : Own w S qt.ty (qt.k + 1) qt.x qt.h ct [v] F) :
    Own w S rt.ty (rt.k + 1) rt.x rt.h ct [v] F ∧ (qt.at []).len = (rt.at []).len := by
  obtain ⟨e, t, k, x, hh⟩ := qt
  obtain ⟨e', t', k', x', hh'⟩ := rt
  obtain ⟨h1, h2, h3, h4, h5⟩ := h
  simp only at h1 h2 h3 h4 h5 H ⊢
  subst h1 h2 h3
  unfold fitD at h4
  split at h4
  · rename_i e1
    cases e1
    simp only at h4
    subst h4
    refine ⟨?_, rfl⟩
    rcases h5 with h5 | h5 | h5
    · rcases own_inv H with ⟨rfl, hx, hv, hF⟩ | ⟨b, cap, kids, arr, Fs, rfl, hv, q2, q3, h4, h5', g1, g2, g3, g4⟩
      · exact .inr ⟨by simp, hx, hv, hF⟩
      · exact .inr ⟨by simp, hv, q2, q3, arr, h4, h5', Fs, g1, g2, g3, fun i hi => by simpa using own_flat_k h5 (g4 i hi)⟩
    · rw [← h5]; exact H
    · subst h5; exact own_relabel _ H
  · exact h4.elim

theorem fitRT_eq {qt rt : RT} (h : fitRT qt rt) : rt = { qt with k := rt.k } := by
  obtain ⟨e, t, k, x, hh⟩ := qt
  obtain ⟨e', t', k', x', hh'⟩ := rt
  obtain ⟨h1, h2, h3, h4, h5⟩ := h
  simp only at h1 h2 h3 h4
  subst h1 h2 h3
  unfold fitD at h4
  split at h4
  · rename_i e1
    cases e1
    simp only at h4
    subst h4
    rfl
  · exact h4.elim

theorem fitD_eq {t t' : Ty} {x : t.den} {y : t'.den} (h : fitD t t' x y) : AV.dat t x = AV.dat t' y := by
  unfold fitD at h
  split at h
  · rename_i e; subst e; simp only at h; rw [h]
  · exact h.elim

theorem lk_idsOK {st : XS} (h : idsOK st = true) : (∀ i av, st.get i = some av → (∀ l, av ≠ .tup l) ∧ (∀ l, av ≠ .agg l) ∧ ∀ r ∈ av.ids, r < st.nxt) ∧ ∀ r rt, st.root r = some rt → r < st.nxt := by
  simp only [idsOK, Bool.and_eq_true, List.all_eq_true] at h
  refine ⟨fun i av hi => ?_, fun r rt hr => by simpa using h.2 _ (lk_mem hr)⟩
  have := h.1 _ (lk_mem hi)
  cases av <;> simp_all

theorem Rel.fits (R : Rel w0 S0 N false noPins s a w) {st : XS} {ren : List (Nat × Nat)} (h : Fits ren s st) : Rel w0 S0 N false noPins st a w := by
  obtain ⟨S, pl, R⟩ := R
  obtain ⟨hd, hi, he, hr⟩ := h
  obtain ⟨i1, i2⟩ := lk_idsOK hi
  let pl' : Nat → PL := fun r => match lk ren r with | some q => pl q | none => pl 0
  have hroot : ∀ r rt, st.root r = some rt → ∃ q qt, lk ren r = some q ∧ s.root q = some qt ∧ fitRT qt rt ∧ pl' r = pl q := fun r rt h => by
    obtain ⟨q, qt, h1, h2, h3⟩ := fitRoots_get hr h
    exact ⟨q, qt, h1, h2, h3, by simp only [pl', h1]⟩
  refine ⟨S, pl', { defers := R.defers, size := R.size, os := R.os, tape := R.tape, output := R.output, grow := R.grow, stay := R.stay, base := R.base, lt := R.lt, own := ?_, Flt := ?_, disj := ?_, ids := i2, env := ?_, pins := (fun h => by cases h), news := ?_ }⟩
  rotate_right
  · intro i b f h
    obtain ⟨u, hu, hf⟩ := fitEnv_get he h
    cases u with
    | mp b' f' =>
      obtain ⟨rfl, rfl⟩ := hf
      exact R.news i _ _ hu
    | _ => exact hf.elim
  · intro r rt h
    obtain ⟨q, qt, h1, h2, h3, h4⟩ := hroot r rt h
    obtain ⟨hv, H⟩ := R.own q qt h2
    rw [h4]
    exact ⟨hv, (fitRT_own h3 H).1⟩
  · intro r rt b h hb
    obtain ⟨q, qt, h1, h2, h3, h4⟩ := hroot r rt h
    rw [h4] at hb
    exact R.Flt q qt b h2 hb
  · intro r r' rt rt' b h h' hb hb'
    obtain ⟨q, qt, h1, h2, h3, h4⟩ := hroot r rt h
    obtain ⟨q', qt', h1', h2', h3', h4'⟩ := hroot r' rt' h'
    rw [h4] at hb
    rw [h4'] at hb'
    have := R.disj q q' qt qt' b h2 h2' hb hb'
    subst this
    exact distinct_ren hd h1 h1'
  · intro i av h
    obtain ⟨t1, t2, t3⟩ := i1 i av h
    obtain ⟨u, hu, hf⟩ := fitEnv_get he h
    have hlt : av.lt st.nxt := by cases av <;> first | exact t3 | exact absurd rfl (t1 _) | exact absurd rfl (t2 _)
    refine ⟨?_, hlt⟩
    have hx := (R.env i u hu).1
    have name : ∀ r q qt rt, lk ren r = some q → lk st.rts r = some rt → (∀ q' qt', lk ren r = some q' → s.root q' = some qt' → fitRT qt' rt → q' = q → qt = qt' → True) → True := fun _ _ _ _ _ _ _ => trivial
    cases av with
    | junk => trivial
    | tup l => exact absurd rfl (t1 l)
    | agg l => exact absurd rfl (t2 l)
    | dat t y =>
      cases u with
      | dat t' x => simp only [fitB] at hf; rw [fitD_eq hf] at hx; exact hx
      | _ => exact hf.elim
    | mp b f =>
      cases u with
      | mp b' f' =>
        obtain ⟨rfl, rfl⟩ := hf
        exact hx
      | _ => exact hf.elim
    | ref r' p' =>
      cases u with
      | ref r p =>
        obtain ⟨f1, rfl⟩ := hf
        intro rt hrt
        obtain ⟨q, qt, h1, h2, h3, h4⟩ := hroot r' rt hrt
        rw [f1] at h1
        cases h1
        rw [h4, fitRT_eq h3]
        exact hx qt h2
      | _ => exact hf.elim
    | sub r' p' lo' hi' =>
      cases u with
      | sub r p lo hi =>
        obtain ⟨f1, rfl, rfl, rfl⟩ := hf
        intro rt hrt
        obtain ⟨q, qt, h1, h2, h3, h4⟩ := hroot r' rt hrt
        rw [f1] at h1
        cases h1
        rw [h4, fitRT_eq h3]
        exact hx qt h2
      | _ => exact hf.elim
    | ptr r' p' =>
      cases u with
      | ptr r p =>
        obtain ⟨f1, rfl⟩ := hf
        intro rt hrt
        obtain ⟨q, qt, h1, h2, h3, h4⟩ := hroot r' rt hrt
        rw [f1] at h1
        cases h1
        rw [h4, fitRT_eq h3]
        exact hx qt h2
      | _ => exact hf.elim
    | rptr t y =>
      cases u with
      | rptr t' x =>
        simp only [fitB] at hf
        have e : AV.rptr t' x = AV.rptr t y := by
          unfold fitD at hf
          split at hf
          · rename_i e; subst e; simp only at hf; rw [hf]
          · exact hf.elim
        rw [e] at hx; exact hx
      | _ => exact hf.elim
    | rpl b t y =>
      cases u with
      | rpl b' t' x =>
        simp only [fitB] at hf
        obtain ⟨rfl, hf⟩ := hf
        have e : AV.rpl b' t' x = AV.rpl b' t y := by
          unfold fitD at hf
          split at hf
          · rename_i e; subst e; simp only at hf; rw [hf]
          · exact hf.elim
        rw [e] at hx; exact hx
      | _ => exact hf.elim
    | one r' =>
      cases u with
      | one r =>
        have f1 : lk ren r' = some r := hf
        intro rt hrt
        obtain ⟨q, qt, h1, h2, h3, h4⟩ := hroot r' rt hrt
        rw [f1] at h1
        cases h1
        rw [h4, fitRT_eq h3]
        exact hx qt h2
      | _ => exact hf.elim
    | loc r' b' =>
      cases u with
      | loc r b =>
        obtain ⟨f1, rfl⟩ := hf
        intro rt hrt
        obtain ⟨q, qt, h1, h2, h3, h4⟩ := hroot r' rt hrt
        rw [f1] at h1
        cases h1
        rw [h4, fitRT_eq h3]
        exact hx qt h2
      | _ => exact hf.elim
    | clo f c =>
      cases u with
      | clo f' c0 =>
        obtain ⟨rfl, hl⟩ := hf
        obtain ⟨l1, l2⟩ := fitL_get hl
        obtain ⟨vs, e1, e2, e3⟩ := hx
        refine ⟨vs, e1, e2.trans l1, fun i r rt v hc hrt hv => ?_⟩
        obtain ⟨q0, g1, g2⟩ := l2 i r hc
        obtain ⟨q, qt, h1, h2, h3, h4⟩ := hroot r rt hrt
        rw [g2] at h1
        cases h1
        rw [h4, fitRT_eq h3]
        exact e3 i q0 qt v g1 h2 hv
      | _ => exact hf.elim


theorem least {p : Nat → Prop} (h : ∃ n, p n) : ∃ n, p n ∧ ∀ m, p m → n ≤ m := by
  obtain ⟨n, hn⟩ := h
  induction n using Nat.strongRecOn with
  | _ n ih =>
    by_cases hx : ∃ m, m < n ∧ p m
    · obtain ⟨m, h1, h2⟩ := hx; exact ih m h1 h2
    · exact ⟨n, hn, fun m hm => Nat.le_of_not_lt fun hlt => hx ⟨m, hlt, hm⟩⟩


def XW (P : Program) (C : Ctx) (w0 : World) (S0 : Nat → Prop) (c : Code) (Q : Exit → XS → Prop) (s : XS) : Prop :=
  ∀ a w, Rel w0 S0 C.n false noPins s a w → c.wp P (fun e a' w' => ∃ s', Q e s' ∧ Rel w0 S0 C.n false noPins s' a' w') a w

variable {Q : Exit → XS → Prop} {x y : Code}

def XW.thn (K : XS → Prop) (Q : Exit → XS → Prop) : Exit → XS → Prop
  | .normal, s => K s
  | e, s => Q e s

theorem XW.skip (h : Q .normal s) : XW P C w0 S0 .skip Q s := fun _ _ R => wp_skip ⟨s, h, R⟩
theorem XW.exit {id : Nat} (h : Q (.exit id) s) : XW P C w0 S0 (.exit id) Q s := fun _ _ R => wp_exit ⟨s, h, R⟩
theorem XW.ret (h : Q .ret s) : XW P C w0 S0 .ret Q s := fun _ _ R => wp_ret ⟨s, h, R⟩
theorem XW.seq (h : XW P C w0 S0 x (XW.thn (fun s => XW P C w0 S0 y Q s) Q) s) : XW P C w0 S0 (.seq x y) Q s := fun a w R =>
  wp_seq (Go.wp_mono (h a w R) fun e a' w' hh => by
    obtain ⟨s', h1, h2⟩ := hh
    cases e <;> first | exact h1 a' w' h2 | exact ⟨s', h1, h2⟩)
theorem XW.cond {c : Operand} {t : Bool} (hc : s.ev c = some (.dat .bool t)) (h1 : t = true → XW P C w0 S0 x Q s) (h2 : t = false → XW P C w0 S0 y Q s) : XW P C w0 S0 (.cond c x y) Q s := fun a w R => by
  have : a.eval c = .bool t := by obtain ⟨S, pl, R'⟩ := R; exact AVR.bool (R'.ev hc).1
  exact wp_cond_split this (fun e => h1 e a w R) (fun e => h2 (by simpa using e) a w R)
def XW.blk (id : Nat) (Q : Exit → XS → Prop) : Exit → XS → Prop
  | .exit j, s => if j = id then Q .normal s else Q (.exit j) s
  | e, s => Q e s
theorem XW.block {id : Nat} (h : XW P C w0 S0 x (XW.blk id Q) s) : XW P C w0 S0 (.block id x) Q s := fun a w R =>
  wp_block (Go.wp_mono (h a w R) fun e a' w' hh => by
    obtain ⟨s', h1, h2⟩ := hh
    cases e with
    | exit j =>
      simp only [XW.blk] at h1
      simp only [Exit.inBlock]
      split
      · rename_i e; rw [if_pos e] at h1; exact ⟨s', h1, h2⟩
      · rename_i e; rw [if_neg e] at h1; exact ⟨s', h1, h2⟩
    | _ => exact ⟨s', h1, h2⟩)
theorem XW.region (hC : CtxOK P C w0 S0) {id : Nat} {ops : Array Oper} (h : ∀ K : XS → Prop, (∀ s, Q .normal s → K s) → xrun C ops K 0 ops.toList s) : XW P C w0 S0 (.region id ops false) Q s := fun a w R =>
  wp_region_list (xrun_ok hC (K := fun s => Q .normal s) (fun s pc a w hK ⟨S, pl, R⟩ => ⟨s, hK, S, pl, { R with pins := (fun h => by cases h) }⟩) ops.toList 0 s noPins a w (h _ fun _ h => h) R)
theorem XW.draw (hC : CtxOK P C w0 S0) (hm : P.follows .mixedOrders = true) {id : Nat} {ops : Array Oper} (l : List Nat) (hB : ordOK ops l = true) (h : ∀ K : XS → Prop, (∀ s, Q .normal s → K s) → xord C ops K l s) : XW P C w0 S0 (.region id ops true) Q s := fun a w R => by
  refine wp_region_ord l hm hB (xord_ok hC (Q := fun a w => ∃ s', Q .normal s' ∧ Rel w0 S0 C.n false noPins s' a w) (K := fun s => Q .normal s) (fun s a w hK R => ⟨s, hK, R⟩) l s noPins a _ (h _ fun _ h => h) ?_)
  obtain ⟨S, pl, R⟩ := R
  have R' := R.grown (Grew.drew w)
  exact ⟨S, pl, { R' with pins := (fun _ i b h => h.elim) }⟩
theorem XW.text (hC : CtxOK P C w0 S0) (hm : P.follows .mixedOrders = true) {id : Nat} {ops : Array Oper} (hB : ordOK ops (List.range' 0 ops.toList.length) = true) (h : ∀ K : XS → Prop, (∀ s, Q .normal s → K s) → xtxt C ops K 0 ops.toList s) : XW P C w0 S0 (.region id ops true) Q s :=
  XW.draw hC hm _ hB fun K hK => by
    have := h K hK
    rwa [xtxt_ord ops.toList 0 fun j _ => by simp] at this
theorem XW.fits {ren : List (Nat × Nat)} {st : XS} (hf : Fits ren s st) (h : XW P C w0 S0 x Q st) : XW P C w0 S0 x Q s := fun a w R => h a w (R.fits hf)

theorem XW.loop {ι : Type} (st : ι → XS) (I : ι → Prop) (μ : ι → Nat) (i0 : ι) (ren : List (Nat × Nat)) (h0 : I i0) (hf : Fits ren s (st i0))
    (h : ∀ i, I i → XW P C w0 S0 x (XW.thn (fun s' => ∃ i' ren, I i' ∧ μ i' < μ i ∧ Fits ren s' (st i')) Q) (st i)) : XW P C w0 S0 (.loop x) Q s := fun a w R => by
  classical
  let J : Act → World → Prop := fun a w => ∃ i, I i ∧ Rel w0 S0 C.n false noPins (st i) a w
  let G : Act → World → Nat → Prop := fun a w n => ∃ i, I i ∧ Rel w0 S0 C.n false noPins (st i) a w ∧ μ i = n
  have hG : ∀ a w, J a w → ∃ n, G a w n := fun a w ⟨i, h1, h2⟩ => ⟨μ i, i, h1, h2, rfl⟩
  let m : Act → World → Nat := fun a w => if h : ∃ n, G a w n then (least h).choose else 0
  refine wp_loop J m ⟨i0, h0, R.fits hf⟩ fun a w hJ => ?_
  have hex := hG a w hJ
  have hm : m a w = (least hex).choose := by simp only [m]; rw [dif_pos hex]
  obtain ⟨i, h1, h2, h3⟩ := (least hex).choose_spec.1
  refine Go.wp_mono (h i h1 a w h2) fun e a' w' hh => ?_
  obtain ⟨s', q1, q2⟩ := hh
  cases e with
  | normal =>
    obtain ⟨i', ren', r1, r2, r3⟩ := q1
    have R' := q2.fits r3
    refine ⟨⟨i', r1, R'⟩, ?_⟩
    have hex' : ∃ n, G a' w' n := ⟨μ i', i', r1, R', rfl⟩
    have : m a' w' = (least hex').choose := by simp only [m]; rw [dif_pos hex']
    rw [this, hm, ← h3]
    exact Nat.lt_of_le_of_lt ((least hex').choose_spec.2 _ ⟨i', r1, R', rfl⟩) r2
  | _ => exact ⟨s', q1, q2⟩

theorem XW.cut {c : Code} {ι : Type} (st : ι → XS) (I : ι → Prop) (h : ∀ x, I x → XW P C w0 S0 c Q (st x)) : ∀ s, (∃ x ren, I x ∧ Fits ren s (st x)) → XW P C w0 S0 c Q s := fun _ ⟨x, _, h1, h2⟩ => XW.fits h2 (h x h1)

end

end Fer

namespace Fer
open Go

section
variable {P : Program} {C : Ctx} {w0 : World} {S0 : Nat → Prop} {s : XS} {ops : Array Oper}

theorem xord_cons {K : XS → Prop} {i : Nat} {o : Oper} {l : List Nat} (ho : ops[i]? = some o) (h : xoper C true ops o i (xord C ops K l) s) : xord C ops K (i :: l) s := by
  simp only [xord, ho]; exact h
theorem xord_nil {K : XS → Prop} (h : K { s with pins := [] }) : xord C ops K [] s := h

end
end Fer

namespace Fer
open Go

inductive OT where
  | nil : OT
  | one : Nat → OT → OT
  | two : Nat → OT → Nat → OT → OT
  | three : Nat → OT → Nat → OT → Nat → OT → OT

def OT.len : OT → Nat
  | .nil => 0
  | .one _ t => t.len + 1
  | .two _ t _ _ => t.len + 1
  | .three _ t _ _ _ _ => t.len + 1

def OT.ok (ops : Array Oper) : OT → Array Bool → Bool
  | .nil, listed => (Region.ready .any ops listed).isEmpty
  | .one k t, listed => (((Region.ready .any ops listed).contains k && freeX ops listed k) || Region.ready .any ops listed == [k]) && t.ok ops (listed.setIfInBounds k true)
  | .two i t j u, listed => (Region.ready .any ops listed).all (fun k => k == i || k == j) && !(Region.ready .any ops listed).isEmpty && t.len == u.len && t.ok ops (listed.setIfInBounds i true) && u.ok ops (listed.setIfInBounds j true)
  | .three i t j u k v, listed => (Region.ready .any ops listed).all (fun q => q == i || q == j || q == k) && !(Region.ready .any ops listed).isEmpty && t.len == u.len && t.len == v.len && t.ok ops (listed.setIfInBounds i true) && u.ok ops (listed.setIfInBounds j true) && v.ok ops (listed.setIfInBounds k true)

def otOK (ops : Array Oper) (t : OT) : Bool := Region.noSelect ops && t.len == ops.size && t.ok ops (Array.replicate ops.size false)

def wpTree (P : Program) (ops : Array Oper) (Q : Pins → Act → World → Prop) : OT → Pins → Act → World → Prop
  | .nil, pins, a, w => Q pins a w
  | .one i t, pins, a, w => match ops[i]? with
    | none => False
    | some o => kOper P ops o i pins a w (wpTree P ops Q t)
  | .two i t j u, pins, a, w => (match ops[i]? with
    | none => False
    | some o => kOper P ops o i pins a w (wpTree P ops Q t)) ∧ (match ops[j]? with
    | none => False
    | some o => kOper P ops o j pins a w (wpTree P ops Q u))
  | .three i t j u k v, pins, a, w => (match ops[i]? with
    | none => False
    | some o => kOper P ops o i pins a w (wpTree P ops Q t)) ∧ (match ops[j]? with
    | none => False
    | some o => kOper P ops o j pins a w (wpTree P ops Q u)) ∧ (match ops[k]? with
    | none => False
    | some o => kOper P ops o k pins a w (wpTree P ops Q v))

def xtree (C : Ctx) (ops : Array Oper) (K : XS → Prop) : OT → XS → Prop
  | .nil, s => K { s with pins := [] }
  | .one i t, s => match ops[i]? with
    | some o => xoper C true ops o i (xtree C ops K t) s
    | none => False
  | .two i t j u, s => (match ops[i]? with
    | some o => xoper C true ops o i (xtree C ops K t) s
    | none => False) ∧ (match ops[j]? with
    | some o => xoper C true ops o j (xtree C ops K u) s
    | none => False)
  | .three i t j u k v, s => (match ops[i]? with
    | some o => xoper C true ops o i (xtree C ops K t) s
    | none => False) ∧ (match ops[j]? with
    | some o => xoper C true ops o j (xtree C ops K u) s
    | none => False) ∧ (match ops[k]? with
    | some o => xoper C true ops o k (xtree C ops K v) s
    | none => False)

section
variable {P : Program} {C : Ctx} {w0 : World} {S0 : Nat → Prop} {s : XS} {ops : Array Oper}

theorem anyX_tree {Q : Pins → Act → World → Prop} (hs : Region.noSelect ops = true) : ∀ (t : OT) (listed : Array Bool) (pins : Pins) (a : Act) (w : World),
    t.ok ops listed = true → wpTree P ops Q t pins a w → wpAnyX P ops Q t.len listed pins a w
  | .nil, _, _, _, _, hB, h => ⟨by simpa [OT.ok] using hB, h⟩
  | .one k t, listed, pins, a, w, hB, h => by
    simp only [OT.ok, Bool.and_eq_true, Bool.or_eq_true, beq_iff_eq] at hB
    obtain ⟨hrf, hB'⟩ := hB
    simp only [wpTree] at h
    cases h0 : ops[k]? with
    | none => rw [h0] at h; exact h.elim
    | some o =>
      rw [h0] at h
      rcases hrf with ⟨hr, hf⟩ | hr
      case inr =>
        refine ⟨fun h1 => (by rw [h1] at hr; cases hr), fun j hj => ?_⟩
        rw [hr, List.mem_singleton] at hj
        subst hj
        unfold kOp
        rw [h0]
        exact kOper_mono (fun p a' w' h' => anyX_tree hs t _ p a' w' hB' h') h
      refine anyX_first h0 (Region.noSelect_spec hs) t.len listed pins a w (freeX_spec h0 hf) (by simpa using hr) ?_
      exact kOper_mono (fun p a' w' h' => anyX_tree hs t _ p a' w' hB' h') h
  | .two i t j u, listed, pins, a, w, hB, h => by
    simp only [OT.ok, Bool.and_eq_true, List.all_eq_true, Bool.or_eq_true, beq_iff_eq, Bool.not_eq_true'] at hB
    obtain ⟨⟨⟨⟨hr, hne⟩, hl⟩, hB1⟩, hB2⟩ := hB
    simp only [wpTree] at h
    refine ⟨fun h0 => (by rw [h0] at hne; cases hne), fun k hk => ?_⟩
    rcases hr k hk with rfl | rfl
    · have h := h.1
      unfold kOp
      cases h0 : ops[k]? with
      | none => rw [h0] at h; exact h.elim
      | some o => rw [h0] at h; exact kOper_mono (fun p a' w' h' => anyX_tree hs t _ p a' w' hB1 h') h
    · have h := h.2
      unfold kOp
      cases h0 : ops[k]? with
      | none => rw [h0] at h; exact h.elim
      | some o =>
        rw [h0] at h
        refine kOper_mono (fun p a' w' h' => ?_) h
        have := anyX_tree hs u _ p a' w' hB2 h'
        rwa [← hl] at this
  | .three i t j u k v, listed, pins, a, w, hB, h => by
    simp only [OT.ok, Bool.and_eq_true, List.all_eq_true, Bool.or_eq_true, beq_iff_eq, Bool.not_eq_true'] at hB
    obtain ⟨⟨⟨⟨⟨⟨hr, hne⟩, hl⟩, hl2⟩, hB1⟩, hB2⟩, hB3⟩ := hB
    simp only [wpTree] at h
    refine ⟨fun h0 => (by rw [h0] at hne; cases hne), fun q hk => ?_⟩
    rcases hr q hk with (rfl | rfl) | rfl
    · have h := h.1
      unfold kOp
      cases h0 : ops[q]? with
      | none => rw [h0] at h; exact h.elim
      | some o => rw [h0] at h; exact kOper_mono (fun p a' w' h' => anyX_tree hs t _ p a' w' hB1 h') h
    · have h := h.2.1
      unfold kOp
      cases h0 : ops[q]? with
      | none => rw [h0] at h; exact h.elim
      | some o =>
        rw [h0] at h
        refine kOper_mono (fun p a' w' h' => ?_) h
        have := anyX_tree hs u _ p a' w' hB2 h'
        rwa [← hl] at this
    · have h := h.2.2
      unfold kOp
      cases h0 : ops[q]? with
      | none => rw [h0] at h; exact h.elim
      | some o =>
        rw [h0] at h
        refine kOper_mono (fun p a' w' h' => ?_) h
        have := anyX_tree hs v _ p a' w' hB3 h'
        rwa [← hl2] at this

theorem wp_region_tree {id : Nat} {Q : Exit → Act → World → Prop} {a : Act} {w : World} (t : OT) (hm : P.follows .mixedOrders = true) (hB : otOK ops t = true)
    (h : wpTree P ops (fun _ a' w' => Q .normal a' w') t noPins a { w with drawn := w.drawn + 1 }) : (Code.region id ops true).wp P Q a w := by
  simp only [otOK, Bool.and_eq_true, beq_iff_eq] at hB
  refine wp_region_any hm (wpAny_of_X (Q := fun _ a' w' => Q .normal a' w') (fun _ _ _ h => h) _ _ noPins _ _ ?_)
  have := anyX_tree hB.1.1 t (Array.replicate ops.size false) noPins a { w with drawn := w.drawn + 1 } hB.2 h
  rwa [hB.1.2] at this

theorem xoper_ok (hC : CtxOK P C w0 S0) {o : Oper} {i : Nat} {K : XS → Prop} {K' : Pins → Act → World → Prop} {pc : Pins} {a : Act} {w : World}
    (hK : ∀ s pc a w, K s → Rel w0 S0 C.n true pc s a w → K' pc a w) (h : xoper C true ops o i K s) (R : Rel w0 S0 C.n true pc s a w) : kOper P ops o i pc a w K' := by
  obtain ⟨S, pl, R⟩ := R
  obtain ⟨hd, h⟩ := h
  have hd := dOK_lt hd
  simp only [kOper]
  split at h
  · exact h.elim
  · rename_i b hb
    rw [xwant_ok R hb]
    cases b with
    | true =>
      simp only [if_true]
      have := xdo_ok hC (R.known hb) hd h
      exact Out.k (this.mono fun pc' a' w' hh => by
        obtain ⟨s', h1, h2⟩ := hh
        exact hK s' pc' a' w' h1 h2)
    | false =>
      simp only [Bool.false_eq_true, if_false]
      exact hK _ pc _ w h ⟨S, pl, (R.known hb).skip hd⟩

theorem xtree_ok (hC : CtxOK P C w0 S0) {K : XS → Prop} {Q : Act → World → Prop} (hK : ∀ s a w, K s → Rel w0 S0 C.n false noPins s a w → Q a w) :
    ∀ (t : OT) (s : XS) (pc : Pins) (a : Act) (w : World), xtree C ops K t s → Rel w0 S0 C.n true pc s a w → wpTree P ops (fun _ a w => Q a w) t pc a w
  | .nil, s, pc, a, w, h, ⟨S, pl, R⟩ => hK _ a w h ⟨S, pl, { R with pins := (fun h => by cases h) }⟩
  | .one i t, s, pc, a, w, h, R => by
    simp only [xtree] at h
    simp only [wpTree]
    cases ho : ops[i]? with
    | none => rw [ho] at h; exact h.elim
    | some o =>
      rw [ho] at h
      exact xoper_ok hC (fun s' pc' a' w' h1 h2 => xtree_ok hC hK t s' pc' a' w' h1 h2) h R
  | .two i t j u, s, pc, a, w, h, R => by
    simp only [xtree] at h
    simp only [wpTree]
    constructor
    · have h := h.1
      cases ho : ops[i]? with
      | none => rw [ho] at h; exact h.elim
      | some o =>
        rw [ho] at h
        exact xoper_ok hC (fun s' pc' a' w' h1 h2 => xtree_ok hC hK t s' pc' a' w' h1 h2) h R
    · have h := h.2
      cases ho : ops[j]? with
      | none => rw [ho] at h; exact h.elim
      | some o =>
        rw [ho] at h
        exact xoper_ok hC (fun s' pc' a' w' h1 h2 => xtree_ok hC hK u s' pc' a' w' h1 h2) h R
  | .three i t j u k v, s, pc, a, w, h, R => by
    simp only [xtree] at h
    simp only [wpTree]
    refine ⟨?_, ?_, ?_⟩
    · have h := h.1
      cases ho : ops[i]? with
      | none => rw [ho] at h; exact h.elim
      | some o =>
        rw [ho] at h
        exact xoper_ok hC (fun s' pc' a' w' h1 h2 => xtree_ok hC hK t s' pc' a' w' h1 h2) h R
    · have h := h.2.1
      cases ho : ops[j]? with
      | none => rw [ho] at h; exact h.elim
      | some o =>
        rw [ho] at h
        exact xoper_ok hC (fun s' pc' a' w' h1 h2 => xtree_ok hC hK u s' pc' a' w' h1 h2) h R
    · have h := h.2.2
      cases ho : ops[k]? with
      | none => rw [ho] at h; exact h.elim
      | some o =>
        rw [ho] at h
        exact xoper_ok hC (fun s' pc' a' w' h1 h2 => xtree_ok hC hK v s' pc' a' w' h1 h2) h R

theorem xtree_nil {K : XS → Prop} (h : K { s with pins := [] }) : xtree C ops K .nil s := h
theorem xtree_one {K : XS → Prop} {i : Nat} {o : Oper} {t : OT} (ho : ops[i]? = some o) (h : xoper C true ops o i (xtree C ops K t) s) : xtree C ops K (.one i t) s := by
  simp only [xtree, ho]; exact h
theorem xtree_two {K : XS → Prop} {i j : Nat} {t u : OT} (h1 : xtree C ops K (.one i t) s) (h2 : xtree C ops K (.one j u) s) : xtree C ops K (.two i t j u) s := ⟨h1, h2⟩

theorem xtree_three {K : XS → Prop} {i j k : Nat} {t u v : OT} (h1 : xtree C ops K (.one i t) s) (h2 : xtree C ops K (.one j u) s) (h3 : xtree C ops K (.one k v) s) : xtree C ops K (.three i t j u k v) s := ⟨h1, h2, h3⟩

theorem XW.tree {Q : Exit → XS → Prop} (hC : CtxOK P C w0 S0) (hm : P.follows .mixedOrders = true) {id : Nat} (t : OT) (hB : otOK ops t = true) (h : ∀ K : XS → Prop, (∀ s, Q .normal s → K s) → xtree C ops K t s) : XW P C w0 S0 (.region id ops true) Q s := fun a w R => by
  refine wp_region_tree t hm hB (xtree_ok hC (Q := fun a w => ∃ s', Q .normal s' ∧ Rel w0 S0 C.n false noPins s' a w) (K := fun s => Q .normal s) (fun s a w hK R => ⟨s, hK, R⟩) t s noPins a _ (h _ fun _ h => h) ?_)
  obtain ⟨S, pl, R⟩ := R
  have R' := R.grown (Grew.drew w)
  exact ⟨S, pl, { R' with pins := (fun _ i b h => h.elim) }⟩

end
end Fer

namespace Fer
open Go

def kd (U : List Nat) (i : Nat) (o : Op) : Nat := if (U.contains i && okind o == 1) = true then 2 else okind o

section
variable {P : Program} {ops : Array Oper} {U : List Nat} {o : Oper} {i : Nat} {pins : Pins} {a : Act} {w : World} {K K' : Pins → Act → World → Prop}

def kUponU (U : List Nat) (P : Program) (o : Oper) (i : Nat) (pins : Pins) (a : Act) (w : World) (K : Pins → Act → World → Prop) : Prop :=
  match kd U i o.op with
  | 0 => ∃ v, (∀ w', (execOp a.eval o).run P w' = .ok (.value v) w') ∧ K pins (a.put o.dst v) w
  | 1 => ∃ v b, (∀ w', w'.heap[b]? = w.heap[b]? → (execOp a.eval o).run P w' = .ok (.value v) w') ∧ K (addPin i b pins) (a.put o.dst v) w
  | _ => o.wp P a w (fun a' w' => kept o pins w w' ∧ K pins a' w') noQ

variable {o : Oper} {i : Nat} {pins : Pins} {a : Act} {w : World} {K K' : Pins → Act → World → Prop}

theorem kU0U (h : kd U i o.op = 0) :
    kUponU U P o i pins a w K ↔ ∃ v, (∀ w', (execOp a.eval o).run P w' = .ok (.value v) w') ∧ K pins (a.put o.dst v) w := by unfold kUponU; simp only [h]
theorem kU1U (h : kd U i o.op = 1) :
    kUponU U P o i pins a w K ↔ ∃ v b, (∀ w', w'.heap[b]? = w.heap[b]? → (execOp a.eval o).run P w' = .ok (.value v) w') ∧ K (addPin i b pins) (a.put o.dst v) w := by
  unfold kUponU; simp only [h]
theorem kU2U (h0 : kd U i o.op ≠ 0) (h1 : kd U i o.op ≠ 1) :
    kUponU U P o i pins a w K ↔ o.wp P a w (fun a' w' => kept o pins w w' ∧ K pins a' w') noQ := by
  unfold kUponU
  split
  · rename_i e; exact absurd e h0
  · rename_i e; exact absurd e h1
  · rfl

def kOperU (U : List Nat) (P : Program) (ops : Array Oper) (o : Oper) (i : Nat) (pins : Pins) (a : Act) (w : World) (K : Pins → Act → World → Prop) : Prop :=
  if Region.wanted o (yielded ops a.tmps) then kUponU U P o i pins a w K else K pins (a.put o.dst undef) w

def kOpU (U : List Nat) (P : Program) (ops : Array Oper) (i : Nat) (pins : Pins) (K : Pins → Act → World → Prop) (a : Act) (w : World) : Prop :=
  match ops[i]? with
  | none => K pins a w
  | some o => kOperU U P ops o i pins a w K

def wpAnyXU (U : List Nat) (P : Program) (ops : Array Oper) (Q : Pins → Act → World → Prop) : Nat → Array Bool → Pins → Act → World → Prop
  | 0, listed, pins, a, w => Region.ready .any ops listed = [] ∧ Q pins a w
  | fuel + 1, listed, pins, a, w =>
    (Region.ready .any ops listed = [] → Q pins a w) ∧
    ∀ i ∈ Region.ready .any ops listed, kOpU U P ops i pins (wpAnyXU U P ops Q fuel (listed.setIfInBounds i true)) a w

theorem kUpon_wpU {Q : Exit → Act → World → Prop} {K : Act → World → Prop} (h : kUponU U P o i pins a w (fun _ => K)) : o.wp P a w K Q := by
  unfold kUponU at h
  split at h
  · obtain ⟨v, h1, h2⟩ := h
    unfold Oper.wp; rw [h1 w]; exact h2
  · obtain ⟨v, b, h1, h2⟩ := h
    unfold Oper.wp; rw [h1 w rfl]; exact h2
  · exact upon_noQ (Oper.wp_mono (fun a w h => h.2) h)

theorem kOp_wpU {Q : Exit → Act → World → Prop} {K : Act → World → Prop} (h : kOpU U P ops i pins (fun _ => K) a w) : wpOp P ops Q i K a w := by
  unfold kOpU kOperU at h
  unfold wpOp
  split
  · rename_i ho; simpa [ho] using h
  · rename_i o ho
    simp only [ho] at h
    split
    · rename_i hw; simp only [hw, if_true] at h; exact .inl (kUpon_wpU h)
    · rename_i hw; simp only [hw] at h; exact h

theorem kUpon_monoU (hk : ∀ p a w, K p a w → K' p a w) (h : kUponU U P o i pins a w K) : kUponU U P o i pins a w K' := by
  unfold kUponU at *
  split at h
  · obtain ⟨v, h1, h2⟩ := h; exact ⟨v, h1, hk _ _ _ h2⟩
  · obtain ⟨v, b, h1, h2⟩ := h; exact ⟨v, b, h1, hk _ _ _ h2⟩
  · exact Oper.wp_mono (fun a w h => ⟨h.1, hk _ _ _ h.2⟩) h

theorem kOper_monoU (hk : ∀ p a w, K p a w → K' p a w) (h : kOperU U P ops o i pins a w K) : kOperU U P ops o i pins a w K' := by
  unfold kOperU at *
  split
  · rename_i hw; rw [if_pos hw] at h; exact kUpon_monoU hk h
  · rename_i hw; rw [if_neg hw] at h; exact hk _ _ _ h

theorem kOp_monoU (hk : ∀ p a w, K p a w → K' p a w) (h : kOpU U P ops i pins K a w) : kOpU U P ops i pins K' a w := by
  unfold kOpU at *
  split
  · rename_i ho; simp only [ho] at h; exact hk _ _ _ h
  · rename_i o ho; simp only [ho] at h; exact kOper_monoU hk h

theorem kOp_wpU' {Q : Exit → Act → World → Prop} {K' : Act → World → Prop} (hk : ∀ p a w, K p a w → K' a w) (h : kOpU U P ops i pins K a w) : wpOp P ops Q i K' a w :=
  kOp_wpU (kOp_monoU (K' := fun _ => K') hk h)

theorem wpAny_of_XU {Q : Pins → Act → World → Prop} {Q' : Exit → Act → World → Prop} (hQ : ∀ p a w, Q p a w → Q' .normal a w) : ∀ (fuel : Nat) (listed : Array Bool) (pins : Pins) (a : Act) (w : World),
    wpAnyXU U P ops Q fuel listed pins a w → wpAny P .any ops Q' fuel listed a w
  | 0, _, _, _, _, h => ⟨h.1, hQ _ _ _ h.2⟩
  | fuel + 1, _, _, _, _, h => ⟨fun h0 => hQ _ _ _ (h.1 h0), fun i hi => kOp_wpU' (fun p a' w' h' => wpAny_of_XU hQ fuel _ p a' w' h') (h.2 i hi)⟩

theorem kOper_yesU (h : Region.wanted o (yielded ops a.tmps) = true) : kOperU U P ops o i pins a w K ↔ kUponU U P o i pins a w K := by
  unfold kOperU; rw [if_pos h]
theorem kOper_noU (h : ¬ Region.wanted o (yielded ops a.tmps) = true) : kOperU U P ops o i pins a w K ↔ K pins (a.put o.dst undef) w := by
  unfold kOperU; rw [if_neg h]

theorem k_swapU {oi oj : Oper} {i j : Nat} (hap : oi.apart ops oj = true) (hsi : ∀ cs b, oi.op ≠ .select cs b) (hsj : ∀ cs b, oj.op ≠ .select cs b)
    (hm : okMate (kd U i oi.op) (kd U j oj.op) = true) (hnw : waitsOn oj i = false) {K : Pins → Act → World → Prop} {pins : Pins} {a : Act} {w : World}
    (h : kOperU U P ops oi i pins a w (fun p a' w' => kOperU U P ops oj j p a' w' K)) : kOperU U P ops oj j pins a w (fun p a' w' => kOperU U P ops oi i p a' w' K) := by
  obtain ⟨h1, h2, h3⟩ := Oper.apart_spec hap
  have h2' : ∀ d, oj.dst = some d → oi.dst ≠ some d := fun d hd e => h2 d e hd
  have ei : ∀ (a : Act) u, execOp (a.put oj.dst u).eval oi = execOp a.eval oi := fun a u => execOp_put oi hsi a oj.dst u h3
  have ej : ∀ (a : Act) u, execOp (a.put oi.dst u).eval oj = execOp a.eval oj := fun a u => execOp_put oj hsj a oi.dst u h1
  have wi : ∀ (a : Act) u, Region.wanted oi (yielded ops (a.put oj.dst u).tmps) = Region.wanted oi (yielded ops a.tmps) := fun a u => wanted_put oi a oj.dst u h3
  have wj : ∀ (a : Act) u, Region.wanted oj (yielded ops (a.put oi.dst u).tmps) = Region.wanted oj (yielded ops a.tmps) := fun a u => wanted_put oj a oi.dst u h1
  have pc : ∀ (a : Act) v u, (a.put oi.dst v).put oj.dst u = (a.put oj.dst u).put oi.dst v := fun a v u => Act.put_comm a v u h2
  have ejd : ∀ (a' : Act) (ds : List Deferred) v, a' = ({ a with defers := ds } : Act).put oi.dst v → execOp a'.eval oj = execOp a.eval oj ∧ Region.wanted oj (yielded ops a'.tmps) = Region.wanted oj (yielded ops a.tmps) := by
    rintro a' ds v rfl
    exact ⟨by rw [put_defers']; exact ej a v, by rw [put_defers']; exact wj a v⟩
  have eid : ∀ (a' : Act) (ds : List Deferred) v, a' = ({ a with defers := ds } : Act).put oj.dst v → execOp a'.eval oi = execOp a.eval oi ∧ Region.wanted oi (yielded ops a'.tmps) = Region.wanted oi (yielded ops a.tmps) := by
    rintro a' ds v rfl
    exact ⟨by rw [put_defers']; exact ei a v, by rw [put_defers']; exact wi a v⟩
  by_cases hwi : Region.wanted oi (yielded ops a.tmps) = true
  · rw [kOper_yesU hwi] at h
    by_cases hki : kd U i oi.op = 0
    · -- i looks at no memory
      obtain ⟨v, hv, h⟩ := (kU0U hki).1 h
      have back : ∀ (p : Pins) (a' : Act) (w' : World), (∃ ds u, a' = ({ a with defers := ds } : Act).put oj.dst u) → K p (a'.put oi.dst v) w' → kOperU U P ops oi i p a' w' K := by
        rintro p a' w' ⟨ds, u, ha⟩ hK
        obtain ⟨q1, q2⟩ := eid a' ds u ha
        rw [kOper_yesU (by rw [q2]; exact hwi), kU0U hki]
        exact ⟨v, fun w'' => by rw [q1]; exact hv w'', hK⟩
      by_cases hwj : Region.wanted oj (yielded ops a.tmps) = true
      · rw [kOper_yesU (by rw [wj]; exact hwj)] at h
        rw [kOper_yesU hwj]
        by_cases hkj : kd U j oj.op = 0
        · obtain ⟨u, hu, hK⟩ := (kU0U hkj).1 h
          exact (kU0U hkj).2 ⟨u, fun w'' => by rw [← ej a v]; exact hu w'', back _ _ _ ⟨a.defers, u, rfl⟩ (by rw [← pc]; exact hK)⟩
        · by_cases hkj1 : kd U j oj.op = 1
          · obtain ⟨u, b, hu, hK⟩ := (kU1U hkj1).1 h
            exact (kU1U hkj1).2 ⟨u, b, fun w'' hw'' => by rw [← ej a v]; exact hu w'' hw'', back _ _ _ ⟨a.defers, u, rfl⟩ (by rw [← pc]; exact hK)⟩
          · rw [kU2U hkj hkj1] at h ⊢
            unfold Oper.wp at *
            rw [ej] at h
            exact upon_put h2 _ (fun a' w' ha hK => ⟨hK.1, back _ a' w' ha hK.2⟩) h
      · rw [kOper_noU (by rw [wj]; exact hwj)] at h
        rw [kOper_noU hwj]
        exact back _ _ _ ⟨a.defers, undef, rfl⟩ (by rw [← pc]; exact h)
    · by_cases hki1 : kd U i oi.op = 1
      · -- i looks at memory: its block is pinned
        obtain ⟨v, b, hv, h⟩ := (kU1U hki1).1 h
        have back : ∀ (p : Pins) (a' : Act) (w' : World), (∃ ds u, a' = ({ a with defers := ds } : Act).put oj.dst u) → w'.heap[b]? = w.heap[b]? → K (addPin i b p) (a'.put oi.dst v) w' → kOperU U P ops oi i p a' w' K := by
          rintro p a' w' ⟨ds, u, ha⟩ hb hK
          obtain ⟨q1, q2⟩ := eid a' ds u ha
          rw [kOper_yesU (by rw [q2]; exact hwi), kU1U hki1]
          exact ⟨v, b, fun w'' hw'' => by rw [q1]; exact hv w'' (hw''.trans hb), hK⟩
        by_cases hwj : Region.wanted oj (yielded ops a.tmps) = true
        · rw [kOper_yesU (by rw [wj]; exact hwj)] at h
          rw [kOper_yesU hwj]
          by_cases hkj : kd U j oj.op = 0
          · obtain ⟨u, hu, hK⟩ := (kU0U hkj).1 h
            exact (kU0U hkj).2 ⟨u, fun w'' => by rw [← ej a v]; exact hu w'', back _ _ _ ⟨a.defers, u, rfl⟩ rfl (by rw [← pc]; exact hK)⟩
          · by_cases hkj1 : kd U j oj.op = 1
            · obtain ⟨u, c, hu, hK⟩ := (kU1U hkj1).1 h
              exact (kU1U hkj1).2 ⟨u, c, fun w'' hw'' => by rw [← ej a v]; exact hu w'' hw'', back _ _ _ ⟨a.defers, u, rfl⟩ rfl (by rw [← pc, addPin_comm]; exact hK)⟩
            · rw [kU2U hkj hkj1] at h ⊢
              unfold Oper.wp at *
              rw [ej] at h
              refine upon_put h2 _ (fun a' w' ha hK => ?_) h
              obtain ⟨hk, hK⟩ := hK
              exact ⟨fun i' b' hp hw' => hk i' b' (.inr hp) hw', back _ a' w' ha (hk i b (.inl ⟨rfl, rfl⟩) hnw) hK⟩
        · rw [kOper_noU (by rw [wj]; exact hwj)] at h
          rw [kOper_noU hwj]
          exact back _ _ _ ⟨a.defers, undef, rfl⟩ rfl (by rw [← pc]; exact h)
      · -- i may do anything: j looks at no memory
        have hkj : kd U j oj.op = 0 := by
          simp only [okMate, Bool.or_eq_true, beq_iff_eq, decide_eq_true_eq] at hm
          rcases hm with hm | hm
          · omega
          · exact hm
        rw [kU2U hki hki1] at h
        by_cases hwj : Region.wanted oj (yielded ops a.tmps) = true
        · have hu : ∃ u, ∀ w'', (execOp a.eval oj).run P w'' = .ok (.value u) w'' := by
            refine upon_some h fun a' v w' ⟨ds, ha'⟩ hK => ?_
            obtain ⟨q1, q2⟩ := ejd a' ds v ha'
            have hK := hK.2
            rw [kOper_yesU (by rw [q2]; exact hwj), kU0U hkj] at hK
            obtain ⟨u, hu, _⟩ := hK
            exact ⟨u, fun w'' => by rw [← q1]; exact hu w''⟩
          obtain ⟨u, hu⟩ := hu
          rw [kOper_yesU hwj, kU0U hkj]
          refine ⟨u, hu, ?_⟩
          rw [kOper_yesU (by rw [wi]; exact hwi), kU2U hki hki1]
          unfold Oper.wp at *
          rw [ei]
          refine upon_unput h2' _ ?_ h
          rintro a' w' ⟨ds, v, ha'⟩ ⟨hkp, hK⟩
          obtain ⟨q1, q2⟩ := ejd a' ds v ha'
          rw [kOper_yesU (by rw [q2]; exact hwj), kU0U hkj] at hK
          obtain ⟨u', hu', hK⟩ := hK
          have e3 := hu' w'
          rw [q1, hu w'] at e3
          simp only [Result.ok.injEq, Next.value.injEq, and_true] at e3
          rw [e3]
          exact ⟨hkp, hK⟩
        · rw [kOper_noU hwj, kOper_yesU (by rw [wi]; exact hwi), kU2U hki hki1]
          unfold Oper.wp at *
          rw [ei]
          refine upon_unput h2' _ ?_ h
          rintro a' w' ⟨ds, v, ha'⟩ ⟨hkp, hK⟩
          obtain ⟨q1, q2⟩ := ejd a' ds v ha'
          rw [kOper_noU (by rw [q2]; exact hwj)] at hK
          exact ⟨hkp, hK⟩
  · -- i is not wanted
    rw [kOper_noU hwi] at h
    have back : ∀ (p : Pins) (a' : Act) (w' : World), (∃ ds u, a' = ({ a with defers := ds } : Act).put oj.dst u) → K p (a'.put oi.dst undef) w' → kOperU U P ops oi i p a' w' K := by
      rintro p a' w' ⟨ds, u, ha⟩ hK
      obtain ⟨q1, q2⟩ := eid a' ds u ha
      rw [kOper_noU (by rw [q2]; exact hwi)]
      exact hK
    by_cases hwj : Region.wanted oj (yielded ops a.tmps) = true
    · rw [kOper_yesU (by rw [wj]; exact hwj)] at h
      rw [kOper_yesU hwj]
      by_cases hkj : kd U j oj.op = 0
      · obtain ⟨u, hu, hK⟩ := (kU0U hkj).1 h
        exact (kU0U hkj).2 ⟨u, fun w'' => by rw [← ej a undef]; exact hu w'', back _ _ _ ⟨a.defers, u, rfl⟩ (by rw [← pc]; exact hK)⟩
      · by_cases hkj1 : kd U j oj.op = 1
        · obtain ⟨u, b, hu, hK⟩ := (kU1U hkj1).1 h
          exact (kU1U hkj1).2 ⟨u, b, fun w'' hw'' => by rw [← ej a undef]; exact hu w'' hw'', back _ _ _ ⟨a.defers, u, rfl⟩ (by rw [← pc]; exact hK)⟩
        · rw [kU2U hkj hkj1] at h ⊢
          unfold Oper.wp at *
          rw [ej] at h
          exact upon_put h2 _ (fun a' w' ha hK => ⟨hK.1, back _ a' w' ha hK.2⟩) h
    · rw [kOper_noU (by rw [wj]; exact hwj)] at h
      rw [kOper_noU hwj]
      exact back _ _ _ ⟨a.defers, undef, rfl⟩ (by rw [← pc]; exact h)

theorem kOper_falseU (h : kOperU U P ops o i pins a w (fun _ _ _ => False)) : False := by
  unfold kOperU at h
  split at h
  · by_cases h0 : kd U i o.op = 0
    · obtain ⟨_, _, h⟩ := (kU0U h0).1 h; exact h
    · by_cases h1 : kd U i o.op = 1
      · obtain ⟨_, _, _, h⟩ := (kU1U h1).1 h; exact h
      · rw [kU2U h0 h1] at h
        exact upon_some h fun _ _ _ _ h => h.2
  · exact h

theorem anyX_firstU {Q : Pins → Act → World → Prop} {i : Nat} {oi : Oper} (hi : ops[i]? = some oi) (hsel : ∀ (j : Nat) (o : Oper) cs b, ops[j]? = some o → o.op ≠ .select cs b) :
    ∀ (fuel : Nat) (listed : Array Bool) (pins : Pins) (a : Act) (w : World),
      (∀ j oj, ops[j]? = some oj → j ≠ i → listed.getD j true = false → waitsOn oj i = false → oi.apart ops oj = true ∧ okMate (kd U i oi.op) (kd U j oj.op) = true) →
      i ∈ Region.ready .any ops listed →
      kOperU U P ops oi i pins a w (wpAnyXU U P ops Q fuel (listed.setIfInBounds i true)) → wpAnyXU U P ops Q (fuel + 1) listed pins a w := by
  intro fuel
  induction fuel with
  | zero =>
    intro listed pins a w hfree hr H
    refine ⟨fun h => (by rw [h] at hr; cases hr), fun j hj => ?_⟩
    by_cases hji : j = i
    · subst hji; unfold kOpU; rw [hi]; exact H
    · have hj' := ready_mono hj hji
      exact (kOper_falseU (kOper_monoU (fun p a' w' h => by
        have h1 := h.1
        rw [h1] at hj'
        cases hj') H)).elim
  | succ fuel ih =>
    intro listed pins a w hfree hr H
    refine ⟨fun h => (by rw [h] at hr; cases hr), fun j hj => ?_⟩
    by_cases hji : j = i
    · subst hji; unfold kOpU; rw [hi]; exact H
    · obtain ⟨hjun, oj, hoj, hall⟩ := mem_ready.1 hj
      have hnot : waitsOn oj i = false := by
        cases hw : waitsOn oj i with
        | false => rfl
        | true =>
          obtain ⟨e, he, hb⟩ := Array.any_eq_true'.1 hw
          simp only [Bool.and_eq_true, beq_iff_eq] at hb
          have h1 := hall e he hb.1
          have h0 := (mem_ready.1 hr).1
          rw [hb.2] at h1
          rcases Nat.lt_or_ge i listed.size with h' | h'
          · simp [h'] at h0 h1; rw [h0] at h1; cases h1
          · simp [Array.getElem?_eq_none h'] at h1
      obtain ⟨hap, hmate⟩ := hfree j oj hoj hji hjun hnot
      have H1 : kOperU U P ops oi i pins a w (fun p a' w' => kOperU U P ops oj j p a' w' (wpAnyXU U P ops Q fuel ((listed.setIfInBounds i true).setIfInBounds j true))) := by
        refine kOper_monoU (fun p a' w' h => ?_) H
        have := h.2 j (ready_mono hj hji)
        unfold kOpU at this
        rw [hoj] at this
        exact this
      have H2 := k_swapU hap (fun cs b => hsel i oi cs b hi) (fun cs b => hsel j oj cs b hoj) hmate hnot H1
      unfold kOpU
      rw [hoj]
      refine kOper_monoU (fun p a' w' h => ih (listed.setIfInBounds j true) p a' w' ?_ (ready_mono hr (Ne.symm hji)) ?_) H2
      · intro k ok hk hki hun hno
        refine hfree k ok hk hki ?_ hno
        by_cases hjk : j = k
        · subst hjk; exact hjun
        · rw [getD_set_ne true hjk] at hun; exact hun
      · rw [Array.setIfInBounds_comm _ _ hji]
        exact h

def freeXU (U : List Nat) (ops : Array Oper) (listed : Array Bool) (k : Nat) : Bool :=
  match ops[k]? with
  | none => false
  | some ok => (List.range ops.size).all fun j => j == k || listed.getD j true ||
      match ops[j]? with
      | none => true
      | some oj => waitsOn oj k || (ok.apart ops oj && okMate (kd U k ok.op) (kd U j oj.op))

theorem freeX_specU {listed : Array Bool} {k : Nat} {ok : Oper} (hk : ops[k]? = some ok) (h : freeXU U ops listed k = true) :
    ∀ j oj, ops[j]? = some oj → j ≠ k → listed.getD j true = false → waitsOn oj k = false → ok.apart ops oj = true ∧ okMate (kd U k ok.op) (kd U j oj.op) = true := by
  intro j oj hj hjk hun hno
  unfold freeXU at h
  rw [hk] at h
  have hlt : j < ops.size := (Array.getElem?_eq_some_iff.1 hj).1
  have h1 := List.all_eq_true.1 h j (List.mem_range.2 hlt)
  simp only [hj, Bool.or_eq_true, Bool.and_eq_true, beq_iff_eq] at h1
  rcases h1 with (h1 | h1) | h1 | h1
  · exact absurd h1 hjk
  · rw [hun] at h1; cases h1
  · rw [hno] at h1; cases h1
  · exact h1


end

def OT.okU (U : List Nat) (ops : Array Oper) : OT → Array Bool → Bool
  | .nil, listed => (Region.ready .any ops listed).isEmpty
  | .one k t, listed => (((Region.ready .any ops listed).contains k && freeXU U ops listed k) || Region.ready .any ops listed == [k]) && t.okU U ops (listed.setIfInBounds k true)
  | .two i t j u, listed => (Region.ready .any ops listed).all (fun k => k == i || k == j) && !(Region.ready .any ops listed).isEmpty && t.len == u.len && t.okU U ops (listed.setIfInBounds i true) && u.okU U ops (listed.setIfInBounds j true)
  | .three i t j u k v, listed => (Region.ready .any ops listed).all (fun q => q == i || q == j || q == k) && !(Region.ready .any ops listed).isEmpty && t.len == u.len && t.len == v.len && t.okU U ops (listed.setIfInBounds i true) && u.okU U ops (listed.setIfInBounds j true) && v.okU U ops (listed.setIfInBounds k true)

def otOKU (U : List Nat) (ops : Array Oper) (t : OT) : Bool := Region.noSelect ops && t.len == ops.size && t.okU U ops (Array.replicate ops.size false)

def wpTreeU (U : List Nat) (P : Program) (ops : Array Oper) (Q : Pins → Act → World → Prop) : OT → Pins → Act → World → Prop
  | .nil, pins, a, w => Q pins a w
  | .one i t, pins, a, w => match ops[i]? with
    | none => False
    | some o => kOperU U P ops o i pins a w (wpTreeU U P ops Q t)
  | .two i t j u, pins, a, w => (match ops[i]? with
    | none => False
    | some o => kOperU U P ops o i pins a w (wpTreeU U P ops Q t)) ∧ (match ops[j]? with
    | none => False
    | some o => kOperU U P ops o j pins a w (wpTreeU U P ops Q u))
  | .three i t j u k v, pins, a, w => (match ops[i]? with
    | none => False
    | some o => kOperU U P ops o i pins a w (wpTreeU U P ops Q t)) ∧ (match ops[j]? with
    | none => False
    | some o => kOperU U P ops o j pins a w (wpTreeU U P ops Q u)) ∧ (match ops[k]? with
    | none => False
    | some o => kOperU U P ops o k pins a w (wpTreeU U P ops Q v))

def XS.unpin (s : XS) (i : Nat) : XS := { s with pins := rm s.pins i }
def xopU (U : List Nat) (C : Ctx) (ops : Array Oper) (o : Oper) (i : Nat) (K : XS → Prop) (s : XS) : Prop :=
  if U.contains i = true then (lk s.pins i).isNone = true ∧ xoper C true ops o i (fun s' => K (s'.unpin i)) s else xoper C true ops o i K s
def xtreeU (U : List Nat) (C : Ctx) (ops : Array Oper) (K : XS → Prop) : OT → XS → Prop
  | .nil, s => K { s with pins := [] }
  | .one i t, s => match ops[i]? with
    | some o => xopU U C ops o i (xtreeU U C ops K t) s
    | none => False
  | .two i t j u, s => (match ops[i]? with
    | some o => xopU U C ops o i (xtreeU U C ops K t) s
    | none => False) ∧ (match ops[j]? with
    | some o => xopU U C ops o j (xtreeU U C ops K u) s
    | none => False)
  | .three i t j u k v, s => (match ops[i]? with
    | some o => xopU U C ops o i (xtreeU U C ops K t) s
    | none => False) ∧ (match ops[j]? with
    | some o => xopU U C ops o j (xtreeU U C ops K u) s
    | none => False) ∧ (match ops[k]? with
    | some o => xopU U C ops o k (xtreeU U C ops K v) s
    | none => False)

section
variable {P : Program} {C : Ctx} {w0 : World} {S0 : Nat → Prop} {s : XS} {ops : Array Oper} {U : List Nat}

theorem anyX_treeU {Q : Pins → Act → World → Prop} (hs : Region.noSelect ops = true) : ∀ (t : OT) (listed : Array Bool) (pins : Pins) (a : Act) (w : World),
    t.okU U ops listed = true → wpTreeU U P ops Q t pins a w → wpAnyXU U P ops Q t.len listed pins a w
  | .nil, _, _, _, _, hB, h => ⟨by simpa [OT.okU] using hB, h⟩
  | .one k t, listed, pins, a, w, hB, h => by
    simp only [OT.okU, Bool.and_eq_true, Bool.or_eq_true, beq_iff_eq] at hB
    obtain ⟨hrf, hB'⟩ := hB
    simp only [wpTreeU] at h
    cases h0 : ops[k]? with
    | none => rw [h0] at h; exact h.elim
    | some o =>
      rw [h0] at h
      rcases hrf with ⟨hr, hf⟩ | hr
      case inr =>
        refine ⟨fun h1 => (by rw [h1] at hr; cases hr), fun j hj => ?_⟩
        rw [hr, List.mem_singleton] at hj
        subst hj
        unfold kOpU
        rw [h0]
        exact kOper_monoU (fun p a' w' h' => anyX_treeU hs t _ p a' w' hB' h') h
      refine anyX_firstU h0 (Region.noSelect_spec hs) t.len listed pins a w (freeX_specU h0 hf) (by simpa using hr) ?_
      exact kOper_monoU (fun p a' w' h' => anyX_treeU hs t _ p a' w' hB' h') h
  | .two i t j u, listed, pins, a, w, hB, h => by
    simp only [OT.okU, Bool.and_eq_true, List.all_eq_true, Bool.or_eq_true, beq_iff_eq, Bool.not_eq_true'] at hB
    obtain ⟨⟨⟨⟨hr, hne⟩, hl⟩, hB1⟩, hB2⟩ := hB
    simp only [wpTreeU] at h
    refine ⟨fun h0 => (by rw [h0] at hne; cases hne), fun k hk => ?_⟩
    rcases hr k hk with rfl | rfl
    · have h := h.1
      unfold kOpU
      cases h0 : ops[k]? with
      | none => rw [h0] at h; exact h.elim
      | some o => rw [h0] at h; exact kOper_monoU (fun p a' w' h' => anyX_treeU hs t _ p a' w' hB1 h') h
    · have h := h.2
      unfold kOpU
      cases h0 : ops[k]? with
      | none => rw [h0] at h; exact h.elim
      | some o =>
        rw [h0] at h
        refine kOper_monoU (fun p a' w' h' => ?_) h
        have := anyX_treeU hs u _ p a' w' hB2 h'
        rwa [← hl] at this
  | .three i t j u k v, listed, pins, a, w, hB, h => by
    simp only [OT.okU, Bool.and_eq_true, List.all_eq_true, Bool.or_eq_true, beq_iff_eq, Bool.not_eq_true'] at hB
    obtain ⟨⟨⟨⟨⟨⟨hr, hne⟩, hl⟩, hl2⟩, hB1⟩, hB2⟩, hB3⟩ := hB
    simp only [wpTreeU] at h
    refine ⟨fun h0 => (by rw [h0] at hne; cases hne), fun q hk => ?_⟩
    rcases hr q hk with (rfl | rfl) | rfl
    · have h := h.1
      unfold kOpU
      cases h0 : ops[q]? with
      | none => rw [h0] at h; exact h.elim
      | some o => rw [h0] at h; exact kOper_monoU (fun p a' w' h' => anyX_treeU hs t _ p a' w' hB1 h') h
    · have h := h.2.1
      unfold kOpU
      cases h0 : ops[q]? with
      | none => rw [h0] at h; exact h.elim
      | some o =>
        rw [h0] at h
        refine kOper_monoU (fun p a' w' h' => ?_) h
        have := anyX_treeU hs u _ p a' w' hB2 h'
        rwa [← hl] at this
    · have h := h.2.2
      unfold kOpU
      cases h0 : ops[q]? with
      | none => rw [h0] at h; exact h.elim
      | some o =>
        rw [h0] at h
        refine kOper_monoU (fun p a' w' h' => ?_) h
        have := anyX_treeU hs v _ p a' w' hB3 h'
        rwa [← hl2] at this

theorem wp_region_treeU {id : Nat} {Q : Exit → Act → World → Prop} {a : Act} {w : World} (U : List Nat) (t : OT) (hm : P.follows .mixedOrders = true) (hB : otOKU U ops t = true)
    (h : wpTreeU U P ops (fun _ a' w' => Q .normal a' w') t noPins a { w with drawn := w.drawn + 1 }) : (Code.region id ops true).wp P Q a w := by
  simp only [otOKU, Bool.and_eq_true, beq_iff_eq] at hB
  refine wp_region_any hm (wpAny_of_XU (U := U) (Q := fun _ a' w' => Q .normal a' w') (fun _ _ _ h => h) _ _ noPins _ _ ?_)
  have := anyX_treeU hB.1.1 t (Array.replicate ops.size false) noPins a { w with drawn := w.drawn + 1 } hB.2 h
  rwa [hB.1.2] at this

theorem mem_rm {α : Type} {i : Nat} {q : α} {j : Nat} (hj : j ≠ i) : ∀ {l : List (Nat × α)}, (j, q) ∈ l → (j, q) ∈ rm l i
  | [], h => by cases h
  | (k, x) :: l, h => by
    simp only [rm]
    rcases List.mem_cons.1 h with h | h
    · cases h
      rw [if_neg hj]
      exact List.mem_cons_self
    · split
      · exact mem_rm hj h
      · exact List.mem_cons_of_mem _ (mem_rm hj h)
theorem not_lk {α : Type} {i : Nat} {q : α} : ∀ {l : List (Nat × α)}, lk l i = none → ¬ (i, q) ∈ l
  | [], _, h => by cases h
  | (k, x) :: l, h, hm => by
    simp only [lk] at h
    split at h
    · cases h
    · rename_i hne
      rcases List.mem_cons.1 hm with hm | hm
      · cases hm; exact hne rfl
      · exact not_lk h hm
theorem Rel.unpin {N : Nat} {pc pc' : Pins} {i : Nat} {a : Act} {w : World} (R : Rel w0 S0 N true pc' s a w) (hs : ∀ j b, pc j b → pc' j b) (hn : ∀ b, ¬ pc i b) : Rel w0 S0 N true pc (s.unpin i) a w := by
  obtain ⟨S, pl, R⟩ := R
  refine ⟨S, pl, { R with pins := fun hd j b hp => ?_ }⟩
  obtain ⟨q, h1, h2, h3⟩ := R.pins hd j b (hs j b hp)
  have hj : j ≠ i := fun e => hn b (e ▸ hp)
  exact ⟨q, mem_rm hj h1, h2, h3⟩

theorem Out.kU {o : Oper} {i : Nat} {pc : Pins} {a : Act} {w : World} {K K' : Pins → Act → World → Prop} (hk : ∀ a w, K pc a w → K' pc a w) (hk1 : ∀ b a w, K (addPin i b pc) a w → K' pc a w)
    (h : Out P true o i pc a w K) (hi : U.contains i = true) : kUponU U P o i pc a w K' := by
  rcases h with h | ⟨hd, _⟩
  · revert h
    unfold Out0 kUponU kd
    rw [hi]
    cases ho : okind o.op with
    | zero => exact fun ⟨v, h1, h2⟩ => ⟨v, h1, hk _ _ h2⟩
    | succ n =>
      cases n with
      | zero =>
        rintro ⟨v, b, h1, h2⟩
        show o.wp P a w (fun a' w' => kept o pc w w' ∧ K' pc a' w') noQ
        unfold Oper.wp
        rw [h1 w rfl]
        exact ⟨fun _ _ _ _ => rfl, hk1 b _ _ h2⟩
      | succ n =>
        have e : (true && (n + 1 + 1 == 1)) = false := by simp
        intro h
        simp only [e]
        exact Oper.wp_mono (fun a w h => ⟨h.1 rfl, hk _ _ h.2⟩) h
  · cases hd
theorem Out.kN {o : Oper} {i : Nat} {pc : Pins} {a : Act} {w : World} {K : Pins → Act → World → Prop} (h : Out P true o i pc a w K) (hi : ¬ U.contains i = true) : kUponU U P o i pc a w K := by
  have := Out.k h
  have e : kd U i o.op = okind o.op := by
    unfold kd
    rw [if_neg]
    simp only [Bool.and_eq_true, not_and]
    exact fun h => absurd h hi
  unfold kUpon at this
  unfold kUponU
  rw [e]
  exact this

theorem xopU_ok (hC : CtxOK P C w0 S0) {o : Oper} {i : Nat} {K : XS → Prop} {K' : Pins → Act → World → Prop} {pc : Pins} {a : Act} {w : World}
    (hK : ∀ s pc a w, K s → Rel w0 S0 C.n true pc s a w → K' pc a w) (h : xopU U C ops o i K s) (R : Rel w0 S0 C.n true pc s a w) : kOperU U P ops o i pc a w K' := by
  unfold xopU at h
  split at h
  · rename_i hi
    obtain ⟨hl, hd, h⟩ := h
    obtain ⟨S, pl, R⟩ := R
    have hd := dOK_lt hd
    have hnp : ∀ b, ¬ pc i b := fun b hp => by
      obtain ⟨q, h1, _⟩ := R.pins rfl i b hp
      exact not_lk (by simpa using hl) h1
    simp only [kOperU]
    split at h
    · exact h.elim
    · rename_i b hb
      rw [xwant_ok R hb]
      cases b with
      | true =>
        simp only [if_true]
        rw [xgd_true] at h
        have := xdo_ok hC (R.known hb) hd h
        refine Out.kU (fun a' w' hh => ?_) (fun b a' w' hh => ?_) this hi
        · obtain ⟨s', h1, h2⟩ := hh
          exact hK _ pc a' w' h1 (h2.unpin (fun _ _ h => h) hnp)
        · obtain ⟨s', h1, h2⟩ := hh
          exact hK _ pc a' w' h1 (h2.unpin (fun _ _ h => .inr h) hnp)
      | false =>
        simp only [Bool.false_eq_true, if_false]
        exact hK _ pc _ w h (Rel.unpin ⟨S, pl, (R.known hb).skip hd⟩ (fun _ _ h => h) hnp)
  · rename_i hi
    obtain ⟨S, pl, R⟩ := R
    obtain ⟨hd, h⟩ := h
    have hd := dOK_lt hd
    simp only [kOperU]
    split at h
    · exact h.elim
    · rename_i b hb
      rw [xwant_ok R hb]
      cases b with
      | true =>
        simp only [if_true]
        have := xdo_ok hC (R.known hb) hd h
        exact Out.kN (this.mono fun pc' a' w' hh => by
          obtain ⟨s', h1, h2⟩ := hh
          exact hK s' pc' a' w' h1 h2) hi
      | false =>
        simp only [Bool.false_eq_true, if_false]
        exact hK _ pc _ w h ⟨S, pl, (R.known hb).skip hd⟩

theorem xtreeU_ok (hC : CtxOK P C w0 S0) {K : XS → Prop} {Q : Act → World → Prop} (hK : ∀ s a w, K s → Rel w0 S0 C.n false noPins s a w → Q a w) :
    ∀ (t : OT) (s : XS) (pc : Pins) (a : Act) (w : World), xtreeU U C ops K t s → Rel w0 S0 C.n true pc s a w → wpTreeU U P ops (fun _ a w => Q a w) t pc a w
  | .nil, s, pc, a, w, h, ⟨S, pl, R⟩ => hK _ a w h ⟨S, pl, { R with pins := (fun h => by cases h) }⟩
  | .one i t, s, pc, a, w, h, R => by
    simp only [xtreeU] at h
    simp only [wpTreeU]
    cases ho : ops[i]? with
    | none => rw [ho] at h; exact h.elim
    | some o =>
      rw [ho] at h
      exact xopU_ok hC (fun s' pc' a' w' h1 h2 => xtreeU_ok hC hK t s' pc' a' w' h1 h2) h R
  | .two i t j u, s, pc, a, w, h, R => by
    simp only [xtreeU] at h
    simp only [wpTreeU]
    constructor
    · have h := h.1
      cases ho : ops[i]? with
      | none => rw [ho] at h; exact h.elim
      | some o =>
        rw [ho] at h
        exact xopU_ok hC (fun s' pc' a' w' h1 h2 => xtreeU_ok hC hK t s' pc' a' w' h1 h2) h R
    · have h := h.2
      cases ho : ops[j]? with
      | none => rw [ho] at h; exact h.elim
      | some o =>
        rw [ho] at h
        exact xopU_ok hC (fun s' pc' a' w' h1 h2 => xtreeU_ok hC hK u s' pc' a' w' h1 h2) h R
  | .three i t j u k v, s, pc, a, w, h, R => by
    simp only [xtreeU] at h
    simp only [wpTreeU]
    refine ⟨?_, ?_, ?_⟩
    · have h := h.1
      cases ho : ops[i]? with
      | none => rw [ho] at h; exact h.elim
      | some o =>
        rw [ho] at h
        exact xopU_ok hC (fun s' pc' a' w' h1 h2 => xtreeU_ok hC hK t s' pc' a' w' h1 h2) h R
    · have h := h.2.1
      cases ho : ops[j]? with
      | none => rw [ho] at h; exact h.elim
      | some o =>
        rw [ho] at h
        exact xopU_ok hC (fun s' pc' a' w' h1 h2 => xtreeU_ok hC hK u s' pc' a' w' h1 h2) h R
    · have h := h.2.2
      cases ho : ops[k]? with
      | none => rw [ho] at h; exact h.elim
      | some o =>
        rw [ho] at h
        exact xopU_ok hC (fun s' pc' a' w' h1 h2 => xtreeU_ok hC hK v s' pc' a' w' h1 h2) h R

theorem xtreeU_nil {K : XS → Prop} (h : K { s with pins := [] }) : xtreeU U C ops K .nil s := h
theorem xtreeU_one {K : XS → Prop} {i : Nat} {o : Oper} {t : OT} (ho : ops[i]? = some o) (hi : U.contains i = false) (h : xoper C true ops o i (xtreeU U C ops K t) s) : xtreeU U C ops K (.one i t) s := by
  simp only [xtreeU, ho, xopU, hi]; exact h
theorem xtreeU_uno {K : XS → Prop} {i : Nat} {o : Oper} {t : OT} (ho : ops[i]? = some o) (hi : U.contains i = true) (hl : (lk s.pins i).isNone = true) (h : xoper C true ops o i (fun s' => xtreeU U C ops K t (s'.unpin i)) s) : xtreeU U C ops K (.one i t) s := by
  simp only [xtreeU, ho, xopU, hi, if_true]; exact ⟨hl, h⟩
theorem xtreeU_two {K : XS → Prop} {i j : Nat} {t u : OT} (h1 : xtreeU U C ops K (.one i t) s) (h2 : xtreeU U C ops K (.one j u) s) : xtreeU U C ops K (.two i t j u) s := ⟨h1, h2⟩
theorem xtreeU_three {K : XS → Prop} {i j k : Nat} {t u v : OT} (h1 : xtreeU U C ops K (.one i t) s) (h2 : xtreeU U C ops K (.one j u) s) (h3 : xtreeU U C ops K (.one k v) s) : xtreeU U C ops K (.three i t j u k v) s := ⟨h1, h2, h3⟩

theorem XW.treeU {Q : Exit → XS → Prop} (hC : CtxOK P C w0 S0) (hm : P.follows .mixedOrders = true) {id : Nat} (U : List Nat) (t : OT) (hB : otOKU U ops t = true) (h : ∀ K : XS → Prop, (∀ s, Q .normal s → K s) → xtreeU U C ops K t s) : XW P C w0 S0 (.region id ops true) Q s := fun a w R => by
  refine wp_region_treeU U t hm hB (xtreeU_ok hC (Q := fun a w => ∃ s', Q .normal s' ∧ Rel w0 S0 C.n false noPins s' a w) (K := fun s => Q .normal s) (fun s a w hK R => ⟨s, hK, R⟩) t s noPins a _ (h _ fun _ h => h) ?_)
  obtain ⟨S, pl, R⟩ := R
  have R' := R.grown (Grew.drew w)
  exact ⟨S, pl, { R' with pins := (fun _ i b h => h.elim) }⟩

end
end Fer

namespace Fer
open Go

theorem RO.flat {w w' : World} {S S' : Nat → Prop} : ∀ {t : Ty} {x : t.den} {cs : List Value}, t.flat = true → RO w S t x cs → RO w' S' t x cs
  | .int _, _, _, _, h | .bool, _, _, _, h | .str, _, _, _, h | .raw, _, _, _, h => h
  | .list _ _, _, _, h, _ => by simp [Ty.flat] at h
  | .fn _ _, _, _, h, _ => by simp [Ty.flat] at h
  | .row _ _, _, _, h, _ => by simp [Ty.flat] at h
  | .ro _ _, _, _, h, _ => by simp [Ty.flat] at h
  | .func, _, _, _, h => h
  | .prod a b, x, cs, hf, h => by
    simp only [Ty.flat, Bool.and_eq_true] at hf
    obtain ⟨c1, c2, rfl, h1, h2⟩ := h
    exact ⟨c1, c2, rfl, h1.flat hf.1, h2.flat hf.2⟩

open Classical in
noncomputable def outOf (s : XS) (t : Nat) : Option (Option Nat × TV) :=
  match s.get t with
  | some (.dat ty x) => if ty.flat = true then some (none, ⟨ty, x⟩) else none
  | some (.ref r []) => match s.root r with
    | some rt => if rt.h = none ∧ rt.t.noRo = true ∧ (rt.t.lev ≤ rt.k ∨ rt.x = []) then some (some r, ⟨rt.ty, rt.x⟩) else none
    | none => none
  | some (.ref r (i :: p)) => match s.root r with
    | some rt => match elAt rt (i :: p) with
      | some el => if rt.h = none ∧ el.t.noRo = true ∧ okNode rt (i :: p) ∧ el.t.lev + 1 ≤ dep (i :: p) rt.ty (rt.k + 1) then some (some r, ⟨.list el.e el.t, el.l⟩) else none
      | none => none
    | none => none
  | _ => none

noncomputable def outsOf (s : XS) : List Nat → Option (List Nat × List TV)
  | [] => some ([], [])
  | t :: l => match outOf s t, outsOf s l with
    | some (none, v), some (rs, vs) => some (rs, v :: vs)
    | some (some r, v), some (rs, vs) => if rs.contains r = true then none else some (r :: rs, v :: vs)
    | _, _ => none

noncomputable def retK (slots : List Nat) (K : List TV → Prop) : Exit → XS → Prop
  | .ret, s | .normal, s => match outsOf s slots with
    | some (_, vs) => K vs
    | none => False
  | _, _ => False

def env0 : Nat → List TV → List (Nat × AV)
  | _, [] => []
  | n, v :: l => (n, .dat v.t v.x) :: env0 (n + 1) l

def XS.init (args : List TV) : XS := ⟨env0 0 args, [], 0, []⟩

section
variable {P : Program} {C : Ctx} {w0 : World} {S0 : Nat → Prop} {N : Nat} {s : XS} {a : Act} {w w' : World} {S : Nat → Prop} {pl : Nat → PL}

theorem outsOf_ok (R : RelAt w0 S0 N false noPins s a w S pl) : ∀ (ts : List Nat) (rs : List Nat) (vs : List TV), outsOf s ts = some (rs, vs) →
    ∃ F, Rets S0 w vs (ts.map fun t => a.tmps.getD t undef) F ∧ ∀ n, F n → ∃ r rt, r ∈ rs ∧ s.root r = some rt ∧ (pl r).F n
  | [], rs, vs, h => by
    simp only [outsOf, Option.some.injEq, Prod.mk.injEq] at h
    obtain ⟨rfl, rfl⟩ := h
    exact ⟨noF, .nil, fun _ h => h.elim⟩
  | t :: ts, rs, vs, h => by
    simp only [outsOf] at h
    split at h
    · rename_i v rs' vs' h1 h2
      simp only [Option.some.injEq, Prod.mk.injEq] at h
      obtain ⟨rfl, rfl⟩ := h
      obtain ⟨F, hR, hF⟩ := outsOf_ok R ts _ _ h2
      refine ⟨_, .cons (F := noF) ?_ hR (fun _ h => h.elim), fun n hn => hn.elim (fun h => h.elim) (hF n)⟩
      unfold outOf at h1
      split at h1
      · rename_i ty x hg
        split at h1
        · rename_i hfl
          simp only [Option.some.injEq, Prod.mk.injEq, true_and] at h1
          subst h1
          obtain ⟨cs, e1, e2⟩ := (R.env t _ hg).1
          exact Ret1.flat hfl (fun _ h => h) ⟨cs, e1, e2.flat hfl⟩
        · cases h1
      · split at h1
        · split at h1
          · simp at h1
          · cases h1
        · cases h1
      · split at h1
        · split at h1
          · split at h1
            · simp at h1
            · cases h1
          · cases h1
        · cases h1
      · cases h1
    · rename_i r v rs' vs' h1 h2
      split at h
      · cases h
      · rename_i hnc
        simp only [Option.some.injEq, Prod.mk.injEq] at h
        obtain ⟨rfl, rfl⟩ := h
        obtain ⟨F, hR, hF⟩ := outsOf_ok R ts _ _ h2
        unfold outOf at h1
        split at h1
        · split at h1
          · simp at h1
          · cases h1
        · rename_i r' hg
          cases hr : s.root r' with
          | none => rw [hr] at h1; cases h1
          | some rt =>
            rw [hr] at h1
            simp only at h1
            split at h1
            · rename_i hc
              simp only [Option.some.injEq, Prod.mk.injEq] at h1
              obtain ⟨rfl, rfl⟩ := h1
              obtain ⟨hv, H⟩ := R.own r' rt hr
              rw [hc.1] at H
              have hvv : a.tmps.getD t undef = hv := by
                have h1 : a.tmps.getD t undef = hdr (atCT [] rt.ty (pl r').ct) (rt.at []).len := (R.env t _ hg).1 rt hr
                rw [h1]; exact (H.hdr (by simp)).1.symm
              have hO : Own w noS rt.ty (rt.t.lev + 1) rt.x none (pl r').ct [hv] (pl r').F := by
                rcases hc.2.2 with hk | hx
                · exact own_full (t := .list rt.e rt.t) hc.2.1 (by simp only [Ty.lev]; omega) (by simp only [Ty.lev]; omega) H
                · obtain ⟨e, t, k, x, hh⟩ := rt
                  simp only at hx
                  subst hx
                  have H1 := own_relabel t.lev H
                  exact own_full (t := .list e t) hc.2.1 (by simp only [Ty.lev]; omega) (by simp only [Ty.lev]; omega) H1
              refine ⟨_, .cons (F := (pl r').F) ⟨fun n hn => ⟨?_, (R.Flt r' rt n hr hn).1⟩, (pl r').ct, ?_⟩ hR (fun n hn hn' => ?_), fun n hn => ?_⟩
              · exact fun hlt => (R.Flt r' rt n hr hn).2 (R.base n hlt)
              · show Own w noS rt.ty (rt.t.lev + 1) rt.x none (pl r').ct [a.tmps.getD t undef] (pl r').F
                rw [hvv]; exact hO
              · obtain ⟨r2, rt2, q1, q2, q3⟩ := hF n hn'
                have := R.disj r' r2 rt rt2 n hr q2 hn q3
                subst this
                exact hnc (by simpa using q1)
              · rcases hn with hn | hn
                · exact ⟨r', rt, by simp, hr, hn⟩
                · obtain ⟨r2, rt2, q1, q2, q3⟩ := hF n hn
                  exact ⟨r2, rt2, by simp [q1], q2, q3⟩
            · cases h1
        · rename_i r' i p hg
          cases hr : s.root r' with
          | none => rw [hr] at h1; cases h1
          | some rt =>
            rw [hr] at h1
            simp only at h1
            cases hel : elAt rt (i :: p) with
            | none => rw [hel] at h1; cases h1
            | some el =>
            rw [hel] at h1
            simp only at h1
            split at h1
            · rename_i hc
              simp only [Option.some.injEq, Prod.mk.injEq] at h1
              obtain ⟨rfl, rfl⟩ := h1
              obtain ⟨k, v, F', e1, e2, e3, e4⟩ := R.nodeL hr hc.1 hel hc.2.2.1
              have hvv : a.tmps.getD t undef = v := by
                have h1 : a.tmps.getD t undef = hdr (atCT (i :: p) rt.ty (pl r').ct) (rt.at (i :: p)).len := (R.env t _ hg).1 rt hr
                rw [h1, e3]
              have hO : Own w noS (.list el.e el.t) (el.t.lev + 1) el.l none (atCT (i :: p) rt.ty (pl r').ct) [v] F' :=
                own_full (t := .list el.e el.t) hc.2.1 (by simp only [Ty.lev]; have := hc.2.2.2; omega) (by simp only [Ty.lev]; omega) e2
              refine ⟨_, .cons (F := F') ⟨fun n hn => ⟨?_, (R.Flt r' rt n hr (e4 n hn)).1⟩, atCT (i :: p) rt.ty (pl r').ct, ?_⟩ hR (fun n hn hn' => ?_), fun n hn => ?_⟩
              · exact fun hlt => (R.Flt r' rt n hr (e4 n hn)).2 (R.base n hlt)
              · show Own w noS (.list el.e el.t) (el.t.lev + 1) el.l none _ [a.tmps.getD t undef] F'
                rw [hvv]; exact hO
              · obtain ⟨r2, rt2, q1, q2, q3⟩ := hF n hn'
                have := R.disj r' r2 rt rt2 n hr q2 (e4 n hn) q3
                subst this
                exact hnc (by simpa using q1)
              · rcases hn with hn | hn
                · exact ⟨r', rt, by simp, hr, e4 n hn⟩
                · obtain ⟨r2, rt2, q1, q2, q3⟩ := hF n hn
                  exact ⟨r2, rt2, by simp [q1], q2, q3⟩
            · cases h1
        · cases h1
    · cases h

theorem run_results {fn : Func} {ts : List Nat} (h : fn.results.toList = ts.map ResultVar.tmp) (tmps : Array Value) : (results fn tmps).run P w = .ok (valOf (ts.map fun t => tmps.getD t undef)) w := by
  have hm : ∀ ts : List Nat, (List.mapM (fun r : ResultVar => (match r with | .tmp t => pure (tmps.getD t undef) | .cell a t => do loadVar t (← asAddr (tmps.getD a undef)) : Sem Value)) (ts.map ResultVar.tmp)).run P w = .ok (ts.map fun t => tmps.getD t undef) w := by
    intro ts
    induction ts with
    | nil => simp
    | cons t ts ih =>
      rw [List.map_cons, List.mapM_cons, Sem.run_bind]
      simp only [Sem.run_pure, Result.andThen_ok, Sem.run_bind, ih, List.map_cons]
  have hr : fn.results = (ts.map ResultVar.tmp).toArray := by rw [← h, Array.toArray_toList]
  unfold results
  rw [hr]
  rw [List.mapM_toArray, Sem.run_bind, Sem.run_map]
  erw [hm ts]
  match ts with
  | [] => rfl
  | [t] => rfl
  | t :: t' :: ts => simp [valOf]

theorem env0_get : ∀ {l : List TV} {n i : Nat} {av : AV}, lk (env0 n l) i = some av → ∃ v, l[i - n]? = some v ∧ n ≤ i ∧ av = .dat v.t v.x
  | [], _, _, _, h => by cases h
  | v :: l, n, i, av, h => by
    simp only [env0, lk] at h
    by_cases e : n = i
    · subst e
      simp only [if_true, Option.some.injEq] at h
      subst h
      exact ⟨v, by simp, Nat.le_refl _, rfl⟩
    · rw [if_neg e] at h
      obtain ⟨v', h1, h2, h3⟩ := env0_get h
      exact ⟨v', by rw [show i - n = (i - (n + 1)) + 1 by omega]; simpa using h1, by omega, h3⟩

theorem args_get {ts : List Ty} {vs : List TV} {us : List Value} (h : Args w S ts vs us) : us.length = vs.length ∧ vs.map (·.t) = ts ∧ ∀ (i : Nat) (v : TV), vs[i]? = some v → ∃ u cs, us[i]? = some u ∧ u = pack v.t cs ∧ RO w S v.t v.x cs := by
  induction h with
  | nil => exact ⟨rfl, rfl, by simp⟩
  | cons h _ ih =>
    refine ⟨by simp [ih.1], by simp [ih.2.1], fun i v hv => ?_⟩
    cases i with
    | zero =>
      simp only [List.getElem?_cons_zero, Option.some.injEq] at hv
      subst hv
      exact ⟨_, _, by simp, rfl, h⟩
    | succ i =>
      simp only [List.getElem?_cons_succ] at hv ⊢
      exact ih.2.2 i v hv

theorem fn_run (f : Nat) (fn : Func) (c : Code) (slots : List Nat) (sp : Spec) (hf : P.funcs[f]? = some fn) (hb : fn.body = some c) (hn : (fn.name == "runtime.NumGoroutine") = false) (hres : fn.results.toList = slots.map ResultVar.tmp)
    (hnt : fn.ntmps = C.n) (hps : sp.ps.length ≤ fn.ntmps)
    {args : List TV} {K : List TV → Prop} {vs : List Value} (hA : Args w (oldS w) sp.ps args vs) (h : args.map (·.t) = sp.ps → XW P C w (oldS w) c (retK slots K) (XS.init args)) :
    Calls P f vs.toArray w fun e w' => match e with
      | .returned v => Grew w w' ∧ ∃ outs us F, K outs ∧ v = valOf us ∧ Rets (oldS w) w' outs us F
      | _ => False := by
  obtain ⟨l1, hts, hget⟩ := args_get hA
  have l2 : sp.ps.length = args.length := by rw [← hts]; simp
  refine calls_of_wp hf hb (Go.wp_mono (h hts _ w ⟨oldS w, fun _ => ⟨.leaf, noF⟩, ?_⟩) fun e a' w' hh => ?_)
  · refine { defers := rfl, size := ?_, os := rfl, tape := rfl, output := SameOut.refl w, grow := Nat.le_refl _, stay := fun _ _ => rfl, base := fun _ h => h, lt := fun _ h => h, own := (fun _ _ h => by cases h), Flt := (fun _ _ _ h => by cases h), disj := (fun _ _ _ _ _ h => by cases h), ids := (fun _ _ h => by cases h), env := fun i av hi => ?_, pins := (fun h => by cases h), news := (fun i b f hi => by obtain ⟨_, _, _, h⟩ := env0_get hi; cases h) }
    · simp [l1, ← hnt]; omega
    · obtain ⟨v, h1, _, rfl⟩ := env0_get hi
      simp only [Nat.sub_zero] at h1
      obtain ⟨u, cs, h2, h3, h4⟩ := hget i v h1
      refine ⟨⟨cs, ?_, h4⟩, AV.lt_dat⟩
      have hlt : i < vs.length := (List.getElem?_eq_some_iff.1 h2).1
      rw [← h3]
      simp only [Array.getD_eq_getD_getElem?]
      rw [Array.getElem?_append_left (by simpa using hlt)]
      simp [h2]
  · obtain ⟨s', h1, S, pl, R⟩ := hh
    have g : Grew w w' := ⟨R.os, R.tape, R.output.ofOld, R.grow, R.stay⟩
    have fin : (match outsOf s' slots with | some (_, vs) => K vs | none => False) → a'.defers = [] ∧ ∃ v, (results fn a'.tmps).run P w' = .ok v w' ∧ Grew w w' ∧ ∃ outs us F, K outs ∧ v = valOf us ∧ Rets (oldS w) w' outs us F := by
      intro h1
      cases ho : outsOf s' slots with
      | none => rw [ho] at h1; exact h1.elim
      | some p =>
        obtain ⟨rs, vs'⟩ := p
        rw [ho] at h1
        obtain ⟨F, hR, _⟩ := outsOf_ok R slots rs vs' ho
        exact ⟨R.defers, _, run_results hres a'.tmps, g, vs', _, F, h1, rfl, hR⟩
    cases e with
    | normal => exact fin h1
    | ret => exact fin h1
    | exit => exact h1.elim
    | goto => exact h1.elim
    | panic => exact h1.elim
    | outgrown => exact h1.elim

theorem FnOK_of (f : Nat) (fn : Func) (c : Code) (slots : List Nat) (sp : Spec) (hf : P.funcs[f]? = some fn) (hb : fn.body = some c) (hn : (fn.name == "runtime.NumGoroutine") = false) (hres : fn.results.toList = slots.map ResultVar.tmp)
    (hnt : fn.ntmps = C.n) (hps : sp.ps.length ≤ fn.ntmps)
    (h : ∀ (args : List TV) (K : List TV → Prop), args.map (·.t) = sp.ps → sp.wp args K → ∀ w0 : World, XW P C w0 (oldS w0) c (retK slots K) (XS.init args)) : FnOK P f sp :=
  ⟨⟨fn, hf, hn, by rw [hb]; rfl⟩, fun args K hK w vs hA => fn_run f fn c slots sp hf hb hn hres hnt hps hA fun hts => h args K hts hK w⟩

theorem GlobAt.old {P : Program} {w0 w : World} {S0 : Nat → Prop} {g T : Nat} {l : List Int} (h : GlobAt P w0 S0 g T l) (hs : ∀ b, S0 b → w.heap[b]? = w0.heap[b]?) : GlobAt P w (oldS w) g T l := by
  obtain ⟨h1, ⟨arr, E, fr, h2, h3⟩, h4⟩ := h
  have e := (hs g h1).trans h2
  exact ⟨(Array.getElem?_eq_some_iff.1 e).1, ⟨arr, E, fr, e, h3⟩, h4⟩

def XS.initMv (e : Nat) (t : Ty) (x : List t.den) (args : List TV) : XS := ⟨(0, .ref 0 []) :: env0 1 args, [(0, ⟨e, t, t.lev, x, none⟩)], 1, []⟩

end
end Fer

namespace Fer
open Go

open Classical in
noncomputable def outV (tt : List (Nat × TE)) (s : XS) : ResultVar → Option (Option Nat × TV)
  | .tmp t => outOf s t
  | .cell a T => match (lk tt T).bind TE.ty, s.get a with
    | some t, some (.ptr r [0]) => match s.root r with
      | some rt => match rt.x with
        | [v] => if rt.t = t ∧ t.flat = true ∧ rt.h = none then some (none, ⟨rt.t, v⟩) else match elAt rt [0] with
          | some el => if t = .list el.e el.t ∧ rt.h = none ∧ el.t.noRo = true ∧ okNode rt [0] ∧ el.t.lev + 1 ≤ dep [0] rt.ty (rt.k + 1) then some (some r, ⟨.list el.e el.t, el.l⟩) else none
          | none => if rt.t = t ∧ rt.h = none ∧ rt.t.isLL = true ∧ rt.t.noRo = true ∧ rt.t.lev ≤ rt.k then some (some r, ⟨rt.t, v⟩) else none
        | _ => none
      | none => none
    | _, _ => none
noncomputable def outsV (tt : List (Nat × TE)) (s : XS) : List ResultVar → Option (List Nat × List TV)
  | [] => some ([], [])
  | t :: l => match outV tt s t, outsV tt s l with
    | some (none, v), some (rs, vs) => some (rs, v :: vs)
    | some (some r, v), some (rs, vs) => if rs.contains r = true then none else some (r :: rs, v :: vs)
    | _, _ => none
noncomputable def retC (tt : List (Nat × TE)) (slots : List ResultVar) (K : List TV → Prop) : Exit → XS → Prop
  | .ret, s | .normal, s => match outsV tt s slots with
    | some (_, vs) => K vs
    | none => False
  | _, _ => False

section
variable {P : Program} {C : Ctx} {tt : List (Nat × TE)} {w0 : World} {S0 : Nat → Prop} {N : Nat} {s : XS} {a : Act} {w w' : World} {S : Nat → Prop} {pl : Nat → PL}

def rvS (tmps : Array Value) (rv : ResultVar) : Sem Value := match rv with | .tmp t => pure (tmps.getD t undef) | .cell a t => do loadVar t (← asAddr (tmps.getD a undef))
def rvOf (a : Act) (P : Program) (w : World) (rv : ResultVar) (u : Value) : Prop := (rvS a.tmps rv).run P w = .ok u w

theorem loadAt_loadVar {T : Nat} {v : Value} {u : Value} (h : (Instr.loadAt T v).run P w = .ok u w) : (do loadVar T (← asAddr v) : Sem Value).run P w = .ok u w := by
  cases v with
  | pointer p =>
    cases p with
    | none => simp [Instr.loadAt, Instr.sureAddr] at h
    | some p =>
      simp only [Instr.loadAt, Instr.sureAddr, Sem.run_bind, Sem.run_pure, Result.andThen_ok] at h
      simp only [asAddr, Sem.run_bind, Sem.run_pure, Result.andThen_ok]
      exact h
  | _ => simp [Instr.loadAt, Instr.sureAddr] at h

theorem outV_ok (htt : ttB P tt = true) (R : RelAt w0 S0 N false noPins s a w S pl) {rv : ResultVar} {o : Option Nat} {v : TV} (h : outV tt s rv = some (o, v)) :
    ∃ u F, rvOf a P w rv u ∧ Ret1 S0 w v u F ∧ ∀ n, F n → ∃ r rt, o = some r ∧ s.root r = some rt ∧ (pl r).F n := by
  cases rv with
  | tmp t =>
    have h' : outsOf s [t] = some (o.toList, [v]) := by
      have h0 : outOf s t = some (o, v) := h
      simp only [outsOf, h0]
      cases o <;> simp
    obtain ⟨F, hR, hF⟩ := outsOf_ok R [t] _ _ h'
    cases hR with
    | cons h1 hl hd => exact ⟨_, _, by simp [rvOf, rvS], h1, fun n hn => by obtain ⟨r, rt, h1, h2, h3⟩ := hF n (.inl hn); exact ⟨r, rt, by simpa using h1, h2, h3⟩⟩
  | cell p T =>
    simp only [outV] at h
    split at h
    · rename_i t r hte hg
      split at h
      · rename_i rt hr
        split at h
        · rename_i x hx
          split at h
          · rename_i hc
            obtain ⟨hc1, hc2, hc3⟩ := hc
            simp only [Option.some.injEq, Prod.mk.injEq] at h
            obtain ⟨rfl, rfl⟩ := h
            have hat : rt.at [0] = ⟨rt.t, x⟩ := by simp [RT.at, RT.ty, getS, hx]
            obtain ⟨h1, h2⟩ := R.env p _ hg
            have hld : ldAV tt s T (.ptr r [0]) = some (PF.of (okS [0] rt.ty rt.x (rt.k + 1)) (.dat (rt.at [0]).t (rt.at [0]).x)) := by
              unfold ldAV
              rw [hte]
              simp only [hr, ldPtr]
              rw [if_pos ⟨by rw [hat]; exact hc1, by rw [hc3]; rfl⟩, if_pos (hc1 ▸ hc2), if_pos hc3]
            obtain ⟨u, b, e1, e2, e3, e4, e5⟩ := ldAV_ok htt R (T := T) h1 h2 hld (by simp [PF.of, RT.ty, okS, hx])
            have hu := loadAt_loadVar (e1 w rfl)
            obtain ⟨cs, q1, q2⟩ := e2
            have hfl : rt.t.flat = true := hc1 ▸ hc2
            have q3 : u = pack rt.t cs ∧ RO w S rt.t x cs := by
              rw [hat] at q1 q2
              exact ⟨q1, q2⟩
            exact ⟨u, noF, hu, Ret1.flat hfl (fun _ h => h) ⟨cs, q3.1, q3.2.flat hfl⟩, fun _ h => h.elim⟩
          · cases hel : elAt rt [0] with
            | none =>
              rw [hel] at h
              simp only at h
              split at h
              · rename_i hc
                obtain ⟨hc1, hc2, hc3, hc4, hc5⟩ := hc
                simp only [Option.some.injEq, Prod.mk.injEq] at h
                obtain ⟨rfl, rfl⟩ := h
                obtain ⟨h1, h2⟩ := R.env p _ hg
                obtain ⟨e, ty, k, xs, hh⟩ := rt
                change ty.den at x
                simp only at hx hc1 hc2 hc3 hc4 hc5 hel
                subst hx hc2
                obtain ⟨ea, ta, eb, tb, rfl⟩ := Ty.isLL_iff hc3
                simp only [Ty.lev] at hc5
                obtain ⟨k, rfl⟩ : ∃ k', k = k' + 1 := ⟨k - 1, by omega⟩
                have hld : ldAV tt s T (.ptr r [0]) = some (PF.of (okS [0] (.list e (.prod (.list ea ta) (.list eb tb))) [x] (k + 1 + 1)) (.agg [.ref r [0, 0], .ref r [0, 1]])) := by
                  unfold ldAV
                  rw [hte]
                  simp only [hr, ldPtr]
                  rw [if_pos ⟨hc1, rfl⟩, ← hc1]
                  simp [Ty.flat, dep]
                obtain ⟨u, b, f1, f2, _, _, _⟩ := ldAV_ok htt R (T := T) h1 h2 hld (by simp [PF.of, okS])
                have hu := loadAt_loadVar (f1 w rfl)
                obtain ⟨vs, rfl, hvs⟩ := f2
                cases hvs with
                | @cons _ u1 _ vs1 b1 hvs =>
                cases hvs with
                | @cons _ u2 _ vs2 b2 hvs =>
                cases hvs
                have b1 := b1 _ hr
                have b2 := b2 _ hr
                obtain ⟨hv, H⟩ := R.own r _ hr
                rcases own_inv H with ⟨_, hl0, _, _⟩ | ⟨b', cap, kids, arr, Fs, hct, hv1, q2, q3, h4, h5, g1, g2, g3, g4⟩
                · cases hl0
                have h0 : Own w S (.prod (.list ea ta) (.list eb tb)) (k + 1) x none (kids 0) (cellsAt arr (0 * (Ty.prod (.list ea ta) (.list eb tb)).width) (Ty.prod (.list ea ta) (.list eb tb)).width) (Fs 0) := g4 0 (by simp)
                rw [hct] at b1 b2
                rcases h0 with h0 | ⟨_, h0⟩
                · simp at h0
                obtain ⟨c0, hki⟩ : ∃ c0, kids 0 = c0 := ⟨_, rfl⟩
                rw [hki] at h0
                cases c0 with
                | nil => exact h0.elim
                | node => exact h0.elim
                | leaf => exact h0.elim
                | pair cl cr =>
                obtain ⟨w1, w2, F1, F2, hcs, p1, p2, p3, p4⟩ := h0
                rw [hsub_none] at p3 p4
                obtain ⟨v1, rfl, _⟩ := pack_one (t := .list ea ta) rfl p3.length
                obtain ⟨v2, rfl, _⟩ := pack_one (t := .list eb tb) rfl p4.length
                have e1 : u1 = v1 := by rw [(p3.hdr (by simp)).1]; rw [b1]; simp only [atCT, hki]; rfl
                have e2 : u2 = v2 := by rw [(p4.hdr (by simp)).1]; rw [b2]; simp only [atCT, hki]; rfl
                subst e1 e2
                have c1 : u1.cells.toList = [u1] := by rw [(p3.hdr (by simp)).1]; unfold hdr; split <;> rfl
                have c2 : u2.cells.toList = [u2] := by rw [(p4.hdr (by simp)).1]; unfold hdr; split <;> rfl
                have hin : ∀ n, Fs 0 n → (pl r).F n := fun n hn => (g1 n).2 (.inr ⟨0, by simp, hn⟩)
                simp only [Ty.noRo, Bool.and_eq_true] at hc4
                refine ⟨_, Fs 0, hu, ⟨fun n hn => ⟨fun hlt => (R.Flt r _ n hr (hin n hn)).2 (R.base n hlt), (R.Flt r _ n hr (hin n hn)).1⟩, u1, u2, cl, cr, F1, F2, ?_, ?_, ?_, p2, p1⟩, fun n hn => ⟨r, _, rfl, hr, hin n hn⟩⟩
                · simp only [List.flatMap_cons, List.flatMap_nil, c1, c2, List.append_nil, List.cons_append, List.nil_append]
                · exact own_full (t := .list ea ta) hc4.1 (by simp only [Ty.lev]; omega) (by simp only [Ty.lev]; omega) p3
                · exact own_full (t := .list eb tb) hc4.2 (by simp only [Ty.lev]; omega) (by simp only [Ty.lev]; omega) p4
              · cases h
            | some el =>
            rw [hel] at h
            simp only at h
            split at h
            · rename_i hc
              obtain ⟨hc1, hc2, hc3, hc4, hc5⟩ := hc
              simp only [Option.some.injEq, Prod.mk.injEq] at h
              obtain ⟨rfl, rfl⟩ := h
              subst hc1
              obtain ⟨h1, h2⟩ := R.env p _ hg
              have hat := elAt_eq hel
              obtain ⟨k, v, F', e1, e2, e3, e4⟩ := R.nodeL hr hc2 hel hc4
              have hld : ldAV tt s T (.ptr r [0]) = some (PF.of (okS [0] rt.ty rt.x (rt.k + 1)) (.ref r [0])) := by
                unfold ldAV
                rw [hte]
                simp only [hr, ldPtr]
                rw [if_pos ⟨by rw [hat], by rw [hc2]; rfl⟩, if_neg (by simp [Ty.flat]), if_neg (by rw [e1]; omega)]
              obtain ⟨u, b, f1, f2, _, _, _⟩ := ldAV_ok htt R (T := T) h1 h2 hld hc4.1
              have hu := loadAt_loadVar (f1 w rfl)
              have hv : u = v := by
                have : u = hdr (atCT [0] rt.ty (pl r).ct) (rt.at [0]).len := f2 rt hr
                rw [this, e3]
              subst hv
              refine ⟨u, F', hu, ⟨fun n hn => ⟨fun hlt => (R.Flt r rt n hr (e4 n hn)).2 (R.base n hlt), (R.Flt r rt n hr (e4 n hn)).1⟩, atCT [0] rt.ty (pl r).ct, ?_⟩, fun n hn => ⟨r, rt, rfl, hr, e4 n hn⟩⟩
              exact own_full (t := .list el.e el.t) hc3 (by simp only [Ty.lev]; omega) (by simp only [Ty.lev]; omega) e2
            · cases h
        · cases h
      · cases h
    · cases h

theorem outsV_ok (htt : ttB P tt = true) (R : RelAt w0 S0 N false noPins s a w S pl) : ∀ (ts : List ResultVar) (rs : List Nat) (vs : List TV), outsV tt s ts = some (rs, vs) →
    ∃ us F, (List.mapM (rvS a.tmps) ts).run P w = .ok us w ∧ Rets S0 w vs us F ∧ ∀ n, F n → ∃ r rt, r ∈ rs ∧ s.root r = some rt ∧ (pl r).F n
  | [], rs, vs, h => by
    simp only [outsV, Option.some.injEq, Prod.mk.injEq] at h
    obtain ⟨rfl, rfl⟩ := h
    exact ⟨[], noF, by simp, .nil, fun _ h => h.elim⟩
  | t :: ts, rs, vs, h => by
    have run : ∀ {u : Value} {us : List Value}, rvOf a P w t u → (List.mapM (rvS a.tmps) ts).run P w = .ok us w → (List.mapM (rvS a.tmps) (t :: ts)).run P w = .ok (u :: us) w := fun h1 h2 => by
      rw [List.mapM_cons, Sem.run_bind, show (rvS a.tmps t).run P w = _ from h1]
      simp only [Result.andThen_ok, Sem.run_bind, h2, Sem.run_pure]
    simp only [outsV] at h
    split at h
    · rename_i v rs' vs' h1 h2
      simp only [Option.some.injEq, Prod.mk.injEq] at h
      obtain ⟨rfl, rfl⟩ := h
      obtain ⟨us, F, m, hR, hF⟩ := outsV_ok htt R ts _ _ h2
      obtain ⟨u, G, g1, g2, g3⟩ := outV_ok htt R h1
      have gn : ∀ n, ¬ G n := fun n hn => by obtain ⟨_, _, e, _⟩ := g3 n hn; cases e
      exact ⟨u :: us, _, run g1 m, .cons g2 hR (fun n hn => absurd hn (gn n)), fun n hn => hn.elim (fun h => absurd h (gn n)) (hF n)⟩
    · rename_i r v rs' vs' h1 h2
      split at h
      · cases h
      · rename_i hnc
        simp only [Option.some.injEq, Prod.mk.injEq] at h
        obtain ⟨rfl, rfl⟩ := h
        obtain ⟨us, F, m, hR, hF⟩ := outsV_ok htt R ts _ _ h2
        obtain ⟨u, G, g1, g2, g3⟩ := outV_ok htt R h1
        refine ⟨u :: us, _, run g1 m, .cons g2 hR (fun n hn hn' => ?_), fun n hn => ?_⟩
        · obtain ⟨r1, rt1, p1, p2, p3⟩ := g3 n hn
          obtain ⟨r2, rt2, q1, q2, q3⟩ := hF n hn'
          have := R.disj r1 r2 rt1 rt2 n p2 q2 p3 q3
          subst this
          cases p1
          exact hnc (by simpa using q1)
        · rcases hn with hn | hn
          · obtain ⟨r1, rt1, p1, p2, p3⟩ := g3 n hn
            cases p1
            exact ⟨r, rt1, by simp, p2, p3⟩
          · obtain ⟨r2, rt2, q1, q2, q3⟩ := hF n hn
            exact ⟨r2, rt2, by simp [q1], q2, q3⟩
    · cases h

theorem run_resultsV {fn : Func} {us : List Value} {tmps : Array Value} (h : (List.mapM (rvS tmps) fn.results.toList).run P w = .ok us w) : (results fn tmps).run P w = .ok (valOf us) w := by
  unfold results
  rw [← Array.toArray_toList (xs := fn.results), List.mapM_toArray, Sem.run_bind, Sem.run_map]
  erw [h]
  match us with
  | [] => rfl
  | [t] => rfl
  | t :: t' :: ts => simp [valOf]

theorem FnOK_ofC (f : Nat) (fn : Func) (c : Code) (slots : List ResultVar) (sp : Spec) (htt : ttB P C.tt = true) (hf : P.funcs[f]? = some fn) (hb : fn.body = some c) (hn : (fn.name == "runtime.NumGoroutine") = false) (hres : fn.results.toList = slots)
    (hnt : fn.ntmps = C.n) (hps : sp.ps.length ≤ fn.ntmps)
    (h : ∀ (args : List TV) (K : List TV → Prop), args.map (·.t) = sp.ps → sp.wp args K → ∀ w0 : World, XW P C w0 (oldS w0) c (retC C.tt slots K) (XS.init args)) : FnOK P f sp := by
  refine ⟨⟨fn, hf, hn, by rw [hb]; rfl⟩, fun args K hK w vs hA => ?_⟩
  obtain ⟨l1, hts, hget⟩ := args_get hA
  have l2 : sp.ps.length = args.length := by rw [← hts]; simp
  refine calls_of_wp hf hb (Go.wp_mono (h args K hts hK w _ w ⟨oldS w, fun _ => ⟨.leaf, noF⟩, ?_⟩) fun e a' w' hh => ?_)
  · refine { defers := rfl, size := ?_, os := rfl, tape := rfl, output := SameOut.refl w, grow := Nat.le_refl _, stay := fun _ _ => rfl, base := fun _ h => h, lt := fun _ h => h, own := (fun _ _ h => by cases h), Flt := (fun _ _ _ h => by cases h), disj := (fun _ _ _ _ _ h => by cases h), ids := (fun _ _ h => by cases h), env := fun i av hi => ?_, pins := (fun h => by cases h), news := (fun i b f hi => by obtain ⟨_, _, _, h⟩ := env0_get hi; cases h) }
    · simp [l1, ← hnt]; omega
    · obtain ⟨v, h1, _, rfl⟩ := env0_get hi
      simp only [Nat.sub_zero] at h1
      obtain ⟨u, cs, h2, h3, h4⟩ := hget i v h1
      refine ⟨⟨cs, ?_, h4⟩, AV.lt_dat⟩
      have hlt : i < vs.length := (List.getElem?_eq_some_iff.1 h2).1
      rw [← h3]
      simp only [Array.getD_eq_getD_getElem?]
      rw [Array.getElem?_append_left (by simpa using hlt)]
      simp [h2]
  · obtain ⟨s', h1, S, pl, R⟩ := hh
    have g : Grew w w' := ⟨R.os, R.tape, R.output.ofOld, R.grow, R.stay⟩
    have fin : (match outsV C.tt s' slots with | some (_, vs) => K vs | none => False) → a'.defers = [] ∧ ∃ v, (results fn a'.tmps).run P w' = .ok v w' ∧ Grew w w' ∧ ∃ outs us F, K outs ∧ v = valOf us ∧ Rets (oldS w) w' outs us F := by
      intro h1
      cases ho : outsV C.tt s' slots with
      | none => rw [ho] at h1; exact h1.elim
      | some p =>
        obtain ⟨rs, vs'⟩ := p
        rw [ho] at h1
        obtain ⟨us, F, hm, hR, _⟩ := outsV_ok htt R slots rs vs' ho
        exact ⟨R.defers, _, run_resultsV (hres ▸ hm), g, vs', _, F, h1, rfl, hR⟩
    cases e with
    | normal => exact fin h1
    | ret => exact fin h1
    | exit => exact h1.elim
    | goto => exact h1.elim
    | panic => exact h1.elim
    | outgrown => exact h1.elim

end
end Fer

namespace Fer
open Go
section
variable {P : Program} {C : Ctx} {w0 : World} {S0 : Nat → Prop} {s : XS} {Q : Exit → XS → Prop} {x y : Code}
theorem XW.mid (st : XS) (h1 : XW P C w0 S0 x (XW.thn (fun s' => ∃ ren, Fits ren s' st) Q) s) (h2 : XW P C w0 S0 y Q st) : XW P C w0 S0 (.seq x y) Q s := fun a w R =>
  wp_seq (Go.wp_mono (h1 a w R) fun e a' w' hh => by
    obtain ⟨s', q1, q2⟩ := hh
    cases e with
    | normal => obtain ⟨ren, hf⟩ := q1; exact h2 a' w' (Rel.fits q2 hf)
    | _ => exact ⟨s', q1, q2⟩)
end
end Fer

namespace Fer
open Go

def envC : Nat → List TV → List (Nat × AV)
  | _, [] => []
  | n, v :: l => (n, .rptr v.t v.x) :: envC (n + 1) l
def XS.initC (args caps : List TV) : XS := ⟨env0 0 args ++ envC args.length caps, [], 0, []⟩

theorem lk_app {α : Type} {i : Nat} {x : α} : ∀ {l m : List (Nat × α)}, lk (l ++ m) i = some x → lk l i = some x ∨ lk m i = some x
  | [], _, h => .inr h
  | (j, y) :: l, m, h => by
    simp only [List.cons_append, lk] at h ⊢
    split at h
    · rename_i e; rw [if_pos e]; exact .inl h
    · rename_i e; rw [if_neg e]; exact lk_app h
theorem envC_get {i : Nat} {av : AV} : ∀ {n : Nat} {l : List TV}, lk (envC n l) i = some av → ∃ v, l[i - n]? = some v ∧ n ≤ i ∧ av = .rptr v.t v.x
  | _, [], h => by cases h
  | n, v :: l, h => by
    simp only [envC, lk] at h
    split at h
    · rename_i e
      subst e
      cases h
      exact ⟨v, by simp, Nat.le_refl _, rfl⟩
    · obtain ⟨u, h1, h2, h3⟩ := envC_get h
      exact ⟨u, by rw [show i - n = (i - (n + 1)) + 1 by omega]; simpa using h1, by omega, h3⟩

section
variable {P : Program} {C : Ctx} {w : World} {S : Nat → Prop}
theorem caps_get : ∀ {ts : List Ty} {caps : List TV} {us : List Value}, CapsAt w S ts caps us → us.length = caps.length ∧ caps.map (·.t) = ts ∧ ∀ (i : Nat) (v : TV), caps[i]? = some v → ∃ u : Value, us[i]? = some u ∧
    ∃ (b o : Nat) (arr : Array Value) (E : Nat) (fr : Nat × Nat), u = .pointer (some ⟨b, o, none⟩) ∧ S b ∧ w.heap[b]? = some (.cells arr E fr) ∧ o + v.t.width ≤ arr.size ∧ RO w S v.t v.x (cellsAt arr o v.t.width)
  | _, _, _, .nil => ⟨rfl, rfl, fun i v h => by simp at h⟩
  | _, _, _, .cons (b := b) (o := o) (arr := arr) (E := E) (fr := fr) h1 h2 h3 h4 hl => by
    obtain ⟨i1, i2, i3⟩ := caps_get hl
    refine ⟨by simp [i1], by simp [i2], fun i v h => ?_⟩
    cases i with
    | zero =>
      simp only [List.getElem?_cons_zero, Option.some.injEq] at h
      subst h
      exact ⟨_, rfl, b, o, arr, E, fr, rfl, h1, h2, h3, h4⟩
    | succ i =>
      simp only [List.getElem?_cons_succ] at h ⊢
      exact i3 i v h

theorem FnCl_of (f : Nat) (fn : Func) (c : Code) (slots : List Nat) (sp : Spec) (us : List Ty) (hf : P.funcs[f]? = some fn) (hb : fn.body = some c) (hn : (fn.name == "runtime.NumGoroutine") = false) (hres : fn.results.toList = slots.map ResultVar.tmp)
    (hnt : fn.ntmps = C.n) (hps : sp.ps.length + us.length ≤ fn.ntmps)
    (h : ∀ (args caps : List TV) (K : List TV → Prop), args.map (·.t) = sp.ps → caps.map (·.t) = us → sp.wp (args ++ caps) K → ∀ w0 : World, XW P C w0 (oldS w0) c (retK slots K) (XS.initC args caps)) : FnCl P f (sp, us) := by
  refine ⟨⟨fn, hf, hn, by rw [hb]; rfl⟩, fun args caps K hK w vs qs hA hCp => ?_⟩
  obtain ⟨l1, hts, hget⟩ := args_get hA
  obtain ⟨c1, cts, cget⟩ := caps_get hCp
  replace cts : caps.map (·.t) = us := cts
  replace hts : args.map (·.t) = sp.ps := hts
  have l2 : sp.ps.length = args.length := by rw [← hts]; simp
  have l3 : us.length = caps.length := by rw [← cts]; simp
  refine calls_of_wp hf hb (Go.wp_mono (h args caps K hts cts hK w _ w ⟨oldS w, fun _ => ⟨.leaf, noF⟩, ?_⟩) fun e a' w' hh => ?_)
  · refine { defers := rfl, size := ?_, os := rfl, tape := rfl, output := SameOut.refl w, grow := Nat.le_refl _, stay := fun _ _ => rfl, base := fun _ h => h, lt := fun _ h => h, own := (fun _ _ h => by cases h), Flt := (fun _ _ _ h => by cases h), disj := (fun _ _ _ _ _ h => by cases h), ids := (fun _ _ h => by cases h), env := fun i av hi => ?_, pins := (fun h => by cases h), news := (fun i b f hi => ?_) }
    · simp [l1, c1, ← hnt]; omega
    · rcases lk_app hi with hi | hi
      · obtain ⟨v, h1, _, rfl⟩ := env0_get hi
        simp only [Nat.sub_zero] at h1
        obtain ⟨u, cs, h2, h3, h4⟩ := hget i v h1
        refine ⟨⟨cs, ?_, h4⟩, AV.lt_dat⟩
        have hlt : i < vs.length := (List.getElem?_eq_some_iff.1 h2).1
        rw [← h3]
        simp only [Array.getD_eq_getD_getElem?]
        rw [Array.getElem?_append_left (by simp; omega)]
        simp [h2, List.getElem?_append_left hlt]
      · obtain ⟨v, h1, hle, rfl⟩ := envC_get hi
        obtain ⟨u, h2, b, o, arr, E, fr, e1, e2, e3, e4, e5⟩ := cget _ v h1
        refine ⟨⟨b, o, arr, E, fr, ?_, e2, e3, e4, e5⟩, AV.lt_rptr⟩
        rw [← e1]
        have hlt : i - args.length < qs.length := (List.getElem?_eq_some_iff.1 h2).1
        simp only [Array.getD_eq_getD_getElem?]
        rw [Array.getElem?_append_left (by simp; omega)]
        have hle' : vs.length ≤ i := by omega
        have el : i - vs.length = i - args.length := by omega
        simp [List.getElem?_append_right hle', el, h2]
    · rcases lk_app hi with hi | hi
      · obtain ⟨v, _, _, e⟩ := env0_get hi
        cases e
      · obtain ⟨v, _, _, e⟩ := envC_get hi
        cases e
  · obtain ⟨s', h1, S, pl, R⟩ := hh
    have g : Grew w w' := ⟨R.os, R.tape, R.output.ofOld, R.grow, R.stay⟩
    have fin : (match outsOf s' slots with | some (_, vs) => K vs | none => False) → a'.defers = [] ∧ ∃ v, (results fn a'.tmps).run P w' = .ok v w' ∧ Grew w w' ∧ ∃ outs us F, K outs ∧ v = valOf us ∧ Rets (oldS w) w' outs us F := by
      intro h1
      cases ho : outsOf s' slots with
      | none => rw [ho] at h1; exact h1.elim
      | some p =>
        obtain ⟨rs, vs'⟩ := p
        rw [ho] at h1
        obtain ⟨F, hR, _⟩ := outsOf_ok R slots rs vs' ho
        exact ⟨R.defers, _, run_results hres a'.tmps, g, vs', _, F, h1, rfl, hR⟩
    cases e with
    | normal => exact fin h1
    | ret => exact fin h1
    | exit => exact h1.elim
    | goto => exact h1.elim
    | panic => exact h1.elim
    | outgrown => exact h1.elim
end
end Fer

namespace Fer

theorem zz : (∀ n : Nat, (n : Int).toNat = n) ∧ (∀ b : Bool, (true == b) = b) ∧ (∀ b : Bool, (false == b) = !b) ∧ (∀ n : Nat, n ≤ n) ∧ (∀ n : Nat, 0 ≤ n) ∧
    (∀ p : Prop, (True ∧ p) = p) ∧ (∀ p : Prop, (p ∧ True) = p) ∧ decide True = true ∧ decide False = false ∧ (∀ p : Prop, (p → True) = True) ∧ ((false = true) = False) ∧ (∀ p : Prop, (False → p) = True) ∧
    (∀ p : Prop, (p ∧ p) = p) ∧ (∀ p : Prop, (p ∨ True) = True) ∧ (∀ p : Prop, (True ∨ p) = True) ∧ (∀ p : Prop, (False ∨ p) = p) ∧ (∀ p : Prop, (p ∨ False) = p) ∧ ((¬True) = False) ∧ ((¬False) = True) ∧
    (∀ p : Prop, (p ∧ False) = False) ∧ (∀ p : Prop, (False ∧ p) = False) ∧ (!true) = false ∧ (!false) = true ∧ (∀ b : Bool, (b || true) = true) ∧ (∀ b : Bool, (true || b) = true) ∧ (∀ b : Bool, (false || b) = b) ∧ (∀ b : Bool, (b || false) = b) ∧
    (∀ b : Bool, (b && true) = b) ∧ (∀ b : Bool, (true && b) = b) ∧ (∀ b : Bool, (b && b) = b) ∧ (∀ (p : Prop) [Decidable p], (decide p = true) = p) ∧ (∀ (p : Prop) [Decidable p], (decide p = false) = ¬p) ∧
    (∀ n : Nat, 0 + n = n) ∧ (∀ n : Nat, n < n + 1) ∧ (∀ n : Nat, n + 1 - 1 = n) ∧ (∀ n : Nat, n + 1 ≠ 0) ∧ (∀ n : Nat, n.succ ≠ n) ∧ (∀ n : Nat, max n n = n) := by
  refine ⟨Int.toNat_natCast, by decide, by decide, Nat.le_refl, Nat.zero_le, fun _ => true_and _, fun _ => and_true _, rfl, rfl, fun _ => implies_true _, Bool.false_eq_true, fun _ => false_implies _, fun _ => and_self _, fun _ => or_true _, fun _ => true_or _, fun _ => false_or _, fun _ => or_false _, not_true_eq_false, not_false_eq_true,
    fun _ => and_false _, fun _ => false_and _, rfl, rfl, by decide, by decide, by decide, by decide, by decide, by decide, by decide, fun _ _ => decide_eq_true_eq, fun _ _ => by simp, Nat.zero_add, Nat.lt_add_one, fun _ => rfl, Nat.add_one_ne_zero, Nat.succ_ne_self, Nat.max_self⟩
theorem zh : (∀ b : Bool, ((!b) = true) = (b = false)) ∧ (∀ b : Bool, ((!b) = false) = (b = true)) ∧ (∀ a b : Bool, ((a && b) = true) = (a = true ∧ b = true)) ∧ (∀ a b : Bool, ((a || b) = true) = (a = true ∨ b = true)) ∧ (∀ a b : Bool, ((a || b) = false) = (a = false ∧ b = false)) ∧
    (∀ a b : Int, (¬a < b) = (b ≤ a)) ∧ (∀ a b : Int, (¬a ≤ b) = (b < a)) ∧ (∀ b : Bool, (¬b = true) = (b = false)) ∧ (∀ m n : Nat, ((m : Int) < (n : Int)) = (m < n)) ∧ (∀ m n : Nat, ((m : Int) ≤ (n : Int)) = (m ≤ n)) := by
  refine ⟨?_, ?_, ?_, ?_, ?_, ?_, ?_, ?_, ?_, ?_⟩ <;> intros <;> simp
set_option linter.defProp false in
def zi := And.intro (And.intro @bne_iff_ne.{0} @beq_iff_eq.{0}) (And.intro (And.intro @ne_eq.{1} @Decidable.not_not) (And.intro @beq_eq_false_iff_ne.{0} @bne_eq_false_iff_eq.{0}))

end Fer

namespace Fer
open Go

def envS : Nat → Nat → List PA → List TV → List (Nat × AV)
  | i, j, .val _ :: ps, v :: vs => (i, .dat v.t v.x) :: envS (i + 1) j ps vs
  | i, j, .cap _ :: ps, v :: vs => (i, .rptr v.t v.x) :: envS (i + 1) j ps vs
  | i, j, .capl _ :: ps, v :: ⟨.int _, b⟩ :: vs => (i, .rpl b.toNat v.t v.x) :: envS (i + 1) j ps vs
  | i, j, .box _ _ :: ps, vs => (i, .ptr j [0]) :: envS (i + 1) (j + 1) ps vs
  | i, j, .one _ _ :: ps, vs => (i, .ptr j [0]) :: envS (i + 1) (j + 1) ps vs
  | i, j, .gone _ _ :: ps, vs => (i, .ptr j [0]) :: envS (i + 1) (j + 1) ps vs
  | i, j, .gho _ _ :: ps, vs => envS i (j + 1) ps vs
  | _, _, _, _ => []
def rtsS : Nat → List PA → List TV → List (Nat × RT)
  | j, .box e _ :: ps, v :: bs => (j, ⟨e, v.t, v.t.lev, [v.x], none⟩) :: rtsS (j + 1) ps bs
  | j, .one e _ :: ps, v :: bs => (j, ⟨e, v.t, v.t.lev, [v.x], none⟩) :: rtsS (j + 1) ps bs
  | j, .gone e _ :: ps, v :: bs => (j, ⟨e, v.t, v.t.lev, [v.x], none⟩) :: rtsS (j + 1) ps bs
  | j, .gho e _ :: ps, v :: bs => (j, ⟨e, v.t, v.t.lev, [v.x], none⟩) :: rtsS (j + 1) ps bs
  | j, .val _ :: ps, bs => rtsS j ps bs
  | j, .cap _ :: ps, bs => rtsS j ps bs
  | j, .capl _ :: ps, bs => rtsS j ps bs
  | _, _, _ => []
def locS (n : Nat) : Nat → List Nat → List (Nat × AV)
  | _, [] => []
  | j, b :: bl => (n + 64 + j, .loc j b) :: locS n (j + 1) bl
def XS.initS (n : Nat) (pat : List PA) (bl : List Nat) (vals boxes : List TV) : XS := ⟨envS 0 0 pat vals ++ locS n 0 bl, rtsS 0 pat boxes, bl.length, []⟩

section
variable {P : Program} {C : Ctx} {w : World} {T : Nat → Prop}

end
end Fer

namespace Fer
open Go

section
variable {P : Program} {C : Ctx} {w0 : World} {S0 : Nat → Prop} {s : XS} {Q : Exit → XS → Prop} {x : Code}
theorem RelAt.again {N : Nat} {dr : Bool} {pc : Pins} {a : Act} {w : World} {S : Nat → Prop} {pl : Nat → PL} (R : RelAt w0 S0 N dr pc s a w S pl) {n : Nat} {av : AV} (h : AVR w S s.rts pl av (a.tmps.getD n undef)) (hl : av.lt s.nxt) (hp : av.plain = true) : RelAt w0 S0 N dr pc { s with env := (n, av) :: s.env } a w S pl := by
  refine { defers := R.defers, size := R.size, os := R.os, tape := R.tape, output := R.output, grow := R.grow, stay := R.stay, base := R.base, lt := R.lt, own := R.own, Flt := R.Flt, disj := R.disj, ids := R.ids, env := fun i u hi => ?_, pins := R.pins, news := fun i c f hi => ?_ }
  · simp only [XS.get, lk] at hi
    split at hi
    · rename_i e
      subst e
      cases hi; exact ⟨h, hl⟩
    · exact R.env i u hi
  · simp only [XS.get, lk] at hi
    split at hi
    · cases hi; cases hp
    · exact R.news i c f hi
end
end Fer

namespace Fer
open Go

section
variable {P : Program} {C : Ctx} {w0 : World} {S0 : Nat → Prop} {N : Nat} {s : XS} {a : Act} {w w' : World} {S : Nat → Prop} {pl : Nat → PL} {c : Code} {Q : Exit → XS → Prop}

def XS.freeze (s : XS) (r i : Nat) (rt : RT) : XS := { s.kill r with env := (i, .dat rt.ty rt.x) :: s.env }

theorem RelAt.freeze (R : RelAt w0 S0 N false noPins s a w S pl) {r i : Nat} {rt : RT} (hr : s.root r = some rt) (hh : rt.h = none) (hi : s.get i = some (.ref r [])) : Rel w0 S0 N false noPins (s.freeze r i rt) a w := by
  obtain ⟨hv, H⟩ := R.own r rt hr
  rw [hh] at H
  have hvv : a.tmps.getD i undef = hv := by
    have h1 := (R.env i _ hi).1 rt hr
    rw [h1]
    exact (H.hdr (by simp)).1.symm
  have hro := H.freeze (S' := fun b => S b ∨ (pl r).F b) (fun b hb => .inl hb) fun b hb => .inr hb
  have hk2 : ∀ r2 rt2, (s.kill r).root r2 = some rt2 → r2 ≠ r ∧ s.root r2 = some rt2 := fun r2 rt2 h => lk_rm_some h
  have R1 := (R.kill r).widen (S' := fun b => S b ∨ (pl r).F b) (fun b hb => .inl hb) (fun b hb => hb.elim (R.lt b) fun h => (R.Flt r _ b hr h).1)
    (fun r2 rt2 b h2 hb hS => hS.elim (R.Flt r2 rt2 b (hk2 r2 rt2 h2).2 hb).2 fun hF => (hk2 r2 rt2 h2).1 (R.disj r2 r rt2 _ b (hk2 r2 rt2 h2).2 hr hb hF))
  refine ⟨_, _, { R1 with env := fun j av hj => ?_, news := fun j b f hj => ?_ }⟩
  · have hj : lk ((i, .dat rt.ty rt.x) :: s.env) j = some av := hj
    simp only [lk] at hj
    by_cases e : i = j
    · rw [if_pos e] at hj
      have hj := (Option.some.inj hj).symm
      subst hj
      subst e
      refine ⟨⟨[hv], ?_, hro⟩, AV.lt_dat⟩
      rw [hvv]
      rfl
    · rw [if_neg e] at hj
      exact R1.env j av hj
  · have hj : lk ((i, .dat rt.ty rt.x) :: s.env) j = some (.mp b f) := hj
    simp only [lk] at hj
    by_cases e : i = j
    · rw [if_pos e] at hj; cases hj
    · rw [if_neg e] at hj; exact R1.news j b f hj

theorem XW.freeze {r i : Nat} {rt : RT} (hr : s.root r = some rt) (hh : rt.h = none) (hi : s.get i = some (.ref r [])) (h : XW P C w0 S0 c Q (s.freeze r i rt)) : XW P C w0 S0 c Q s := fun a w ⟨_, _, R⟩ => h a w (R.freeze hr hh hi)
end

section
variable {w : World} {T : Nat → Prop} {t : Ty} {e : Nat} {ps : List PA} {bl : List Nat} {vals boxes : List TV} {vs : List Value} {F : Nat → Prop}
end
end Fer

namespace Fer
open Go

section
variable {P : Program} {C : Ctx} {w0 : World} {S0 : Nat → Prop} {N : Nat} {s : XS} {a : Act} {w w' : World} {S : Nat → Prop} {pl : Nat → PL} {c : Code} {Q : Exit → XS → Prop}

def frz1 (r : Nat) (v av : AV) : AV := match av with
  | .ref q [] => if q = r then v else .ref q []
  | av => av
def frzE (r : Nat) (v : AV) : List (Nat × AV) → List (Nat × AV)
  | [] => []
  | (i, av) :: l => (i, frz1 r v av) :: frzE r v l
theorem lk_frzE {r i : Nat} {v u : AV} : ∀ {l : List (Nat × AV)}, lk (frzE r v l) i = some u → ∃ av, lk l i = some av ∧ u = frz1 r v av
  | [], h => by cases h
  | (j, a) :: l, h => by
    simp only [frzE, lk] at h ⊢
    by_cases hj : j = i
    · rw [if_pos hj] at h ⊢
      exact ⟨a, rfl, (Option.some.inj h).symm⟩
    · rw [if_neg hj] at h ⊢
      exact lk_frzE h
def XS.frz (s : XS) (r : Nat) (rt : RT) : XS := { s.kill r with env := frzE r (.dat rt.ty rt.x) s.env }

theorem RelAt.frz (R : RelAt w0 S0 N false noPins s a w S pl) {r : Nat} {rt : RT} (hr : s.root r = some rt) (hh : rt.h = none) : Rel w0 S0 N false noPins (s.frz r rt) a w := by
  obtain ⟨hv, H⟩ := R.own r rt hr
  rw [hh] at H
  have hro := H.freeze (S' := fun b => S b ∨ (pl r).F b) (fun b hb => .inl hb) fun b hb => .inr hb
  have hk2 : ∀ r2 rt2, (s.kill r).root r2 = some rt2 → r2 ≠ r ∧ s.root r2 = some rt2 := fun r2 rt2 h => lk_rm_some h
  have R1 := (R.kill r).widen (S' := fun b => S b ∨ (pl r).F b) (fun b hb => .inl hb) (fun b hb => hb.elim (R.lt b) fun h => (R.Flt r _ b hr h).1)
    (fun r2 rt2 b h2 hb hS => hS.elim (R.Flt r2 rt2 b (hk2 r2 rt2 h2).2 hb).2 fun hF => (hk2 r2 rt2 h2).1 (R.disj r2 r rt2 _ b (hk2 r2 rt2 h2).2 hr hb hF))
  have hdat : ∀ j av, lk s.env j = some av → frz1 r (.dat rt.ty rt.x) av = av ∨ (av = .ref r [] ∧ frz1 r (.dat rt.ty rt.x) av = .dat rt.ty rt.x) := fun j av hj => by
    unfold frz1
    split
    · rename_i q
      by_cases e : q = r
      · subst e
        rw [if_pos rfl]
        exact .inr ⟨rfl, rfl⟩
      · rw [if_neg e]
        exact .inl rfl
    · exact .inl rfl
  refine ⟨_, _, { R1 with env := fun j av hj => ?_, news := fun j b f hj => ?_ }⟩
  · obtain ⟨av0, h1, h2⟩ := lk_frzE (show lk (frzE r (.dat rt.ty rt.x) s.env) j = some av from hj)
    rcases hdat j av0 h1 with h3 | ⟨h3, h4⟩
    · rw [h2, h3]
      exact R1.env j av0 h1
    · subst h3
      rw [h2, h4]
      have hvv : a.tmps.getD j undef = hv := by
        have h1 := (R.env j _ h1).1 rt hr
        rw [h1]
        exact (H.hdr (by simp)).1.symm
      refine ⟨⟨[hv], ?_, hro⟩, AV.lt_dat⟩
      rw [hvv]
      rfl
  · obtain ⟨av0, h1, h2⟩ := lk_frzE (show lk (frzE r (.dat rt.ty rt.x) s.env) j = some (.mp b f) from hj)
    rcases hdat j av0 h1 with h3 | ⟨h3, h4⟩
    · rw [h3] at h2
      subst h2
      exact R1.news j b f h1
    · rw [h4] at h2
      cases h2
theorem XW.frz {r : Nat} {rt : RT} (hr : s.root r = some rt) (hh : rt.h = none) (h : XW P C w0 S0 c Q (s.frz r rt)) : XW P C w0 S0 c Q s := fun a w ⟨_, _, R⟩ => h a w (R.frz hr hh)

end
end Fer

namespace Fer
open Go

set_option linter.defProp false in
def zd := And.intro (And.intro (And.intro (And.intro (And.intro (And.intro (And.intro (And.intro @agSt.eq_def @aggTV.eq_def) (And.intro @Ty.isLL.eq_def @retOne.eq_def)) (And.intro (And.intro @xglob.eq_def @XS.low.eq_def) (And.intro @Ty.plainL.eq_1 (And.intro @Ty.plainL.eq_2 @Ty.plainL.eq_3)))) (And.intro (And.intro (And.intro @Ty.plainL.eq_4 @Ty.plainL.eq_5) (And.intro @Ty.plainL.eq_6 @zAV.eq_def)) (And.intro (And.intro @pAt.eq_1 @pAt.eq_2) (And.intro @bareAV.eq_def (And.intro @bldFs.eq_1 @bldFs.eq_2))))) (And.intro (And.intro (And.intro (And.intro @ascB.eq_1 @ascB.eq_2) (And.intro @bldGAV.eq_def @zOf.eq_def)) (And.intro (And.intro @bxFs.eq_1 @bxFs.eq_2) (And.intro @bxFs.eq_3 (And.intro @bxFs.eq_4 @bxFs.eq_5)))) (And.intro (And.intro (And.intro @bxStr.eq_def @roSt.eq_def) (And.intro @selfAV.eq_def (And.intro @fnSt.eq_def @cloIn.eq_1))) (And.intro (And.intro @cloIn.eq_2 @cloIn.eq_3) (And.intro @parAVs.eq_1 (And.intro @parAVs.eq_2 @cloAVs.eq_def)))))) (And.intro (And.intro (And.intro (And.intro (And.intro @locsB.eq_1 @locsB.eq_2) (And.intro @locsB.eq_3 @locsB.eq_4)) (And.intro (And.intro @caplAV.eq_def @sameTV.eq_def) (And.intro @roSame.eq_1 (And.intro @roSame.eq_2 @roSame.eq_3)))) (And.intro (And.intro (And.intro @roSame.eq_4 @roSame.eq_5) (And.intro @roSame.eq_6 @roSame.eq_7)) (And.intro (And.intro @roSame.eq_8 @roSame.eq_9) (And.intro @roSame.eq_10 (And.intro @stSame.eq_1 @stSame.eq_2))))) (And.intro (And.intro (And.intro (And.intro @stSame.eq_3 @stSame.eq_4) (And.intro @stSame.eq_5 @stSame.eq_6)) (And.intro (And.intro @stSame.eq_7 @stSame.eq_8) (And.intro @ghoIn.eq_1 (And.intro @ghoIn.eq_2 @blksOf.eq_1)))) (And.intro (And.intro (And.intro @blksOf.eq_2 @argN.eq_def) (And.intro @ptrsB.eq_1 (And.intro @ptrsB.eq_2 @ptrsB.eq_3))) (And.intro (And.intro @ptrsB.eq_4 @typAVs.eq_1) (And.intro @typAVs.eq_2 (And.intro @typAVs.eq_3 @stCall.eq_def))))))) (And.intro (And.intro (And.intro (And.intro (And.intro (And.intro @stBox.eq_def @oneOf.eq_def) (And.intro @oneIn.eq_1 @oneIn.eq_2)) (And.intro (And.intro @oneIn.eq_3 @named.eq_1) (And.intro @named.eq_2 (And.intro @locOf.eq_def @locIn.eq_1)))) (And.intro (And.intro (And.intro @locIn.eq_2 @locIn.eq_3) (And.intro @stRoots.eq_1 @stRoots.eq_2)) (And.intro (And.intro @stRoots.eq_3 @stRoots.eq_4) (And.intro @stRoots.eq_5 (And.intro @stRoots.eq_6 @stRoots.eq_7))))) (And.intro (And.intro (And.intro (And.intro @stRoots.eq_8 @stRoots.eq_9) (And.intro @killAll.eq_1 @killAll.eq_2)) (And.intro (And.intro @capAV.eq_def @stVals.eq_1) (And.intro @stVals.eq_2 (And.intro @stVals.eq_3 @stVals.eq_4)))) (And.intro (And.intro (And.intro @stVals.eq_5 @stVals.eq_6) (And.intro @stVals.eq_7 (And.intro @stVals.eq_8 @stVals.eq_9))) (And.intro (And.intro @stBoxes.eq_1 @stBoxes.eq_2) (And.intro @stBoxes.eq_3 (And.intro @stBoxes.eq_4 @stBoxes.eq_5)))))) (And.intro (And.intro (And.intro (And.intro (And.intro @stBoxes.eq_6 @stBoxes.eq_7) (And.intro @stBoxes.eq_8 @stBoxes.eq_9)) (And.intro (And.intro @noP.eq_def @isBoxP.eq_def) (And.intro @stKeep.eq_def (And.intro @stCut.eq_1 @stCut.eq_2)))) (And.intro (And.intro (And.intro @stAdd.eq_1 @stAdd.eq_2) (And.intro @stAdd.eq_3 (And.intro @stAdd.eq_4 @stAdd.eq_5))) (And.intro (And.intro @stAdd.eq_6 @stAdd.eq_7) (And.intro @stAdd.eq_8 (And.intro @distinctL.eq_1 @distinctL.eq_2))))) (And.intro (And.intro (And.intro (And.intro @evs.eq_1 @evs.eq_2) (And.intro @XS.initS.eq_def @envS.eq_1)) (And.intro (And.intro @envS.eq_2 @envS.eq_3) (And.intro @envS.eq_4 (And.intro @envS.eq_5 @envS.eq_6)))) (And.intro (And.intro (And.intro @envS.eq_7 @envS.eq_8) (And.intro @rtsS.eq_1 (And.intro @rtsS.eq_2 @rtsS.eq_3))) (And.intro (And.intro @rtsS.eq_4 @rtsS.eq_5) (And.intro @rtsS.eq_6 (And.intro @rtsS.eq_7 @rtsS.eq_8)))))))) (And.intro (And.intro (And.intro (And.intro (And.intro (And.intro (And.intro @locS.eq_1 @locS.eq_2) (And.intro @wholeAV.eq_def @noPin.eq_def)) (And.intro (And.intro @capTV.eq_1 @capTV.eq_2) (And.intro @XS.initC.eq_def (And.intro @envC.eq_1 @envC.eq_2)))) (And.intro (And.intro (And.intro @xoper.eq_def @xwant.eq_def) (And.intro @cutAt.eq_def @bxAV.eq_def)) (And.intro (And.intro @bld3AV.eq_def @bld0AV.eq_def) (And.intro @strIdx.eq_def (And.intro @XS.trunc.eq_def @XS.inPlace.eq_def))))) (And.intro (And.intro (And.intro (And.intro @RT.withX.eq_def @isNilP.eq_def) (And.intro @isOneP.eq_def @fldAV.eq_def)) (And.intro (And.intro @fldP.eq_1 @fldP.eq_2) (And.intro @fldP.eq_3 (And.intro @fldR.eq_1 @fldR.eq_2)))) (And.intro (And.intro (And.intro @fldR.eq_3 @fldR.eq_4) (And.intro @cpAV.eq_def (And.intro @clAV.eq_def @okB.eq_def))) (And.intro (And.intro @loOf.eq_def @hiOf.eq_def) (And.intro @cutL.eq_def (And.intro @xgd_true @xgd_false)))))) (And.intro (And.intro (And.intro (And.intro (And.intro @known.eq_def @xdo.eq_def) (And.intro @mpOp.eq_def @mapIn.eq_1)) (And.intro (And.intro @mapIn.eq_2 @mpDo.eq_def) (And.intro @mpFree.eq_def (And.intro @newBl.eq_1 @newBl.eq_2)))) (And.intro (And.intro (And.intro @mpSet.eq_1 @mpSet.eq_2) (And.intro @AV.setMp.eq_def @AV.plain.eq_def)) (And.intro (And.intro @isMove.eq_def @nilAt.eq_def) (And.intro @nilCmp.eq_def (And.intro @xpure.eq_def @xpureT.eq_def))))) (And.intro (And.intro (And.intro (And.intro @xmem.eq_def @XS.ev.eq_def) (And.intro @constAV.eq_def @XS.init.eq_def)) (And.intro (And.intro @XS.initMv.eq_def @env0.eq_1) (And.intro @env0.eq_2 (And.intro @dOK.eq_def @PF.of.eq_def)))) (And.intro (And.intro (And.intro @PR.pf.eq_def @binAV.eq_def) (And.intro @idxAV.eq_def (And.intro @idxPair.eq_def @bldAV.eq_def))) (And.intro (And.intro @idxRO.eq_def @idxRef.eq_def) (And.intro @idxSub.eq_def (And.intro @idxArr.eq_def @ldAV.eq_def))))))) (And.intro (And.intro (And.intro (And.intro (And.intro (And.intro @ldPtr.eq_def @lenAV.eq_def) (And.intro @slAV.eq_def @sameAV.eq_def)) (And.intro (And.intro @convAV.eq_def @TE.ty.eq_def) (And.intro @appAV.eq_def (And.intro @own1.eq_def @srcAV.eq_def)))) (And.intro (And.intro (And.intro @stAV.eq_def @mkAV.eq_def) (And.intro @bsAV.eq_def @alAV.eq_def)) (And.intro (And.intro @argAV.eq_def @argsAV.eq_1) (And.intro @argsAV.eq_2 (And.intro @argsAV.eq_3 @calleeOf.eq_def))))) (And.intro (And.intro (And.intro (And.intro @datOf.eq_def @datsOf.eq_1) (And.intro @datsOf.eq_2 @retAV.eq_def)) (And.intro (And.intro @retsAV.eq_1 @retsAV.eq_2) (And.intro @retsPut.eq_def (And.intro @binInt.eq_def @cmpInt.eq_def)))) (And.intro (And.intro (And.intro @binBool.eq_def @binStr.eq_def) (And.intro @elAt.eq_def (And.intro @okNode.eq_def @TV.ew.eq_def))) (And.intro (And.intro @XS.also.eq_def @XS.redo.eq_def) (And.intro @XS.redo2.eq_def (And.intro @XS.wrote.eq_def @XS.took.eq_def)))))) (And.intro (And.intro (And.intro (And.intro (And.intro @nilRT.eq_def @tchOf.eq_def) (And.intro @tchOK.eq_def @XS.pin.eq_def)) (And.intro (And.intro @qOf.eq_def @isNil.eq_def) (And.intro @cutEnv.eq_1 (And.intro @cutEnv.eq_2 @AV.shallow.eq_def)))) (And.intro (And.intro (And.intro @shB.eq_def @safeR.eq_1) (And.intro @safeR.eq_2 (And.intro @safeR.eq_3 @safeR.eq_4))) (And.intro (And.intro @safeR.eq_5 @safeR.eq_6) (And.intro @safeR.eq_7 (And.intro @safeR.eq_8 @safeR.eq_9))))) (And.intro (And.intro (And.intro (And.intro @safeP.eq_1 @safeP.eq_2) (And.intro @safeP.eq_3 @safeP.eq_4)) (And.intro (And.intro @safeP.eq_5 @safeP.eq_6) (And.intro @safeP.eq_7 (And.intro @safeP.eq_8 @safeP.eq_9)))) (And.intro (And.intro (And.intro @bnd.eq_def @capsOf.eq_1) (And.intro @capsOf.eq_2 (And.intro @inR.eq_def @outsOf.eq_1))) (And.intro (And.intro @outsOf.eq_2 @outOf.eq_def) (And.intro @retK.eq_def (And.intro @XW.thn.eq_def @XW.blk.eq_def))))))))
set_option linter.defProp false in
def zb := And.intro (And.intro (And.intro (And.intro (And.intro (And.intro (And.intro @Ty.st.eq_1 @Ty.st.eq_2) (And.intro @Ty.st.eq_3 (And.intro @Ty.st.eq_4 @Ty.st.eq_5))) (And.intro (And.intro @Ty.st.eq_6 (And.intro @Ty.st.eq_7 @Ty.st.eq_8)) (And.intro @Ty.st.eq_9 (And.intro @Ty.st.eq_10 @stV.eq_1)))) (And.intro (And.intro (And.intro @stV.eq_2 @stV.eq_3) (And.intro @stV.eq_4 (And.intro @stV.eq_5 @stV.eq_6))) (And.intro (And.intro @stV.eq_7 (And.intro @stV.eq_8 @stV.eq_9)) (And.intro @stV.eq_10 (And.intro @unV.eq_1 @unV.eq_2))))) (And.intro (And.intro (And.intro (And.intro @unV.eq_3 @unV.eq_4) (And.intro @unV.eq_5 (And.intro @unV.eq_6 @unV.eq_7))) (And.intro (And.intro @unV.eq_8 (And.intro @unV.eq_9 @unV.eq_10)) (And.intro @Ty.leafy.eq_1 (And.intro @Ty.leafy.eq_2 @Ty.leafy.eq_3)))) (And.intro (And.intro (And.intro @Ty.leafy.eq_4 (And.intro @Ty.leafy.eq_5 @Ty.leafy.eq_6)) (And.intro @Ty.ros.eq_1 (And.intro @Ty.ros.eq_2 @Ty.ros.eq_3))) (And.intro (And.intro @prodTV.eq_1 (And.intro @prodTV.eq_2 @prodTV.eq_3)) (And.intro @Ty.noRo.eq_1 (And.intro @Ty.noRo.eq_2 @Ty.noRo.eq_3)))))) (And.intro (And.intro (And.intro (And.intro (And.intro @Ty.noRo.eq_4 @Ty.roOK.eq_1) (And.intro @Ty.roOK.eq_2 (And.intro @Ty.roOK.eq_3 @Ty.ro.injEq))) (And.intro (And.intro @List.take_length.{0} (And.intro @Option.isSome_some.{0} @Option.isSome_none.{0})) (And.intro @List.zip_cons_cons.{0,0} (And.intro @List.zip_nil_left.{0,0} @List.drop_succ_cons.{0})))) (And.intro (And.intro (And.intro @List.drop_zero.{0} @Option.map_some.{0,0}) (And.intro @List.length_set.{0} (And.intro @List.getElem?_toArray.{0} @List.getElem?_cons_succ.{0}))) (And.intro (And.intro @List.getElem?_cons_zero.{0} (And.intro @beq_true @beq_false)) (And.intro @XS.put.eq_def (And.intro @XS.get.eq_def @XS.root.eq_def))))) (And.intro (And.intro (And.intro (And.intro @lk.eq_1 @lk.eq_2) (And.intro @rm.eq_1 (And.intro @rm.eq_2 @Option.map_none.{0,0}))) (And.intro (And.intro @Option.bind_some.{0,0} (And.intro @Option.bind_none.{0,0} @opt2.eq_def)) (And.intro @List.size_toArray.{0} (And.intro @castL_self @castV_self)))) (And.intro (And.intro (And.intro @fitD_self (And.intro @List.length_cons.{0} @List.length_nil.{0})) (And.intro @List.map_cons.{0,0} (And.intro @List.map_nil.{0,0} @if_true.{1}))) (And.intro (And.intro @if_false.{1} (And.intro @forall_const.{0} @forall_const.{1})) (And.intro @beq_self_eq_true.{0} (And.intro @dite_true.{1} @dite_false.{1}))))))) (And.intro (And.intro (And.intro (And.intro (And.intro (And.intro @ne_eq.{1} @bne_self_eq_false.{0}) (And.intro @List.all_nil.{0} (And.intro @List.all_cons.{0} @List.nil_append.{0}))) (And.intro (And.intro @List.cons_append.{0} (And.intro @List.contains_nil.{0} @List.contains_cons.{0})) (And.intro @Ty.list.injEq (And.intro @Ty.int.injEq @Ty.prod.injEq)))) (And.intro (And.intro (And.intro @Ty.fn.injEq @Ty.row.injEq) (And.intro @List.cons.injEq.{0} (And.intro @List.length_replicate.{0} @Option.some.injEq.{0}))) (And.intro (And.intro @Int.cast_ofNat_Int (And.intro @RT.at.eq_def @RT.ty.eq_def)) (And.intro @RT.sub.eq_def (And.intro @RT.cut.eq_def @RT.wr.eq_def))))) (And.intro (And.intro (And.intro (And.intro @getS.eq_1 @getS.eq_2) (And.intro @getS.eq_3 (And.intro @getS.eq_4 @getS.eq_5))) (And.intro (And.intro @getS.eq_6 (And.intro @getS.eq_7 @getS.eq_8)) (And.intro @getS.eq_9 (And.intro @getS.eq_10 @getS.eq_11)))) (And.intro (And.intro (And.intro @getS.eq_12 (And.intro @getS.eq_13 @dep.eq_1)) (And.intro @dep.eq_2 (And.intro @dep.eq_3 @dep.eq_4))) (And.intro (And.intro @dep.eq_5 (And.intro @okS.eq_1 @okS.eq_2)) (And.intro @okS.eq_3 (And.intro @okS.eq_4 @okS.eq_5)))))) (And.intro (And.intro (And.intro (And.intro (And.intro @hclear.eq_def @TV.len.eq_def) (And.intro @XS.addRoot.eq_def (And.intro @XS.kill.eq_def @XS.setRoot.eq_def))) (And.intro (And.intro @pinAlso.eq_def (And.intro @Ty.flat.eq_1 @Ty.flat.eq_2)) (And.intro @Ty.flat.eq_3 (And.intro @Ty.flat.eq_4 @Ty.flat.eq_5)))) (And.intro (And.intro (And.intro @Ty.flat.eq_6 (And.intro @Ty.lev.eq_1 @Ty.lev.eq_2)) (And.intro @Ty.lev.eq_3 (And.intro @Ty.lev.eq_4 @Ty.lev.eq_5))) (And.intro (And.intro @Ty.lev.eq_6 (And.intro @Ty.dflt.eq_1 @Ty.dflt.eq_2)) (And.intro @Ty.dflt.eq_3 (And.intro @Ty.dflt.eq_4 @Ty.dflt.eq_5))))) (And.intro (And.intro (And.intro (And.intro @Ty.dflt.eq_6 @Ty.dflt.eq_7) (And.intro @Ty.dflt.eq_8 (And.intro @Ty.dflt.eq_9 @Ty.dflt.eq_10))) (And.intro (And.intro @Ty.width.eq_1 (And.intro @Ty.width.eq_2 @setT.eq_1)) (And.intro @setT.eq_2 (And.intro @setT.eq_3 @setT.eq_4)))) (And.intro (And.intro (And.intro @setT.eq_5 (And.intro @setT.eq_6 @setT.eq_7)) (And.intro @setT.eq_8 (And.intro @setT.eq_9 @setT.eq_10))) (And.intro (And.intro @setT.eq_11 (And.intro @setT.eq_12 @setT.eq_13)) (And.intro @prodOf.eq_1 (And.intro @prodOf.eq_2 @prodOf.eq_3)))))))

end Fer

namespace Fer
open Go

def gtOf (ops : Array Oper) (o : Oper) : Option (Option (Nat × Bool)) :=
  match o.guard with
  | none => some none
  | some (j, want) => match (ops[j]?).bind (·.dst) with
    | some t => some (some (t, want))
    | none => none

def onlyE (env : List (Nat × AV)) : List Nat → List (Nat × AV)
  | [] => []
  | k :: ks => match lk env k with
    | some av => (k, av) :: onlyE env ks
    | none => onlyE env ks
def XS.only (s : XS) : Option (List Nat) → XS
  | none => s
  | some ks => { s with env := onlyE s.env ks }
theorem lk_onlyE {env : List (Nat × AV)} {j : Nat} {av : AV} : ∀ {ks : List Nat}, lk (onlyE env ks) j = some av → lk env j = some av
  | [], h => by cases h
  | k :: ks, h => by
    simp only [onlyE] at h
    split at h
    · rename_i a ha
      simp only [lk] at h
      split at h
      · rename_i e
        subst e
        exact ha.trans h
      · exact lk_onlyE h
    · exact lk_onlyE h
def xsw : Bool → Bool → Prop → Prop → Prop
  | true, true, A, _ => A
  | true, false, _, B => B
  | false, true, _, B => B
  | false, false, A, _ => A
def xoperL (C : Ctx) (dr : Bool) (gt : Option (Option (Nat × Bool))) (o : Oper) (i : Nat) (K : XS → Prop) (s : XS) : Prop :=
  dOK C.n o.dst = true ∧ match gt with
  | none => K (s.put o.dst (.tup []))
  | some none => xdo C dr o i K s
  | some (some (t, want)) => match s.get t with
    | some (.dat .bool c) => xsw want c (xdo C dr o i K s) (K (s.put o.dst (.tup [])))
    | some (.tup []) => K (s.put o.dst (.tup []))
    | _ => False
def xcz : Option Nat → (XS → Prop) → XS → Prop
  | none, K, s => K s
  | some t, K, s => match s.get t with
    | some (.dat .bool c) => (c = true → K (s.put (some t) (.dat .bool true))) ∧ (c = false → K (s.put (some t) (.dat .bool false)))
    | some (.tup []) => K s
    | _ => False
abbrev GT := Option (Option (Nat × Bool))
def xlnp (C : Ctx) (K : XS → Prop) (hs : List (Nat × List Nat)) : Nat → List GT → List Oper → XS → Prop
  | _, [], [], s => K s
  | i, g :: gs, o :: l, s => xoperL C true g o i (xlnp C K hs (i + 1) gs l) (s.only (lk hs i))
  | _, _, _, _ => False
def xlngc (C : Ctx) (K : XS → Prop) (hs : List (Nat × List Nat)) : Nat → List (Option Nat × Nat) → List GT → List Oper → XS → Prop
  | _, [], _, _, s => K { s with pins := [] }
  | i, (ct, n) :: ns, gs, l, s => xcz ct (xlnp C (xlngc C K hs (i + n) ns (gs.drop n) (l.drop n)) hs i (gs.take n) (l.take n)) s
section
variable {C : Ctx} {K : XS → Prop} {hs : List (Nat × List Nat)} {i n t : Nat} {ns : List (Option Nat × Nat)} {gs : List GT} {l : List Oper} {s : XS}
end

section
variable {P : Program} {C : Ctx} {w0 : World} {S0 : Nat → Prop}
theorem RelAt.only {N : Nat} {dr : Bool} {pc : Pins} {s : XS} {a : Act} {w : World} {S : Nat → Prop} {pl : Nat → PL} (R : RelAt w0 S0 N dr pc s a w S pl) (ks : Option (List Nat)) : RelAt w0 S0 N dr pc (s.only ks) a w S pl := by
  cases ks with
  | none => exact R
  | some ks => exact { R with env := fun i av hi => R.env i av (lk_onlyE hi), news := fun i b f hi => R.news i b f (lk_onlyE hi) }
theorem xoperL_ok (hC : CtxOK P C w0 S0) {ops : Array Oper} {o : Oper} {i : Nat} {K : XS → Prop} {K' : Pins → Act → World → Prop} {pc : Pins} {s : XS} {a : Act} {w : World}
    (hK : ∀ s pc a w, K s → Rel w0 S0 C.n true pc s a w → K' pc a w) (h : xoperL C true (gtOf ops o) o i K s) (R : Rel w0 S0 C.n true pc s a w) : kOper P ops o i pc a w K' := by
  obtain ⟨S, pl, R⟩ := R
  obtain ⟨hd, h⟩ := h
  have hd := dOK_lt hd
  have yes : ∀ s1 : XS, RelAt w0 S0 C.n true pc s1 a w S pl → xdo C true o i K s1 → xwant ops s o = some true → kOper P ops o i pc a w K' := fun s1 R1 h1 hw => by
    simp only [kOper]
    rw [xwant_ok R hw]
    simp only [if_true]
    have := xdo_ok hC R1 hd h1
    exact Out.k (this.mono fun pc' a' w' hh => by
      obtain ⟨s', h1, h2⟩ := hh
      exact hK s' pc' a' w' h1 h2)
  have no : ∀ s1 : XS, RelAt w0 S0 C.n true pc s1 a w S pl → K (s1.put o.dst (.tup [])) → xwant ops s o = some false → kOper P ops o i pc a w K' := fun s1 R1 h1 hw => by
    simp only [kOper]
    rw [xwant_ok R hw]
    simp only [Bool.false_eq_true, if_false]
    exact hK _ pc _ w h1 ⟨S, pl, R1.skip hd⟩
  have goal : kOper P ops o i pc a w K' := by
    cases hgd : o.guard with
    | none =>
      have e : gtOf ops o = some none := by unfold gtOf; rw [hgd]
      rw [e] at h
      exact yes s R h (by unfold xwant; rw [hgd])
    | some jw =>
      obtain ⟨j, want⟩ := jw
      cases ho : (ops[j]?).bind (·.dst) with
      | none =>
        have e : gtOf ops o = none := by unfold gtOf; rw [hgd]; simp only [ho]
        rw [e] at h
        exact no s R h (by unfold xwant; rw [hgd]; simp only [ho])
      | some t =>
        have e : gtOf ops o = some (some (t, want)) := by unfold gtOf; rw [hgd]; simp only [ho]
        rw [e] at h
        simp only at h
        have ex : ∀ v, s.get t = some v → xwant ops s o = (match v with
          | .dat .bool c => some (c == want)
          | .tup [] => some false
          | _ => none) := fun v hv => by
          unfold xwant
          rw [hgd]
          simp only [ho, hv]
          split <;> first | rfl | simp_all
        split at h
        · rename_i c hc
          have hw : xwant ops s o = some (c == want) := ex _ hc
          cases want <;> cases c
          · exact yes s R h (by rw [hw]; rfl)
          · exact no s R h (by rw [hw]; rfl)
          · exact no s R h (by rw [hw]; rfl)
          · exact yes s R h (by rw [hw]; rfl)
        · rename_i hc
          exact no s R h (ex _ hc)
        · exact h.elim
  exact goal
theorem RelAt.told {N : Nat} {dr : Bool} {pc : Pins} {s : XS} {a : Act} {w : World} {S : Nat → Prop} {pl : Nat → PL} (R : RelAt w0 S0 N dr pc s a w S pl) {t : Nat} {c b : Bool} (hc : s.get t = some (.dat .bool c)) (e : c = b) : RelAt w0 S0 N dr pc (s.put (some t) (.dat .bool b)) a w S pl := by
  subst e
  refine { R with env := fun i av hi => ?_, news := fun i b f hi => ?_ }
  · simp only [XS.get, XS.put, lk] at hi
    split at hi
    · rename_i e1
      subst e1
      cases hi
      exact R.env t _ hc
    · exact R.env i av hi
  · simp only [XS.get, XS.put, lk] at hi
    split at hi
    · cases hi
    · exact R.news i b f hi
theorem xlnp_ok (hC : CtxOK P C w0 S0) {ops : Array Oper} {K : XS → Prop} {Q : Pins → Act → World → Prop} {hs : List (Nat × List Nat)} {rest : List Nat} (hK : ∀ s pc a w, K s → Rel w0 S0 C.n true pc s a w → wpOrd P ops Q rest pc a w) :
    ∀ (l : List Oper) (i : Nat) (s : XS) (pc : Pins) (a : Act) (w : World), (∀ j, j < l.length → ops[i + j]? = l[j]?) → xlnp C K hs i (l.map (gtOf ops)) l s → Rel w0 S0 C.n true pc s a w → wpOrd P ops Q (List.range' i l.length ++ rest) pc a w
  | [], i, s, pc, a, w, _, h, R => hK s pc a w h R
  | o :: l, i, s, pc, a, w, hj, h, ⟨S, pl, R⟩ => by
    have h0 := hj 0 (by simp)
    simp only [Nat.add_zero, List.getElem?_cons_zero] at h0
    simp only [List.length_cons, List.range'_succ, List.cons_append, wpOrd, h0]
    exact xoperL_ok hC (fun s' pc' a' w' h1 h2 => xlnp_ok hC hK l (i + 1) s' pc' a' w' (fun j hl => by have := hj (j + 1) (by simpa using hl); rwa [List.getElem?_cons_succ, show i + (j + 1) = i + 1 + j by omega] at this) h1 h2) h ⟨S, pl, R.only _⟩
theorem xlngc_ok (hC : CtxOK P C w0 S0) {ops : Array Oper} {K : XS → Prop} {Q : Act → World → Prop} {hs : List (Nat × List Nat)} (hK : ∀ s a w, K s → Rel w0 S0 C.n false noPins s a w → Q a w) :
    ∀ (ns : List (Option Nat × Nat)) (l : List Oper) (i : Nat) (s : XS) (pc : Pins) (a : Act) (w : World), (∀ j, j < l.length → ops[i + j]? = l[j]?) → (ns.map (·.2)).sum = l.length → xlngc C K hs i ns (l.map (gtOf ops)) l s → Rel w0 S0 C.n true pc s a w → wpOrd P ops (fun _ a w => Q a w) (List.range' i l.length) pc a w
  | [], l, i, s, pc, a, w, _, hn, h, ⟨S, pl, R⟩ => by
    obtain rfl := List.eq_nil_of_length_eq_zero (show l.length = 0 by simpa using hn.symm)
    exact hK _ a w h ⟨S, pl, { R with pins := (fun h => by cases h) }⟩
  | (ct, n) :: ns, l, i, s, pc, a, w, hj, hn, h, ⟨S, pl, R⟩ => by
    simp only [List.map_cons, List.sum_cons] at hn
    have ih : ∀ s pc a w, xlngc C K hs (i + n) ns ((l.map (gtOf ops)).drop n) (l.drop n) s → Rel w0 S0 C.n true pc s a w → wpOrd P ops (fun _ a w => Q a w) (List.range' (i + n) (l.drop n).length) pc a w := fun s pc a w h1 h2 => by
      rw [← List.map_drop] at h1
      exact xlngc_ok hC hK ns (l.drop n) (i + n) s pc a w (fun j hl => by
        rw [List.getElem?_drop, show i + n + j = i + (n + j) by omega]
        exact hj (n + j) (by rw [List.length_drop] at hl; omega)) (by rw [List.length_drop]; omega) h1 h2
    have er : List.range' i l.length = List.range' i (l.take n).length ++ List.range' (i + n) (l.drop n).length := by
      rw [List.length_take, List.length_drop, show min n l.length = n by omega, List.range'_append_1]
      congr 1
      omega
    rw [er]
    have go : ∀ s1 : XS, RelAt w0 S0 C.n true pc s1 a w S pl → xlnp C (xlngc C K hs (i + n) ns ((l.map (gtOf ops)).drop n) (l.drop n)) hs i ((l.map (gtOf ops)).take n) (l.take n) s1 → wpOrd P ops (fun _ a w => Q a w) (List.range' i (l.take n).length ++ List.range' (i + n) (l.drop n).length) pc a w := fun s1 R1 h1 => by
      rw [← List.map_take] at h1
      exact xlnp_ok hC ih (l.take n) i s1 pc a w (fun j hl => by
        rw [List.length_take] at hl
        rw [List.getElem?_take, if_pos (by omega)]
        exact hj j (by omega)) h1 ⟨S, pl, R1⟩
    simp only [xlngc] at h
    cases ct with
    | none => exact go s R h
    | some t =>
      simp only [xcz] at h
      split at h
      · rename_i c hc
        cases c with
        | true => exact go _ (R.told hc rfl) (h.1 rfl)
        | false => exact go _ (R.told hc rfl) (h.2 rfl)
      · exact go s R h
      · exact h.elim
theorem XW.long {Q : Exit → XS → Prop} {s : XS} (hC : CtxOK P C w0 S0) (hm : P.follows .mixedOrders = true) {id : Nat} {ops : Array Oper} (hB : ordOK ops (List.range' 0 ops.toList.length) = true) (gs : List GT) (hg : ops.toList.map (gtOf ops) = gs) (hs : List (Nat × List Nat)) (ns : List (Option Nat × Nat)) (hn : (ns.map (·.2)).sum = ops.toList.length)
    (h : ∀ K : XS → Prop, (∀ s, Q .normal s → K s) → xlngc C K hs 0 ns gs ops.toList s) : XW P C w0 S0 (.region id ops true) Q s := fun a w R => by
  subst hg
  refine wp_region_ord _ hm hB (xlngc_ok hC (Q := fun a w => ∃ s', Q .normal s' ∧ Rel w0 S0 C.n false noPins s' a w) (K := fun s => Q .normal s) (fun s a w hK R => ⟨s, hK, R⟩) ns ops.toList 0 s noPins a _ (fun j _ => by simp) hn (h _ fun _ h => h) ?_)
  obtain ⟨S, pl, R⟩ := R
  have R' := R.grown (Grew.drew w)
  exact ⟨S, pl, { R' with pins := (fun _ i b h => h.elim) }⟩
end
end Fer

namespace Fer
open Go
def sub : List Bool → Code → Code
  | [], c => c
  | false :: p, .seq a _ => sub p a
  | true :: p, .seq _ b => sub p b
  | false :: p, .cond _ a _ => sub p a
  | true :: p, .cond _ _ b => sub p b
  | false :: p, .block _ c => sub p c
  | b :: p, .loop c => sub (b :: p) c
  | _ :: _, c => c
end Fer

namespace Fer
open Go

abbrev PMap := List ((Int × Int) × Int)
structure SpecM where
  ps : List Ty
  wp : List TV → (PMap → Prop) → Prop
def FnMk (P : Program) (f : Nat) (sp : SpecM) : Prop :=
  (∃ fn, P.funcs[f]? = some fn ∧ (fn.name == "runtime.NumGoroutine") = false ∧ fn.body.isNone = false) ∧
  ∀ (args : List TV) (K : PMap → Prop), sp.wp args K → ∀ (w : World) (vs : List Value), Args w (oldS w) sp.ps args vs →
    Calls P f vs.toArray w fun e w' => match e with
      | .returned v => Grew w w' ∧ ∃ b l, K l ∧ v = .map (some b) ∧ w.heap.size ≤ b ∧ MapAt w' b (.prs l)
      | _ => False
def retM (slot : Nat) (K : PMap → Prop) : Exit → XS → Prop
  | .normal, s => ∃ b l, s.get slot = some (.mp b (.prs l)) ∧ K l
  | .ret, s => ∃ b l, s.get slot = some (.mp b (.prs l)) ∧ K l
  | _, _ => False

section
variable {P : Program} {C : Ctx} {w0 : World} {S0 : Nat → Prop}
theorem FnMk_of (f : Nat) (fn : Func) (c : Code) (slot : Nat) (sp : SpecM) (hf : P.funcs[f]? = some fn) (hb : fn.body = some c) (hn : (fn.name == "runtime.NumGoroutine") = false) (hres : fn.results.toList = [slot].map ResultVar.tmp)
    (hnt : fn.ntmps = C.n) (hps : sp.ps.length ≤ fn.ntmps)
    (h : ∀ (args : List TV) (K : PMap → Prop), args.map (·.t) = sp.ps → sp.wp args K → ∀ w0 : World, XW P C w0 (oldS w0) c (retM slot K) (XS.init args)) : FnMk P f sp := by
  refine ⟨⟨fn, hf, hn, by rw [hb]; rfl⟩, fun args K hK w vs hA => ?_⟩
  obtain ⟨l1, hts, hget⟩ := args_get hA
  have l2 : sp.ps.length = args.length := by rw [← hts]; simp
  refine calls_of_wp hf hb (Go.wp_mono (h args K hts hK w _ w ⟨oldS w, fun _ => ⟨.leaf, noF⟩, ?_⟩) fun e a' w' hh => ?_)
  · refine { defers := rfl, size := ?_, os := rfl, tape := rfl, output := SameOut.refl w, grow := Nat.le_refl _, stay := fun _ _ => rfl, base := fun _ h => h, lt := fun _ h => h, own := (fun _ _ h => by cases h), Flt := (fun _ _ _ h => by cases h), disj := (fun _ _ _ _ _ h => by cases h), ids := (fun _ _ h => by cases h), env := fun i av hi => ?_, pins := (fun h => by cases h), news := (fun i b f hi => by obtain ⟨_, _, _, h⟩ := env0_get hi; cases h) }
    · simp [l1, ← hnt]; omega
    · obtain ⟨v, h1, _, rfl⟩ := env0_get hi
      simp only [Nat.sub_zero] at h1
      obtain ⟨u, cs, h2, h3, h4⟩ := hget i v h1
      refine ⟨⟨cs, ?_, h4⟩, AV.lt_dat⟩
      have hlt : i < vs.length := (List.getElem?_eq_some_iff.1 h2).1
      rw [← h3]
      simp only [Array.getD_eq_getD_getElem?]
      rw [Array.getElem?_append_left (by simpa using hlt)]
      simp [h2]
  · obtain ⟨s', h1, S, pl, R⟩ := hh
    have g : Grew w w' := ⟨R.os, R.tape, R.output.ofOld, R.grow, R.stay⟩
    have fin : (∃ b l, s'.get slot = some (.mp b (.prs l)) ∧ K l) → a'.defers = [] ∧ ∃ v, (results fn a'.tmps).run P w' = .ok v w' ∧ Grew w w' ∧ ∃ b l, K l ∧ v = .map (some b) ∧ w.heap.size ≤ b ∧ MapAt w' b (.prs l) := by
      rintro ⟨b, l, hs, hk⟩
      obtain ⟨e1, _, e3⟩ := (R.env slot _ hs).1
      refine ⟨R.defers, _, run_results hres a'.tmps, g, b, l, hk, ?_, R.news slot b _ hs, e3⟩
      show valOf [a'.tmps.getD slot undef] = _
      rw [e1]
      rfl
    cases e with
    | normal => exact fin h1
    | ret => exact fin h1
    | exit => exact h1.elim
    | goto => exact h1.elim
    | panic => exact h1.elim
    | outgrown => exact h1.elim
variable {s : XS} {Q : Exit → XS → Prop}
theorem XW.regionMk (hC : CtxOK P C w0 S0) {f i : Nat} {sp : SpecM} (hM : FnMk P f sp) {o1 o2 o3 : Oper} {x : Operand} {ats : Array TypeId} (h2 : o2.op = .call { callee := .value (.func f), args := #[x], argTypes := ats }) (h2g : o2.guard = none) (h2d : ∀ t, o2.dst = some t → t < C.n)
    (h : ∀ K1 : XS → Prop, (∀ s1, (∃ p l, argsAV s1 sp.ps [x] = some (p, l) ∧ p ∧ sp.wp l fun m => ∀ b, newBl s1 b s1.env → ∀ K2 : XS → Prop, (∀ s', Q .normal s' → K2 s') → xrun C #[o1, o2, o3] K2 2 [o3] (s1.put o2.dst (.mp b (.prs m)))) → K1 s1) → xrun C #[o1, o2, o3] K1 0 [o1] s) :
    XW P C w0 S0 (.region i #[o1, o2, o3] false) Q s := fun a w R => by
  refine wp_region_list ?_
  have hlast : ∀ (s' : XS) (pc : Pins) (a : Act) (w : World), xrun C #[o1, o2, o3] (fun s' => Q .normal s') 2 [o3] s' → Rel w0 S0 C.n false pc s' a w → wpList P #[o1, o2, o3] (fun e a' w' => ∃ s', Q e s' ∧ Rel w0 S0 C.n false noPins s' a' w') [o3] a w := fun s' pc a w h' R' =>
    xrun_ok hC (K := fun s => Q .normal s) (fun s pc a w hK ⟨S, pl, R⟩ => ⟨s, hK, S, pl, { R with pins := (fun h => by cases h) }⟩) [o3] 2 s' pc a w h' R'
  have hmid : ∀ (s1 : XS) (pc : Pins) (a : Act) (w : World), (∃ p l, argsAV s1 sp.ps [x] = some (p, l) ∧ p ∧ sp.wp l fun m => ∀ b, newBl s1 b s1.env → ∀ K2 : XS → Prop, (∀ s', Q .normal s' → K2 s') → xrun C #[o1, o2, o3] K2 2 [o3] (s1.put o2.dst (.mp b (.prs m)))) →
      Rel w0 S0 C.n false pc s1 a w → wpList P #[o1, o2, o3] (fun e a' w' => ∃ s', Q e s' ∧ Rel w0 S0 C.n false noPins s' a' w') [o2, o3] a w := fun s1 pc a w hh ⟨S, pl, R1⟩ => by
    obtain ⟨p, l, ha, hp, hK⟩ := hh
    obtain ⟨⟨fn, hf, hn, hb⟩, hcall⟩ := hM
    have hw : xwant #[o1, o2, o3] s1 o2 = some true := by unfold xwant; rw [h2g]
    have hA := argsAV_ok R1 sp.ps [x] p l ha hp
    have hrun : (execOp a.eval o2).run P w = .ok (.enter f ([x].map a.eval).toArray) w := by
      unfold execOp
      rw [h2]
      have := run_call (P := P) (w := w) hf hn hb (#[x].map a.eval)
      simp only [resolve, invoke, Act.eval, Deferred.ofValue, Sem.run_bind, Sem.run_pure, Result.andThen_ok, Array.empty_append, Array.append_empty] at this ⊢
      rw [this]
      simp
    unfold wpList
    rw [xwant_ok R1 hw, if_pos rfl]
    refine .inl ?_
    unfold Oper.wp
    rw [hrun]
    refine Calls.mono (hcall l _ hK w _ hA) fun e w' h => ?_
    cases e with
    | returned v =>
      obtain ⟨g, b, m, h1, rfl, h3, h4⟩ := h
      obtain ⟨o', ho', _⟩ := id h4
      have hlt : b < w'.heap.size := (Array.getElem?_eq_some_iff.1 ho').1
      have R2 := (R1.grown g).widen (S' := fun n => S n ∨ n = b) (fun b hb => .inl hb) (fun c hc => hc.elim (fun h => Nat.lt_of_lt_of_le (R1.lt c h) g.size) fun h => by subst h; exact hlt) fun r rt c hr hc hS => hS.elim (R1.Flt r rt c hr hc).2 fun e => by
        have := (R1.Flt r rt c hr hc).1
        omega
      exact hlast _ _ _ _ (h1 b (newBl_ok R1 h3 _) _ fun _ h => h) ⟨_, pl, R2.put h2d ⟨rfl, .inr rfl, h4⟩ (fun r hr => by simp [AV.ids] at hr) (Nat.le_trans R1.grow h3)⟩
    | panicked => exact h.elim
    | outgrown => exact h.elim
  obtain ⟨S, pl, R⟩ := R
  obtain ⟨hd, h⟩ := h _ fun _ h => h
  have hd := dOK_lt hd
  show wpList P #[o1, o2, o3] _ [o1, o2, o3] a w
  split at h
  · exact h.elim
  · rename_i b hb
    unfold wpList
    rw [xwant_ok R hb]
    cases b with
    | true =>
      rw [if_pos rfl]
      refine .inl ?_
      have := xdo_ok hC (R.known hb) hd h
      exact Out.wp (this.mono fun pc' a' w' hh => by
        obtain ⟨s', h1, h2⟩ := hh
        exact hmid s' pc' a' w' h1 h2)
    | false =>
      rw [if_neg (by simp)]
      exact hmid _ noPins _ w h ⟨S, pl, (R.known hb).skip hd⟩
end
end Fer

namespace Fer
open Go Go.Deep Go.ChangeShapes Go.WideShapes

def tyOK (tt : List (Nat × TE)) : Nat → Ty → Bool
  | T, .list e t => (match lk tt T with | some (.slice e' t' _) => decide (e = e') && decide (t = t') | _ => false) && tyOK tt e t
  | T, .int k => (match lk tt T with | some (.basic (.int k')) => decide (k = k') | _ => false)
  | T, .bool => (match lk tt T with | some (.basic .bool) => true | _ => false)
  | T, .str => (match lk tt T with | some (.basic .str) => true | _ => false)
  | T, .prod (.int ka) (.int kb) => (match lk tt T with | some (.struct [.int ja, .int jb]) => decide (ka = ja) && decide (kb = jb) | _ => false)
  | _, _ => false

def Rd {H : Type} : (t : Ty) → t.den → DataW H → Prop
  | .int k, n, d => d = .lit (.int k n) ∧ (Lit.int k n).wf = true
  | .bool, b, d => d = .lit (.bool b)
  | .str, s, d => d = .lit (.string s.data.toList) ∧ s.size ≤ maxLen
  | .list _ t, xs, d => (d = .nil ∧ xs = []) ∨ ∃ els sp, d = .slice els sp ∧ els.length = xs.length ∧ ∀ i e, els[i]? = some e → Rd t (xs.getD i t.dflt) e
  | .prod a b, x, d => ∃ d1 d2, d = .agg [d1, d2] ∧ Rd a x.1 d1 ∧ Rd b x.2 d2
  | _, _, _ => False

section
variable {H : Type} {enc : TypeId × Value → H} {P : Program} {tt : List (Nat × TE)} {w : World}

theorem tyOK_some {T : Nat} {t : Ty} (h : tyOK tt T t = true) : ∃ te, lk tt T = some te ∧ te.ty = some t := by
  cases t with
  | list e t =>
    simp only [tyOK, Bool.and_eq_true] at h
    have h := h.1
    split at h
    · rename_i e' t' b hl
      simp only [Bool.and_eq_true, decide_eq_true_eq] at h
      obtain ⟨rfl, rfl⟩ := h
      exact ⟨_, hl, rfl⟩
    · cases h
  | int k =>
    simp only [tyOK] at h
    split at h
    · rename_i k' hl
      simp only [decide_eq_true_eq] at h; subst h
      exact ⟨_, hl, rfl⟩
    · cases h
  | bool =>
    simp only [tyOK] at h
    split at h
    · rename_i hl; exact ⟨_, hl, rfl⟩
    · cases h
  | str =>
    simp only [tyOK] at h
    split at h
    · rename_i hl; exact ⟨_, hl, rfl⟩
    · cases h
  | raw => simp [tyOK] at h
  | fn => simp [tyOK] at h
  | row => simp [tyOK] at h
  | ro => simp [tyOK] at h
  | func => simp [tyOK] at h
  | prod a b =>
    unfold tyOK at h
    split at h
    · rename_i h1; cases h1
    · rename_i h1; cases h1
    · rename_i h1; cases h1
    · rename_i h1; cases h1
    · rename_i ka kb h1
      cases h1
      split at h
      · rename_i ja jb hl
        simp only [Bool.and_eq_true, decide_eq_true_eq] at h
        obtain ⟨rfl, rfl⟩ := h
        exact ⟨_, hl, rfl⟩
      · cases h
    · cases h

theorem tyOK_prod {T : Nat} {a b : Ty} (h : tyOK tt T (.prod a b) = true) : ∃ ka kb, a = .int ka ∧ b = .int kb ∧ lk tt T = some (.struct [.int ka, .int kb]) := by
  unfold tyOK at h
  split at h
  · rename_i h1; cases h1
  · rename_i h1; cases h1
  · rename_i h1; cases h1
  · rename_i h1; cases h1
  · rename_i ka kb h1
    cases h1
    split at h
    · rename_i ja jb hl
      simp only [Bool.and_eq_true, decide_eq_true_eq] at h
      obtain ⟨rfl, rfl⟩ := h
      exact ⟨_, _, rfl, rfl, hl⟩
    · cases h
  · cases h

theorem cells_some {w : World} {b off n : Nat} {cs : List Value} (h : w.cells? 0 ⟨b, off, none⟩ n = some cs) (hn : 0 < n) :
    cs.length = n ∧ ∃ arr E fr, w.heap[b]? = some (.cells arr E fr) ∧ off + n ≤ arr.size ∧ cellsAt arr off n = cs := by
  unfold World.cells? at h
  rw [if_pos (Nat.zero_le _)] at h
  have hl := mapM_some_length h
  rw [List.length_range] at hl
  have hg := fun i (hi : i < n) => mapM_some_get h i i (by simp [hi])
  have hcell : ∀ i, i < n → w.cell? ⟨b, off + i, none⟩ = cs[i]? := fun i hi => by rw [← hg i hi, Addr.add_mid]
  have h0 := hcell 0 hn
  have hc0 : ∃ v, cs[0]? = some v := ⟨cs[0], List.getElem?_eq_getElem (by omega)⟩
  obtain ⟨v0, hv0⟩ := hc0
  rw [hv0] at h0
  unfold World.cell? at h0
  refine ⟨hl, ?_⟩
  cases hb : w.heap[b]? with
  | none => simp [hb] at h0
  | some o =>
    cases o with
    | cells arr E fr =>
      have hci : ∀ i, i < n → arr[off + i]? = cs[i]? := fun i hi => by
        have := hcell i hi
        simpa [World.cell?, hb] using this
      have hsz : off + n ≤ arr.size := by
        have := hci (n - 1) (by omega)
        rw [List.getElem?_eq_getElem (by omega : n - 1 < cs.length)] at this
        have := (Array.getElem?_eq_some_iff.1 this).1
        omega
      refine ⟨arr, E, fr, rfl, hsz, ?_⟩
      apply List.ext_getElem?
      intro i
      simp only [cellsAt, List.getElem?_take, List.getElem?_drop, Array.getElem?_toList]
      by_cases hi : i < n
      · rw [if_pos hi]; exact hci i hi
      · rw [if_neg hi, List.getElem?_eq_none (by omega)]
    | _ => simp [hb] at h0

theorem tyOK_int {T : Nat} {k : IntKind} (htt : ttB P tt = true) (h : tyOK tt T (.int k) = true) : P.underlying T = some (.int k) := by
  obtain ⟨te, h1, h2⟩ := tyOK_some h
  have hB := ttB_get htt h1
  cases te with
  | basic t' => simp only [TE.ty, Option.some.injEq] at h2; subst h2; exact basic_te hB
  | slice => simp [TE.ty] at h2
  | arr => simp [TE.ty] at h2
  | struct ts =>
    simp only [TE.ty] at h2
    split at h2
    · rename_i hl
      match ts, hl with
      | a :: b :: l, _ => simp [prodOf] at h2
    · cases h2
  | pair => simp [TE.ty] at h2
  | map => simp [TE.ty] at h2
  | mapP => simp [TE.ty] at h2
theorem tyOK_bool {T : Nat} (htt : ttB P tt = true) (h : tyOK tt T .bool = true) : P.underlying T = some .bool := by
  obtain ⟨te, h1, h2⟩ := tyOK_some h
  have hB := ttB_get htt h1
  cases te with
  | basic t' => simp only [TE.ty, Option.some.injEq] at h2; subst h2; exact basic_te hB
  | slice => simp [TE.ty] at h2
  | arr => simp [TE.ty] at h2
  | struct ts =>
    simp only [TE.ty] at h2
    split at h2
    · rename_i hl
      match ts, hl with
      | a :: b :: l, _ => simp [prodOf] at h2
    · cases h2
  | pair => simp [TE.ty] at h2
  | map => simp [TE.ty] at h2
  | mapP => simp [TE.ty] at h2
theorem tyOK_str {T : Nat} (htt : ttB P tt = true) (h : tyOK tt T .str = true) : P.underlying T = some .string := by
  obtain ⟨te, h1, h2⟩ := tyOK_some h
  have hB := ttB_get htt h1
  cases te with
  | basic t' => simp only [TE.ty, Option.some.injEq] at h2; subst h2; exact basic_te hB
  | slice => simp [TE.ty] at h2
  | arr => simp [TE.ty] at h2
  | struct ts =>
    simp only [TE.ty] at h2
    split at h2
    · rename_i hl
      match ts, hl with
      | a :: b :: l, _ => simp [prodOf] at h2
    · cases h2
  | pair => simp [TE.ty] at h2
  | map => simp [TE.ty] at h2
  | mapP => simp [TE.ty] at h2

theorem tyOK_list {T e : Nat} {t : Ty} (htt : ttB P tt = true) (h : tyOK tt T (.list e t) = true) : P.underlying T = some (.slice e) ∧ P.cellsOf e = t.width ∧ tyOK tt e t = true := by
  have h0 := h
  simp only [tyOK, Bool.and_eq_true] at h
  obtain ⟨te, h1, h2⟩ := tyOK_some h0
  have hB := ttB_get htt h1
  cases te with
  | slice e' t' b =>
    simp only [TE.ty, Option.some.injEq, Ty.list.injEq] at h2
    obtain ⟨rfl, rfl⟩ := h2
    obtain ⟨hT, _, ⟨inf, hi, hsz, _⟩, _⟩ := slice_te hB
    exact ⟨hT, by simp [Program.cellsOf, hi, hsz], h.2⟩
  | basic t' =>
    simp only [TE.ty, Option.some.injEq] at h2; subst h2
    have h := h.1
    rw [h1] at h
    simp at h
  | arr => simp [TE.ty] at h2
  | struct ts =>
    have h := h.1
    rw [h1] at h
    simp at h
  | pair e' t' =>
    have h := h.1
    rw [h1] at h
    simp at h
  | map e' t' =>
    have h := h.1
    rw [h1] at h
    simp at h
  | mapP e' t' =>
    have h := h.1
    rw [h1] at h
    simp at h

theorem trod_int_inv {T fuel : Nat} {k : IntKind} {cs : List Value} {d : DataW H} {ps : List MemPlace} {sp : Nat → Bool} {hd : Bool} (hT : P.underlying T = some (.int k)) (h : DataW.trod enc P w 0 sp hd fuel T cs = some (d, ps)) :
    ∃ n, cs = [.int k n] ∧ (Lit.int k n).wf = true ∧ d = .lit (.int k n) ∧ ps = [] := by
  cases fuel with
  | zero => simp [DataW.trod] at h
  | succ n =>
    unfold DataW.trod at h
    rw [hT] at h
    split at h <;> simp_all

theorem trod_bool_inv {T fuel : Nat} {cs : List Value} {d : DataW H} {ps : List MemPlace} {sp : Nat → Bool} {hd : Bool} (hT : P.underlying T = some .bool) (h : DataW.trod enc P w 0 sp hd fuel T cs = some (d, ps)) :
    ∃ b, cs = [.bool b] ∧ d = .lit (.bool b) ∧ ps = [] := by
  cases fuel with
  | zero => simp [DataW.trod] at h
  | succ n =>
    unfold DataW.trod at h
    rw [hT] at h
    cases cs with
    | nil => simp at h
    | cons v r =>
      cases r with
      | cons u r => cases v <;> simp at h
      | nil =>
        cases v <;> simp at h
        rename_i b
        exact ⟨b, rfl, h.1.symm, h.2⟩

theorem trod_str_inv {T fuel : Nat} {cs : List Value} {d : DataW H} {ps : List MemPlace} {sp : Nat → Bool} {hd : Bool} (hT : P.underlying T = some .string) (h : DataW.trod enc P w 0 sp hd fuel T cs = some (d, ps)) :
    ∃ s : ByteArray, cs = [.string s] ∧ s.size ≤ maxLen ∧ d = .lit (.string s.data.toList) ∧ ps = [] := by
  cases fuel with
  | zero => simp [DataW.trod] at h
  | succ n =>
    unfold DataW.trod at h
    rw [hT] at h
    split at h <;> simp_all

theorem pair_facts {T : Nat} {ka kb : IntKind} (hB : teB P T (.struct [.int ka, .int kb]) = true) : ∃ f0 f1 : Field, P.underlying T = some (.struct #[f0, f1]) ∧ f0.offset = 0 ∧ f1.offset = 1 ∧ P.cellsOf T = 2 ∧ P.cellsOf f0.type = 1 ∧ P.cellsOf f1.type = 1 ∧ P.underlying f0.type = some (.int ka) ∧ P.underlying f1.type = some (.int kb) := by
  obtain ⟨f0, f1, hu, o0, o1, ⟨i0, p0, p1⟩, ⟨i1, p2, p3⟩, hI⟩ := struct2_te hB
  obtain ⟨it, z, g1, g2, _⟩ := (infoB_ok hI).info
  simp only [teB, Bool.and_eq_true] at hB
  obtain ⟨_, h4⟩ := hB
  have h4 : eqB P T [.int ka, .int kb] = true := by simpa [Ty.isInt] using h4
  unfold eqB at h4
  rw [hu] at h4
  simp only [intF, Bool.and_eq_true] at h4
  obtain ⟨⟨⟨⟨_, u0⟩, ⟨_, u1⟩, _⟩, _⟩, _⟩ := h4
  have key : ∀ (f : Field) (k : IntKind), (match P.underlying f.type with | some (.int k') => decide (k = k') | _ => false) = true → P.underlying f.type = some (.int k) := by
    intro f k hf
    split at hf
    · rename_i k' e; rw [e]; simp at hf; rw [hf]
    · cases hf
  exact ⟨f0, f1, hu, o0, o1, by simp [Program.cellsOf, g1, g2, Ty.width], by simp [Program.cellsOf, p0, p1, Ty.width], by simp [Program.cellsOf, p2, p3, Ty.width], key f0 ka u0, key f1 kb u1⟩

theorem trod_pair {T : Nat} {ka kb : IntKind} (hB : teB P T (.struct [.int ka, .int kb]) = true) {fuel : Nat} {cs : List Value} {d : DataW H} {ps : List MemPlace} {sp : Nat → Bool} {hd : Bool} (h : DataW.trod enc P w 0 sp hd fuel T cs = some (d, ps)) :
    ∃ m n, cs = [.int ka m, .int kb n] ∧ (Lit.int ka m).wf = true ∧ (Lit.int kb n).wf = true ∧ d = .agg [.lit (.int ka m), .lit (.int kb n)] ∧ ps = [] := by
  obtain ⟨f0, f1, hu, o0, o1, c, c0, c1, u0, u1⟩ := pair_facts hB
  cases fuel with
  | zero => simp [DataW.trod] at h
  | succ k =>
    unfold DataW.trod at h
    simp only [hu] at h
    split at h
    · rename_i hl
      rw [c] at hl
      obtain ⟨x, y, rfl⟩ : ∃ x y, cs = [x, y] := by
        match cs, hl with
        | [x, y], _ => exact ⟨x, y, rfl⟩
      simp only [List.mapM_cons, List.mapM_nil, o0, o1, c0, c1, List.drop_zero, List.take_succ_cons, List.take_zero, List.drop_succ_cons, Option.bind_eq_bind, Option.pure_def] at h
      cases h0 : DataW.trod enc P w 0 sp hd k f0.type [x] with
      | none => rw [h0] at h; simp at h
      | some q0 =>
        cases h1 : DataW.trod enc P w 0 sp hd k f1.type [y] with
        | none => rw [h0, h1] at h; simp at h
        | some q1 =>
          obtain ⟨e0, l0⟩ := q0
          obtain ⟨e1, l1⟩ := q1
          obtain ⟨m, q1, q2, rfl, rfl⟩ := trod_int_inv u0 h0
          obtain ⟨n, q3, q4, rfl, rfl⟩ := trod_int_inv u1 h1
          rw [h0, h1] at h
          simp only [List.cons.injEq, and_true] at q1 q3
          subst q1 q3
          simp at h
          exact ⟨m, n, rfl, q2, q4, h.1.symm, h.2⟩
    · cases h

theorem trod_pair_mk {T : Nat} {ka kb : IntKind} (hB : teB P T (.struct [.int ka, .int kb]) = true) {m n : Int} (hm : (Lit.int ka m).wf = true) (hn : (Lit.int kb n).wf = true) {sp : Nat → Bool} {hd : Bool} :
    DataW.trod enc P w 0 sp hd 2 T [.int ka m, .int kb n] = some (.agg [.lit (.int ka m), .lit (.int kb n)], []) := by
  obtain ⟨f0, f1, hu, o0, o1, c, c0, c1, u0, u1⟩ := pair_facts hB
  unfold DataW.trod
  simp only [hu]
  rw [if_pos (by rw [c]; rfl)]
  simp only [List.mapM_cons, List.mapM_nil, o0, o1, c0, c1, List.drop_zero, List.take_succ_cons, List.take_zero, List.drop_succ_cons, Option.bind_eq_bind, Option.pure_def]
  rw [show (1 : Nat) = 0 + 1 from rfl, trod_int_mk 0 u0 hm, trod_int_mk 0 u1 hn]
  rfl

theorem trod_open (htt : ttB P tt = true) : ∀ (t : Ty) (T fuel : Nat) (cs : List Value) (d : DataW H) (ps : List MemPlace), tyOK tt T t = true → DataW.trod enc P w 0 (fun _ => true) true fuel T cs = some (d, ps) →
    ∃ x, RO w (oldS w) t x cs ∧ Rd t x d ∧ ∀ (w' : World) (sp : Nat → Bool), (∀ n, n < w.heap.size → w'.heap[n]? = w.heap[n]?) → (∀ p ∈ ps, sp p.block = true) → ∃ n, DataW.trod enc P w' 0 sp true n T cs = some (d, ps)
  | .int k, T, fuel, cs, d, ps, hty, h => by
    have hT := tyOK_int htt hty
    obtain ⟨n, rfl, hw, rfl, rfl⟩ := trod_int_inv hT h
    exact ⟨n, rfl, ⟨rfl, hw⟩, fun w' sp _ _ => ⟨1, trod_int_mk 0 hT hw⟩⟩
  | .bool, T, fuel, cs, d, ps, hty, h => by
    have hT := tyOK_bool htt hty
    obtain ⟨b, rfl, rfl, rfl⟩ := trod_bool_inv hT h
    exact ⟨b, rfl, rfl, fun w' sp _ _ => ⟨1, by unfold DataW.trod; rw [hT]⟩⟩
  | .str, T, fuel, cs, d, ps, hty, h => by
    have hT := tyOK_str htt hty
    obtain ⟨s, rfl, hs, rfl, rfl⟩ := trod_str_inv hT h
    exact ⟨s, rfl, ⟨rfl, hs⟩, fun w' sp _ _ => ⟨1, by unfold DataW.trod; rw [hT]; simp [hs]⟩⟩
  | .list e t, T, fuel, cs, d, ps, hty, h => by
    obtain ⟨hT, hc, hty'⟩ := tyOK_list htt hty
    rcases open_slice hT h with ⟨rfl, hx⟩ | ⟨a, len, cap, m, n, D, Pl, rfl, hb, hl, hm, hmm, hx, hel⟩
    · simp only [Prod.mk.injEq] at hx
      obtain ⟨rfl, rfl⟩ := hx
      refine ⟨[], ⟨none, 0, rfl, Nat.le_refl _, Nat.zero_le _, fun h => absurd rfl h⟩, .inl ⟨rfl, rfl⟩, fun w' sp _ _ => ⟨1, by simp [DataW.trod, hT]⟩⟩
    · simp only [if_true] at hmm
      have hmm := hmm.symm
      subst hmm
      simp only [Prod.mk.injEq] at hx
      obtain ⟨rfl, rfl⟩ := hx
      rw [hc] at hel
      have hw := t.width_pos
      have ih : ∀ i, ∃ q : List Value × t.den, i < cap → w.cells? 0 (a.add (i * t.width)) t.width = some q.1 ∧ RO w (oldS w) t q.2 q.1 ∧ Rd t q.2 (D i) ∧ ∀ (w' : World) (sp : Nat → Bool), (∀ n, n < w.heap.size → w'.heap[n]? = w.heap[n]?) → (∀ p ∈ Pl i, sp p.block = true) →
          ∃ n, DataW.trod enc P w' 0 sp true n e q.1 = some (D i, Pl i) := fun i => by
        by_cases hi : i < cap
        · obtain ⟨cs', h1, h2⟩ := hel i hi
          obtain ⟨x, h3, h4, h5⟩ := trod_open htt t e n cs' (D i) (Pl i) hty' h2
          exact ⟨(cs', x), fun _ => ⟨h1, h3, h4, h5⟩⟩
        · exact ⟨([], t.dflt), fun h => absurd h hi⟩
      let G : Nat → List Value × t.den := fun i => (ih i).choose
      have hG : ∀ i, i < cap → w.cells? 0 (a.add (i * t.width)) t.width = some (G i).1 ∧ RO w (oldS w) t (G i).2 (G i).1 ∧ Rd t (G i).2 (D i) ∧ ∀ (w' : World) (sp : Nat → Bool), (∀ n, n < w.heap.size → w'.heap[n]? = w.heap[n]?) → (∀ p ∈ Pl i, sp p.block = true) →
          ∃ n, DataW.trod enc P w' 0 sp true n e (G i).1 = some (D i, Pl i) := fun i hi => (ih i).choose_spec hi
      have hgd : ∀ i, i < len → ((List.range len).map fun i => (G i).2).getD i t.dflt = (G i).2 := fun i hi => by
        simp [List.getD_eq_getElem?_getD, hi]
      refine ⟨(List.range len).map fun i => (G i).2, ⟨some a, cap, by simp, by simpa using hl, hm, fun hne => ?_⟩, .inr ⟨_, _, rfl, by simp, fun i d hd => ?_⟩, fun w' sp hw' hsp => ?_⟩
      · have hlen : 0 < len := by
          rcases Nat.eq_zero_or_pos len with h | h
          · subst h; simp at hne
          · exact h
        obtain ⟨b, off, spot⟩ := a
        have h0 := (hG 0 (by omega)).1
        have hspot : spot = none := by
          obtain ⟨_, hl0, hcell⟩ := World.cells?_some h0
          have h1 := hcell 0 hw
          simp only [Nat.zero_mul, Addr.add, if_true] at h1
          rw [List.getElem?_eq_getElem (by omega)] at h1
          unfold World.cell? at h1
          split at h1
          · split at h1
            · cases h1
            · rename_i hsp; simpa using hsp
          · cases h1
        subst hspot
        have key : ∀ i, i < cap → (G i).1.length = t.width ∧ ∃ arr E fr, w.heap[b]? = some (.cells arr E fr) ∧ off + i * t.width + t.width ≤ arr.size ∧ cellsAt arr (off + i * t.width) t.width = (G i).1 := fun i hi => by
          have h := (hG i hi).1
          rw [Addr.add_mid] at h
          exact cells_some h hw
        obtain ⟨_, arr, E, fr, hb0, _, _⟩ := key 0 (by omega)
        have key' : ∀ i, i < cap → off + i * t.width + t.width ≤ arr.size ∧ cellsAt arr (off + i * t.width) t.width = (G i).1 := fun i hi => by
          obtain ⟨_, arr', E', fr', hb', h1, h2⟩ := key i hi
          rw [hb0] at hb'
          simp only [Option.some.injEq, Obj.cells.injEq] at hb'
          obtain ⟨rfl, _, _⟩ := hb'
          exact ⟨h1, h2⟩
        refine ⟨b, off, arr, E, fr, rfl, (Array.getElem?_eq_some_iff.1 hb0).1, hb0, ?_, fun i hi => ?_⟩
        · simp only [List.length_map, List.length_range]
          have h1 := (key' (len - 1) (by omega)).1
          have h2 : (len - 1) * t.width + t.width = len * t.width := by rw [← Nat.succ_mul]; congr 1; omega
          omega
        · have hi' : i < len := by simpa using hi
          rw [hgd i hi', (key' i (by omega)).2]
          exact (hG i (by omega)).2.1
      · simp only [List.getElem?_map] at hd
        have hi' : i < len := by
          by_cases h : i < len
          · exact h
          · rw [List.getElem?_eq_none (by simpa using h)] at hd; cases hd
        rw [List.getElem?_range hi'] at hd
        simp only [Option.map_some, Option.some.injEq] at hd
        subst hd
        rw [hgd i hi']
        exact (hG i (by omega)).2.2.1
      · have hel' : ∀ i, i < cap → ∃ cs n, w'.cells? 0 (a.add (i * P.cellsOf e)) (P.cellsOf e) = some cs ∧ DataW.trod enc P w' 0 sp true n e cs = some (D i, Pl i) := fun i hi => by
          obtain ⟨h1, _, _, h2⟩ := hG i hi
          obtain ⟨n', h3⟩ := h2 w' sp hw' fun p hp => hsp p (List.mem_append_right _ (List.mem_flatMap.2 ⟨i, List.mem_range.2 hi, hp⟩))
          refine ⟨(G i).1, n', ?_, h3⟩
          rw [hc]
          have hblk := World.cells?_block h1 hw
          rw [← h1]
          unfold World.cells?
          rw [if_pos (Nat.zero_le _), if_pos (Nat.zero_le _)]
          congr 1
          funext j
          have hbj : ((a.add (i * t.width)).add j).block = (a.add (i * t.width)).block := by unfold Addr.add; split <;> rfl
          simp only [World.cell?]
          rw [hbj, hw' _ hblk]
        by_cases hcap : cap = 0
        · subst hcap
          have hl0 : len = 0 := by omega
          subst hl0
          by_cases hs : sp a.block = true
          · exact shut_slice_whole_cells hT (Nat.zero_le _) (Nat.le_refl _) hm hs D Pl hel'
          · obtain ⟨n', hn'⟩ := shut_slice_cells (len := 0) (cap := 0) hT (Nat.zero_le _) (Nat.le_refl _) hm (by simpa using hs) D Pl (fun i hi => hel' i hi)
            exact ⟨n', by simpa using hn'⟩
        · have hs : sp a.block = true := by
            refine hsp (.cell a.block (a.off + 0)) (List.mem_append_left _ ?_)
            simp only [MemPlace.row, List.mem_map, List.mem_range]
            exact ⟨0, by rw [hc]; exact Nat.mul_pos (by omega) hw, rfl⟩
          exact shut_slice_whole_cells hT (Nat.zero_le _) hl hm hs D Pl hel'
  | .raw, T, fuel, cs, d, ps, hty, h => by simp [tyOK] at hty
  | .fn _ _, T, fuel, cs, d, ps, hty, h => by simp [tyOK] at hty
  | .row _ _, T, fuel, cs, d, ps, hty, h => by simp [tyOK] at hty
  | .ro _ _, T, fuel, cs, d, ps, hty, h => by simp [tyOK] at hty
  | .func, T, fuel, cs, d, ps, hty, h => by simp [tyOK] at hty
  | .prod a b, T, fuel, cs, d, ps, hty, h => by
    obtain ⟨ka, kb, rfl, rfl, hl⟩ := tyOK_prod hty
    have hB := ttB_get htt hl
    obtain ⟨m, n, rfl, hm, hn, rfl, rfl⟩ := trod_pair hB h
    exact ⟨(m, n), ⟨[.int ka m], [.int kb n], rfl, rfl, rfl⟩, ⟨_, _, rfl, ⟨rfl, hm⟩, ⟨rfl, hn⟩⟩, fun w' sp _ _ => ⟨2, trod_pair_mk hB hm hn⟩⟩

end
end Fer

namespace Fer
open Go Go.ChangeShapes Go.WideShapes Go.RowKit

inductive RdAll {H : Type} : List TV → List (DataW H) → Prop
  | nil : RdAll [] []
  | cons {v d vs ds} (h : Rd v.t v.x d) (hl : RdAll vs ds) : RdAll (v :: vs) (d :: ds)

def tysOK (tt : List (Nat × TE)) : List Nat → List Ty → Bool
  | [], [] => true
  | T :: Ts, t :: ts => (tyOK tt T t && !t.isProd) && tysOK tt Ts ts
  | _, _ => false

section
variable {H : Type} {enc : TypeId × Value → H} {P : Program} {tt : List (Nat × TE)} {w : World}

theorem okWide_cells (htt : ttB P tt = true) {T base : Nat} {t : Ty} (h : tyOK tt T t = true) (hp : t.isProd = false) {v : Value} (hv : Value.okWide P w .any base T v) : v.cells.toList = [v] ∧ pack t [v] = v := by
  cases t with
  | int k => have hT := tyOK_int htt h; simp only [Value.okWide, hT, Cell.okWide] at hv; cases v <;> simp_all [Cell.ok, Value.cells, pack]
  | bool => have hT := tyOK_bool htt h; simp only [Value.okWide, hT, Cell.okWide] at hv; cases v <;> simp_all [Cell.ok, Value.cells, pack]
  | str => have hT := tyOK_str htt h; simp only [Value.okWide, hT, Cell.okWide] at hv; cases v <;> simp_all [Cell.ok, Value.cells, pack]
  | list e t =>
    obtain ⟨hT, _, _⟩ := tyOK_list htt h
    obtain ⟨a, len, cap, rfl⟩ := okWide_slice hT hv
    exact ⟨rfl, rfl⟩
  | raw => simp [tyOK] at h
  | fn => simp [tyOK] at h
  | row => simp [tyOK] at h
  | ro => simp [tyOK] at h
  | func => simp [tyOK] at h
  | prod a b => simp [Ty.isProd] at hp

theorem args_open (htt : ttB P tt = true) : ∀ (Ts : List Nat) (ts : List Ty) (vs : List Value) (ds : List (DataW H)) (ps : List MemPlace), tysOK tt Ts ts = true → DataW.TrodAll enc P w 0 (fun _ => true) true Ts vs ds ps →
    (∀ (j : Nat) T v, Ts[j]? = some T → vs[j]? = some v → Value.okWide P w .any 0 T v) →
    ∃ tvs, Args w (oldS w) ts tvs vs ∧ RdAll tvs ds ∧ ∀ (w' : World) (sp : Nat → Bool), (∀ n, n < w.heap.size → w'.heap[n]? = w.heap[n]?) → (∀ p ∈ ps, sp p.block = true) → DataW.TrodAll enc P w' 0 sp true Ts vs ds ps
  | [], ts, vs, ds, ps, hty, h, _ => by
    obtain ⟨rfl, rfl, rfl⟩ := trodAll_nil h
    cases ts with
    | nil => exact ⟨[], .nil, .nil, fun _ _ _ _ => trodAll_mk0⟩
    | cons => simp [tysOK] at hty
  | T :: Ts, ts, vs, ds, ps, hty, h, hv => by
    obtain ⟨v, vs, d, ds, p, q, rfl, rfl, rfl, h1, h2⟩ := trodAll_cons h
    cases ts with
    | nil => simp [tysOK] at hty
    | cons t ts =>
      simp only [tysOK, Bool.and_eq_true, Bool.not_eq_true'] at hty
      obtain ⟨fuel, h1⟩ := h1
      obtain ⟨e1, e2⟩ := okWide_cells htt hty.1.1 hty.1.2 (hv 0 T v rfl rfl)
      rw [e1] at h1
      obtain ⟨x, r1, r2, r3⟩ := trod_open htt t T fuel [v] d p hty.1.1 h1
      obtain ⟨tvs, a1, a2, a3⟩ := args_open htt Ts ts vs ds q hty.2 h2 (fun j T' v' hj hj' => hv (j + 1) T' v' (by simpa using hj) (by simpa using hj'))
      refine ⟨⟨t, x⟩ :: tvs, ?_, .cons r2 a2, fun w' sp hw' hsp => ?_⟩
      · have := Args.cons r1 a1; rwa [e2] at this
      · obtain ⟨n, hn⟩ := r3 w' sp hw' fun y hy => hsp y (List.mem_append_left _ hy)
        exact trodAll_cons_mk ⟨n, by rw [e1]; exact hn⟩ (a3 w' sp hw' fun y hy => hsp y (List.mem_append_right _ hy))

theorem trodAll_len {base : Nat} {sp : Nat → Bool} {b : Bool} : ∀ {Ts : List Nat} {vs : List Value} {ds : List (DataW H)} {ps : List MemPlace}, DataW.TrodAll enc P w base sp b Ts vs ds ps → ds.length = Ts.length
  | [], _, _, _, h => by obtain ⟨_, rfl, _⟩ := trodAll_nil h; rfl
  | T :: Ts, _, _, _, h => by
    obtain ⟨v, vs, d, ds, p, q, _, rfl, _, _, h2⟩ := trodAll_cons h
    simp [trodAll_len h2]

theorem Grew.kept {w w' : World} (g : Grew w w') (may : MemPlace → Prop) : w.keptBut w' may := by
  refine ⟨g.os, g.output.out, fun i hi => ?_⟩
  rw [g.old i hi]
  have := (World.keptBut_refl w may).2.2 i hi
  exact this

theorem post_of_same_old {f : Func} {s : ChangeSpec} {apart fresh handsOn again : Bool} {W W' : World} {args : Array Value} {v : Value} {ds gs : List (DataW H)} {before pa pv : List MemPlace}
    (hW : DataW.Whole enc P f.params.toList s.vars apart W args.toList ds gs before)
    (hres : ∀ (b : Nat) (sp : Nat → Bool) (hd : Bool), DataW.TrodAll enc P W' b sp hd f.resultTypes.toList (v.resultList f.resultTypes.size) (s.fn H (ds ++ gs)).results [])
    (hargs : ∀ sp : Nat → Bool, (∀ p ∈ before, sp p.block = true) → DataW.TrodAll enc P W' 0 sp true f.params.toList args.toList (s.fn H (ds ++ gs)).args pa)
    (hvars : ∀ sp : Nat → Bool, (∀ p ∈ before, sp p.block = true) → DataW.TrodVars enc P W' sp s.vars (s.fn H (ds ++ gs)).vars pv)
    (hps : before = pa ++ pv) (hk : W.keptBut W' (· ∈ before)) (hfz : ∀ a, a.block < W.heap.size → W'.frozen? a = W.frozen? a)
    (hok : ∀ (j : Nat) (t : TypeId) (r : Value), f.resultTypes[j]? = some t → (v.resultList f.resultTypes.size)[j]? = some r → Value.okWide P W' .any 0 t r) :
    s.post enc P f apart fresh handsOn again W args v W' := by
  have hlt := hW.lt
  have hold : ∀ p ∈ before, (fun b => decide (b < W.heap.size)) p.block = true := fun p hp => by simpa using hlt p hp
  refine ⟨ds, gs, before, [], pa, pv, hW, hres _ _ _, hargs _ hold, hvars _ hold, World.keptBut_mono (fun p hp => ⟨hp, ?_⟩) hk, fun _ => ?_⟩
  · rw [hps, List.mem_append] at hp
    exact Or.inr hp
  · obtain ⟨_, _, _, _, _, hz, hn⟩ := hW
    refine ⟨hok, _, _, ([] ++ pa) ++ pv, ⟨[] ++ pa, pv, trodAll_append (hargs _ (fun _ _ => rfl)) (hres _ _ _), hvars _ (fun _ _ => rfl), rfl, ?_, ?_⟩, ?_⟩
    · intro b off hp
      have hb : MemPlace.cell b off ∈ before := by rw [hps]; simpa using hp
      rw [hfz _ (hlt _ hb)]
      exact hz b off hb
    · intro ha
      have := hn ha
      rw [hps] at this
      simpa using this
    · intro p hp _
      rw [hps]
      simpa using hp

theorem law_calls3 {f : Nat} {fn : Func} {sp : Spec} {T : Nat} (htt : ttB P tt = true) (htys : tysOK tt fn.params.toList sp.ps = true) (hrt : fn.resultTypes = #[T]) (hT : P.underlying T = some .bool)
    {s : ChangeSpec} (hvars : s.vars = []) {W : World} (hOK : FnAt P f sp W (oldS W)) {args : Array Value} {ds gs : List (DataW H)} {before : List MemPlace} (hspec : s.fn H ds = { results := [.lit (.bool true)], args := ds })
    (hval : ∀ (j : Nat) t v, fn.params[j]? = some t → args[j]? = some v → Value.okWide P W .any 0 t v)
    (hW : DataW.Whole enc P fn.params.toList s.vars false W args.toList ds gs before)
    (hwp : ∀ tvs : List TV, tvs.map (·.t) = sp.ps → RdAll tvs ds → sp.wp tvs fun outs => outs = [⟨.bool, true⟩]) {fresh handsOn again : Bool} :
    Calls P f args W fun e W' => ∃ v, e = .returned v ∧ s.post enc P fn false fresh handsOn again W args v W' := by
  have hW' := hW
  rw [hvars] at hW
  obtain ⟨p, q, hA, hV, rfl, hfz, hnd⟩ := hW
  obtain ⟨rfl, rfl⟩ := trodVars_none hV
  obtain ⟨tvs, a1, a2, a3⟩ := args_open htt fn.params.toList sp.ps args.toList ds p htys hA (fun j T v h1 h2 => hval j T v (by simpa using h1) (by simpa using h2))
  have hc := hOK.2 tvs _ (hwp tvs (args_get a1).2.1 a2) W args.toList (fun _ _ => rfl) a1
  have hargs : args.toList.toArray = args := Array.toArray_toList
  rw [hargs] at hc
  refine hc.mono fun e W' he => ?_
  cases e with
  | panicked => exact he.elim
  | outgrown => exact he.elim
  | returned v =>
    obtain ⟨g, outs, us, F, rfl, rfl, hR⟩ := he
    cases hR with
    | cons h1 hl hd =>
      cases hl
      obtain ⟨_, _, cs, rfl, hb⟩ := h1
      simp only [RO] at hb
      subst hb
      have hv : valOf [pack Ty.bool [Value.bool true]] = .bool true := rfl
      rw [hv]
      have hspec' : s.fn H (ds ++ []) = { results := [.lit (.bool true)], args := ds } := by rw [List.append_nil]; exact hspec
      refine ⟨_, rfl, post_of_same_old (pa := p) (pv := []) hW' (fun b sp' hd' => ?_) (fun sp' hsp => ?_) (fun _ _ => ?_) rfl (g.kept _) (fun a ha => g.output.fz a trivial ha) (fun j T' r hj hr => ?_)⟩
      · rw [hrt, hspec']
        exact trodAll_cons_mk (p := []) (p' := []) (shut_bool hT true) trodAll_mk0
      · rw [hspec']
        exact a3 W' sp' g.old fun y hy => hsp y (by simpa using hy)
      · rw [hspec', hvars]; rfl
      · rw [hrt] at hj hr
        cases j with
        | zero =>
          simp [Value.resultList] at hj hr
          subst hj; subst hr
          exact okWide_bool_mk hT _
        | succ j => simp at hj

theorem law_calls2 {f : Nat} {fn : Func} {sp : Spec} {T : Nat} (htt : ttB P tt = true) (hOK : FnOK P f sp) (htys : tysOK tt fn.params.toList sp.ps = true) (hrt : fn.resultTypes = #[T]) (hT : P.underlying T = some .bool)
    {s : ChangeSpec} (hvars : s.vars = []) {W : World} {args : Array Value} {ds gs : List (DataW H)} {before : List MemPlace} (hspec : s.fn H ds = { results := [.lit (.bool true)], args := ds })
    (hval : ∀ (j : Nat) t v, fn.params[j]? = some t → args[j]? = some v → Value.okWide P W .any 0 t v)
    (hW : DataW.Whole enc P fn.params.toList s.vars false W args.toList ds gs before)
    (hwp : ∀ tvs : List TV, tvs.map (·.t) = sp.ps → RdAll tvs ds → sp.wp tvs fun outs => outs = [⟨.bool, true⟩]) {fresh handsOn again : Bool} :
    Calls P f args W fun e W' => ∃ v, e = .returned v ∧ s.post enc P fn false fresh handsOn again W args v W' :=
  law_calls3 htt htys hrt hT hvars hOK.at hspec hval hW hwp

theorem law_calls {f : Nat} {fn : Func} {sp : Spec} {T : Nat} (htt : ttB P tt = true) (hOK : FnOK P f sp) (htys : tysOK tt fn.params.toList sp.ps = true) (hrt : fn.resultTypes = #[T]) (hT : P.underlying T = some .bool)
    {s : ChangeSpec} (hvars : s.vars = []) {W : World} {args : Array Value} {ds gs : List (DataW H)} {before : List MemPlace} (hspec : s.fn H ds = { results := [.lit (.bool true)], args := ds })
    (hval : ∀ (j : Nat) t v, fn.params[j]? = some t → args[j]? = some v → Value.okWide P W .any 0 t v)
    (hW : DataW.Whole enc P fn.params.toList s.vars false W args.toList ds gs before)
    (hwp : ∀ tvs, RdAll tvs ds → sp.wp tvs fun outs => outs = [⟨.bool, true⟩]) {fresh handsOn again : Bool} :
    Calls P f args W fun e W' => ∃ v, e = .returned v ∧ s.post enc P fn false fresh handsOn again W args v W' :=
  law_calls2 htt hOK htys hrt hT hvars hspec hval hW fun tvs _ h => hwp tvs h

end
end Fer
