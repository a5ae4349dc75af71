import Derived.Test.YtjocjlohdapmaaaFerQ
import Derived.Laws.Cover3
import Derived.ProofKit
import Derived.Deep.Slices
import Derived.OpenShut
import Derived.Shelf.GgSortFunc.RowK
import Derived.Shelf.SlSortCmp.NoneTotal
import Derived.Test.YtjocjlohdapmaaaFerH
namespace Fer
open Go

section
variable {P : Program} {C : Ctx} {w0 : World} {S0 : Nat → Prop} {dr : Bool} {pc : Pins} {s : XS} {a : Act} {w w' : World} {S : Nat → Prop} {pl : Nat → PL}

theorem dOK_lt {n : Nat} {d : Option Nat} (h : dOK n d = true) : ∀ t, d = some t → t < n := by
  rintro t rfl; simpa [dOK] using h

theorem RelAt.pin {N : Nat} (R : RelAt w0 S0 N dr pc s a w S pl) {i b : Nat} {q : Option Nat} (hb : b < w.heap.size) (hq : ∀ r rt, s.root r = some rt → (pl r).F b → q = some r) :
    RelAt w0 S0 N dr (addPin i b pc) (s.pin dr i q) a w S pl := by
  cases dr with
  | false => exact { R with pins := (fun h => by cases h) }
  | true =>
    have R1 := R.pinned (l := (i, q) :: s.pins) fun x hx => List.mem_cons_of_mem _ hx
    refine { R1 with pins := fun _ i' b' hp => ?_ }
    rcases hp with ⟨rfl, rfl⟩ | hp
    · exact ⟨q, List.mem_cons_self, hb, hq⟩
    · exact R1.pins rfl i' b' hp

theorem nil_key {T : Nat → Prop} {e : Nat} {t : Ty} {l : List t.den} {v : Value} (hro : RO w T (.list e t) l [v]) : ∃ ad cap, v = .slice ad l.length cap ∧ (ad.isNone = true → l = []) := by
  obtain ⟨ad, cap, e1, e2, e3, e4⟩ := hro
  simp only [List.cons.injEq, and_true] at e1
  refine ⟨ad, cap, e1, fun hn => ?_⟩
  cases ad with
  | some _ => cases hn
  | none =>
    refine Classical.byContradiction fun hne => ?_
    obtain ⟨_, _, _, _, _, e, _⟩ := e4 hne; cases e

theorem nilCmp_ok {N : Nat} (htt : ttB P C.tt = true) (R : RelAt w0 S0 N dr pc s a w S pl) {o : Oper} {q : Prop} {pos : Bool} (h : nilCmp C.tt s o = some (q, pos)) :
    ∃ b : Bool, okind o.op = 0 ∧ (∀ w', (execOp a.eval o).run P w' = .ok (.value (.bool b)) w') ∧ (b = pos → q) := by
  obtain ⟨dst, op, type, pos', after, guard⟩ := o
  simp only [nilCmp] at h
  split at h
  · rename_i op T x u
    split at h
    · rename_i e t by' e' t' l hte hx
      obtain ⟨hu, _⟩ := slice_te (ttB_get htt hte)
      have hx1 := (R.ev hx).1
      generalize hvx : a.eval x = vx at hx1
      obtain ⟨ad, cap, hv, hro, _, _⟩ := hx1.list
      subst hv
      have key : ad.isNone = true → l = [] := fun hn => by
        cases ad with
        | some _ => cases hn
        | none =>
          obtain ⟨ad', cap', e1, e2, e3, e4⟩ := hro
          simp only [List.cons.injEq, Value.slice.injEq, and_true] at e1
          obtain ⟨rfl, _, rfl⟩ := e1
          by_cases hne : l = []
          · exact hne
          · obtain ⟨_, _, _, _, _, e, _⟩ := e4 hne; cases e
      split at h
      · cases h
        refine ⟨ad.isNone, rfl, fun w' => ?_, key⟩
        have hv' : a.eval x = .slice ad l.length cap := hvx
        have e2 : a.eval (.const (.slice none 0 0)) = .slice none 0 0 := rfl
        refine exec_value (P := P) rfl (fun w' => ?_) w'
        rw [hv', e2]
        simp [eqGuard, binOp, run_equal_slice_nil w' T e ad l.length cap hu]
      · cases h
        refine ⟨!ad.isNone, rfl, fun w' => ?_, fun hb => key (by simpa using hb)⟩
        have hv' : a.eval x = .slice ad l.length cap := hvx
        have e2 : a.eval (.const (.slice none 0 0)) = .slice none 0 0 := rfl
        refine exec_value (P := P) rfl (fun w' => ?_) w'
        rw [hv', e2]
        simp [eqGuard, binOp, run_equal_slice_nil w' T e ad l.length cap hu]
      · cases h
    · rename_i e t by' ad n cap hte hx
      obtain ⟨hu, _⟩ := slice_te (ttB_get htt hte)
      obtain ⟨cs, hcs, hro, _⟩ := (R.ev hx).1
      subst hro
      have hv' : a.eval x = .slice (some ad) n cap := hcs
      have e2 : a.eval (.const (.slice none 0 0)) = .slice none 0 0 := rfl
      split at h
      · cases h
        refine ⟨false, rfl, fun w' => exec_value (P := P) rfl (fun w' => ?_) w', fun h => by cases h⟩
        rw [hv', e2]
        simp [eqGuard, binOp, run_equal_slice_nil w' T e (some ad) n cap hu]
      · cases h
        refine ⟨true, rfl, fun w' => exec_value (P := P) rfl (fun w' => ?_) w', fun h => by cases h⟩
        rw [hv', e2]
        simp [eqGuard, binOp, run_equal_slice_nil w' T e (some ad) n cap hu]
      · cases h
    · rename_i e t by' n cap hte hx
      obtain ⟨hu, _⟩ := slice_te (ttB_get htt hte)
      obtain ⟨cs, hcs, hro, _⟩ := (R.ev hx).1
      subst hro
      have hv' : a.eval x = .slice none n cap := hcs
      have e2 : a.eval (.const (.slice none 0 0)) = .slice none 0 0 := rfl
      split at h
      · cases h
        refine ⟨true, rfl, fun w' => exec_value (P := P) rfl (fun w' => ?_) w', fun h => by cases h⟩
        rw [hv', e2]
        simp [eqGuard, binOp, run_equal_slice_nil w' T e none n cap hu]
      · cases h
        refine ⟨false, rfl, fun w' => exec_value (P := P) rfl (fun w' => ?_) w', fun h => by cases h⟩
        rw [hv', e2]
        simp [eqGuard, binOp, run_equal_slice_nil w' T e none n cap hu]
      · cases h
    · rename_i e t by' r hte hx
      obtain ⟨hu, _⟩ := slice_te (ttB_get htt hte)
      split at h
      · rename_i rt hr
        have hroot : ∀ hh : rt.h = none, ∃ ad cap, a.eval x = .slice ad rt.x.length cap ∧ (ad.isNone = true → rt.x = []) := fun hh => by
          obtain ⟨hv, H⟩ := R.own r rt hr
          have hv0 : a.eval x = hv := by
            have h1 : a.eval x = hdr (atCT [] rt.ty (pl r).ct) (rt.at []).len := (R.ev hx).1 rt hr
            rw [h1]; exact (H.hdr (by rw [hh]; simp)).1.symm
          rw [hh] at H
          rw [hv0]
          exact nil_key (H.freeze (S' := fun n => S n ∨ (pl r).F n) (fun b hb => .inl hb) fun b hb => .inr hb)
        split at h
        · rename_i hh
          cases h
          obtain ⟨ad, cap, hv', key⟩ := hroot hh
          refine ⟨ad.isNone, rfl, fun w' => ?_, key⟩
          have e2 : a.eval (.const (.slice none 0 0)) = .slice none 0 0 := rfl
          refine exec_value (P := P) rfl (fun w' => ?_) w'
          rw [hv', e2]
          simp [eqGuard, binOp, run_equal_slice_nil w' T e ad rt.x.length cap hu]
        · rename_i hh
          cases h
          obtain ⟨ad, cap, hv', key⟩ := hroot hh
          refine ⟨!ad.isNone, rfl, fun w' => ?_, fun hb => key (by simpa using hb)⟩
          have e2 : a.eval (.const (.slice none 0 0)) = .slice none 0 0 := rfl
          refine exec_value (P := P) rfl (fun w' => ?_) w'
          rw [hv', e2]
          simp [eqGuard, binOp, run_equal_slice_nil w' T e ad rt.x.length cap hu]
        · cases h
      · cases h
    · cases h
  · cases h

theorem ev_slot {x : Operand} {b : Nat} {f : Int → Int} (hx : s.ev x = some (.mp b f)) : ∃ i, s.get i = some (.mp b f) := by
  cases x with
  | tmp x => exact ⟨x, hx⟩
  | const c =>
    have : (constAV c) = some (.mp b f) := hx
    cases c <;> simp [constAV] at this
  | _ => cases hx

theorem xpure_new {N : Nat} {tt : List (Nat × TE)} (R : RelAt w0 S0 N dr pc s a w S pl) {o : Oper} {pf : PF} (h : xpure tt s o = some pf) (hp : (pf.av.plain || isMove o) = true) : pf.av.isNew w0.heap.size := by
  cases hpl : pf.av.plain with
  | true => exact AV.plain_new hpl
  | false =>
    rw [hpl, Bool.false_or] at hp
    have key : ∀ x, (s.ev x).map (PF.of True) = some pf → pf.av.isNew w0.heap.size := fun x hx => by
      cases hev : s.ev x with
      | none => rw [hev] at hx; cases hx
      | some av =>
        rw [hev] at hx
        cases hx
        cases av with
        | mp b f =>
          obtain ⟨i, hi⟩ := ev_slot hev
          exact R.news i b f hi
        | _ => cases hpl
    obtain ⟨dst, op, type, pos', after, guard⟩ := o
    unfold isMove at hp
    cases op <;> first | (cases hp; done) | exact key _ h

theorem xcut_ok {N : Nat} (R : RelAt w0 S0 N dr pc s a w S pl) {o : Oper} {i : Nat} {K : XS → Prop} (hd : ∀ t, o.dst = some t → t < N) {r hi : Nat} {rt : RT} (hc : cutAt s o = some (r, rt, hi)) (h : K ((s.trunc r rt hi).put o.dst (.ref r []))) :
    Out P dr o i pc a w (fun pc' a' w' => ∃ s', K s' ∧ Rel w0 S0 N dr pc' s' a' w') := by
  obtain ⟨dst, op, type, pos', after, guard⟩ := o
  simp only [cutAt] at hc
  split at hc
  · rename_i x d
    split at hc
    · rename_i r' lo hi' q hx hq
      split at hc
      · rename_i hcc
        obtain ⟨rfl, rfl⟩ := hcc
        split at hc
        · rename_i rt' hr
          split at hc
          · rename_i hh
            cases hc
            obtain ⟨_, hle, hsub⟩ := (R.ev (x := .tmp x) hx).1 rt hr
            obtain ⟨pl', R', hv, _⟩ := cutRoot R hr hh (hi := hi) (v := a.eval (.tmp x)) hle hsub
            refine Out.pure (v := a.eval (.tmp x)) rfl (fun w' => rfl) ⟨_, h, S, pl', R'.put hd ?_ (AV.lt_ref (R.ids _ rt hr))⟩
            intro rt2 hrt2
            have : rt2 = { rt with x := rt.x.take hi } := by
              simp only [XS.setRoot, lk, if_true, Option.some.injEq] at hrt2; exact hrt2.symm
            subst this
            exact hv
          · cases hc
        · cases hc
      · cases hc
    · cases hc
  · cases hc

theorem glob_lt {n : Int} {m : Nat} (h0 : 0 ≤ n) (h1 : n < (m : Int)) : n.toNat < m := by omega

theorem xglob_ok (hC : CtxOK P C w0 S0) (R : RelAt w0 S0 C.n dr pc s a w S pl) {o : Oper} {q : Prop} {av : AV} (h : xglob C s o = some (q, av)) (hq : q) :
    okind o.op = 0 ∧ ∃ v, (∀ w', (execOp a.eval o).run P w' = .ok (.value v) w') ∧ AVR w S s.rts pl av v ∧ av.lt s.nxt ∧ av.plain = true := by
  unfold xglob at h
  split at h
  · rename_i T g x ho
    split at h
    · rename_i T' l n hg hx
      split at h
      · rename_i hT
        subst hT
        cases h
        obtain ⟨h0, h1⟩ := hq
        obtain ⟨hS, ⟨arr, E, fr, hb, hl, har⟩, e, inf, hu, hinf, hsz⟩ := hC.2.2.2.2.2.2 g T l hg
        have hn := AVR.int (R.ev hx).1
        have hbw : w.heap[g]? = some (.cells arr E fr) := (R.stay g hS).trans hb
        have hi : n.toNat < l.length := glob_lt h0 h1
        have hget := har n.toNat hi
        refine ⟨by rw [ho]; rfl, .pointer (some ⟨g, n.toNat, none⟩), fun w' => ?_, ⟨g, n.toNat, arr, E, fr, rfl, R.base g hS, hbw, ?_, ?_⟩, AV.lt_rptr, rfl⟩
        · obtain ⟨dst, op, type, pos', after, guard⟩ := o
          cases ho
          have e1 := run_indexAt_arr (P := P) hu hinf g 0 .i64 n h0 h1 w'
          rw [hsz, Nat.zero_add, Nat.mul_one] at e1
          simp only [execOp, Sem.run_bind, hn, show a.eval (.global g) = .pointer (some ⟨g, 0, none⟩) from rfl, e1, Result.andThen_ok, Sem.run_pure]
        · show n.toNat + 1 ≤ arr.size
          omega
        · show RO w S (.int .i64) (l.getD n.toNat 0) (cellsAt arr n.toNat 1)
          rw [cellsAt_get (by simpa using hget)]
          rfl
      · cases h
    · cases h
  · cases h

theorem xdo_ok (hC : CtxOK P C w0 S0) (R : RelAt w0 S0 C.n dr pc s a w S pl) {o : Oper} {i : Nat} {K : XS → Prop} (hd : ∀ t, o.dst = some t → t < C.n) (h : xdo C dr o i K s) :
    Out P dr o i pc a w (fun pc' a' w' => ∃ s', K s' ∧ Rel w0 S0 C.n dr pc' s' a' w') := by
  unfold xdo at h
  split at h
  · rename_i q av hg
    obtain ⟨k0, v, e1, e2, e3, e4⟩ := xglob_ok hC R hg h.1
    exact Out.pure k0 v e1 ⟨_, h.2, S, pl, R.put hd e2 e3 (AV.plain_new e4)⟩
  split at h
  · rename_i e t hn
    refine Out.pure (v := .slice none 0 0) ?_ ?_ ⟨_, h, S, _, (R.nilRoot e t).put hd ?_ ?_⟩
    · rcases nilAt_some hn with h | h <;> rw [h] <;> rfl
    · intro w'; rcases nilAt_some hn with h | h <;> (unfold execOp; rw [h]; rfl)
    · intro rt hrt
      have : rt = nilRT e t := by simp only [XS.addRoot, lk, if_true, Option.some.injEq] at hrt; exact hrt.symm
      subst this
      simp [RT.at, TV.len, nilRT, atCT, hdr]
    · exact AV.lt_ref (Nat.lt_succ_self _)
  · split at h
    · rename_i r rt hi hc
      exact xcut_ok R hd hc h
    split at h
    · rename_i hm
      exact mpOp_ok hC.1 R hd hm h
    · rename_i hm
      exact mpOp_ok hC.1 R hd hm h
    · rename_i hm
      exact mpOp_ok hC.1 R hd hm h
    split at h
    · rename_i q pos hc
      obtain ⟨b, k0, e1, e2⟩ := nilCmp_ok hC.1 R hc
      exact Out.pure (v := .bool b) k0 e1 ⟨_, h b e2, S, pl, R.put hd (AVR.mkBool _ _) AV.lt_dat⟩
    split at h
    · rename_i pf hpf
      obtain ⟨h1, hp, h2, h3⟩ := h
      obtain ⟨k0, v, e1, e2, e3, e4⟩ := xpure_ok hC.1 R hpf h1 h2
      exact Out.pure k0 v e1 ⟨_, h3 e4, S, pl, R.put hd e2 e3 (xpure_new R hpf hp)⟩
    · split at h
      · rename_i T x ho
        split at h
        · rename_i u hu
          split at h
          · rename_i pf hpf
            obtain ⟨hp, h1, h2⟩ := h
            obtain ⟨v, b, e1, e2, e3, e4, e5⟩ := ldAV_ok hC.1 R (R.ev hu).1 (R.ev hu).2 hpf h1
            have hk : okind o.op = 1 := by rw [ho]; rfl
            unfold Out
            rw [hk]
            refine ⟨v, b, fun w' hw' => ?_, _, h2, S, pl, (R.pin e4 e5).put hd ?_ ?_ (AV.plain_new hp)⟩
            · unfold execOp; rw [ho]; simp [e1 w' hw']
            · cases dr <;> exact e2
            · cases dr <;> exact e3
          · exact h.elim
        · exact h.elim
      · rename_i f args ats ho
        split at h
        · rename_i sp hsp
          split at h
          · rename_i p l ha
            exact xcall_ok hC R hd rfl ho hsp ha h.1 h.2
          · exact h.elim
        · split at h
          · rename_i sp hsp
            split at h
            · rename_i x xs t ts hargs hps
              split at h
              · rename_i r hx
                split at h
                · rename_i rt hr
                  split at h
                  · rename_i hc
                    obtain ⟨c1, c2, c3, c4⟩ := hc
                    split at h
                    · rename_i p l ha
                      exact xmv_ok hC R hd ho hsp hargs hx hr c1 c2 (by rw [hps, c3]) ha h.1 c4 h.2
                    · exact h.elim
                  · exact h.elim
                · exact h.elim
              · rename_i r j q hx
                split at h
                · rename_i e u
                  split at h
                  · rename_i p1 s1 r1 ho1
                    split at h
                    · rename_i rt hr
                      split at h
                      · rename_i hc
                        obtain ⟨c1, c2, c3, rfl⟩ := hc
                        split at h
                        · rename_i p l ha
                          exact xmvp_ok hC R hd ho hsp hargs hx ho1 h.1 hr c2 (by rw [hps, c3]) ha h.2.1 h.2.2
                        · exact h.elim
                      · exact h.elim
                    · exact h.elim
                  · exact h.elim
                · exact h.elim
              · exact h.elim
            · exact h.elim
          · split at h
            · rename_i sp hsp
              split at h
              · rename_i x xs t ts hargs hps
                split at h
                · rename_i r hx
                  split at h
                  · rename_i rt hr
                    split at h
                    · rename_i hc
                      obtain ⟨c1, c2, c3, rfl⟩ := hc
                      split at h
                      · rename_i p l ha
                        exact xip_ok hC R hd ho hsp hargs hx hr c1 c2 (by rw [hps, c3]) ha h.1 h.2
                      · exact h.elim
                    · exact h.elim
                  · exact h.elim
                · rename_i r i0 q hx
                  split at h
                  · rename_i rt hr
                    split at h
                    · rename_i el hel
                      split at h
                      · rename_i hc
                        obtain ⟨c1, c2, c3, rfl⟩ := hc
                        split at h
                        · rename_i p l ha
                          exact xipp_ok hC R hd ho hsp hargs hx hr c1 hel h.1 c2 (by rw [hps, c3]) ha h.2.1 h.2.2
                        · exact h.elim
                      · exact h.elim
                    · exact h.elim
                  · exact h.elim
                · exact h.elim
              · exact h.elim
            · split at h
              · rename_i sp hsp
                cases hev : evs s args.toList with
                | none => rw [hev] at h; exact h.elim
                | some xs =>
                  rw [hev] at h
                  refine xst_ok hC R hd (by rw [ho]; rfl) hsp (vs := args.toList.map a.eval) (fun ⟨fn, hf, hn, hb⟩ => ?_) (evs_ok R _ _ hev) h
                  unfold execOp
                  rw [ho]
                  have e : (args.toList.map a.eval).toArray = args.map a.eval := by rw [← Array.toList_map, Array.toArray_toList]
                  rw [e]
                  have := run_call (P := P) (w := w) hf hn hb (args.map a.eval)
                  simp only [resolve, invoke, Deferred.ofValue, Act.eval, Sem.run_bind, Sem.run_pure, Result.andThen_ok, Array.empty_append, Array.append_empty]
                  exact this
              · exact h.elim
      · rename_i t args ats ho
        split at h
        · rename_i f hf
          split at h
          · rename_i sp hsp
            split at h
            · rename_i p l ha
              exact xcall_ok hC R hd (calleeOf_ok R hf) ho hsp ha h.1 h.2
            · exact h.elim
          · exact h.elim
        · split at h
          · rename_i f cs hy
            split at h
            · rename_i sp hsp
              cases hev : evs s args.toList with
              | none => rw [hev] at h; exact h.elim
              | some xs =>
                rw [hev] at h
                obtain ⟨us, e, h1, h2⟩ := (R.ev (x := .tmp t) hy).1
                have hlt := (R.ev (x := .tmp t) hy).2
                have hc : ∀ (cs : List Nat) (us : List Value), us.length = cs.length → (∀ r ∈ cs, r < s.nxt) → (∀ (i c : Nat) (rt : RT) (u : Value), cs[i]? = some c → lk s.rts c = some rt → us[i]? = some u → u = addrP (pl c) rt [0]) → AVRs w S s.rts pl s.nxt (cs.map fun c => .ptr c [0]) us := by
                  intro cs
                  induction cs with
                  | nil => intro us hl _ _; obtain rfl := List.eq_nil_of_length_eq_zero hl; exact .nil
                  | cons c cs ih =>
                    intro us hl hlt hv
                    match us, hl with
                    | u :: us, hl =>
                      exact .cons (fun rt hr => hv 0 c rt u rfl hr rfl) (fun q hq => by simp only [AV.ids, List.mem_singleton] at hq; subst hq; exact hlt _ (by simp)) (ih us (by simpa using hl) (fun r hr => hlt r (by simp [hr])) fun i c' rt u' g1 g2 g3 => hv (i + 1) c' rt u' g1 g2 g3)
                refine xst_ok hC R hd (by rw [ho]; rfl) hsp (vs := args.toList.map a.eval ++ us) (fun ⟨fn, hf, hn, hb⟩ => ?_) ((evs_ok R _ _ hev).app (hc cs us h1 hlt h2)) h
                unfold execOp
                rw [ho]
                have e' : (args.toList.map a.eval ++ us).toArray = args.map a.eval ++ us.toArray := by
                  rw [← List.append_toArray, ← Array.toList_map, Array.toArray_toList]
                rw [e']
                have := run_call (P := P) (w := w) hf hn hb (args.map a.eval ++ us.toArray)
                simp only [resolve, invoke, e, Deferred.ofValue, Sem.run_bind, Sem.run_pure, Result.andThen_ok, Array.empty_append, Array.append_empty]
                exact this
            split at h
            · rename_i sp us l' hs hcap
              split at h
              · rename_i hu
                subst hu
                split at h
                · rename_i p l ha
                  exact xcl_ok hC R hd hy ho hs hcap ha h.1 h.2
                · exact h.elim
              · exact h.elim
            · exact h.elim
          · rename_i f u y hy
            split at h
            · rename_i sp us hs
              split at h
              · rename_i hu
                subst hu
                split at h
                · rename_i p l ha
                  exact xclf_ok hC R hd hy ho hs ha h.1 h.2
                · exact h.elim
              · exact h.elim
            · exact h.elim
          · rename_i f bl hy
            split at h
            · rename_i sp hsp
              obtain ⟨hb, h⟩ := h
              cases hev : evs s args.toList with
              | none => rw [hev] at h; exact h.elim
              | some xs =>
                rw [hev] at h
                obtain ⟨cs, e, hcs⟩ := (R.ev (x := .tmp t) hy).1
                subst hcs
                refine xst_ok hC R hd (by rw [ho]; rfl) hsp (vs := args.toList.map a.eval ++ bl.map fun b => Value.pointer (some ⟨b, 0, none⟩)) (fun ⟨fn, hf, hn, hb⟩ => ?_) ((evs_ok R _ _ hev).app (locsB_ok R _ _ (vs := []) hb fun b t x hx => cloAVs_mem R hx)) h
                unfold execOp
                rw [ho]
                have e' : (args.toList.map a.eval ++ bl.map fun b => Value.pointer (some ⟨b, 0, none⟩)).toArray = args.map a.eval ++ (bl.map fun b => Value.pointer (some ⟨b, 0, none⟩)).toArray := by
                  rw [← List.append_toArray, ← Array.toList_map, Array.toArray_toList]
                rw [e']
                have := run_call (P := P) (w := w) hf hn hb (args.map a.eval ++ (bl.map fun b => Value.pointer (some ⟨b, 0, none⟩)).toArray)
                have e2 : a.eval (.tmp t) = .func (.func f) #[] (bl.map fun b => Value.pointer (some ⟨b, 0, none⟩)).toArray := e
                simp only [resolve, invoke, e2, Deferred.ofValue, Sem.run_bind, Sem.run_pure, Result.andThen_ok, Array.empty_append, Array.append_empty]
                exact this
            · exact h.elim
          · exact h.elim
      · rename_i T x ho
        split at h
        · rename_i ts l hb
          exact bxStr_ok R ho hd hb h
        · split at h
          · rename_i mf hmf
            exact xmem_ok hC.1 R hd hmf h.2.2.1 h.1 h.2.1 h.2.2.2
          · exact h.elim
      · rename_i T x y ho
        have hk0 : okind o.op ≠ 0 := by rw [ho]; simp [okind]
        have hk1 : okind o.op ≠ 1 := by rw [ho]; simp [okind]
        split at h
        · rename_i q hq
          obtain ⟨h1, h2, h3⟩ := h
          obtain ⟨v, hm⟩ := roSt_ok hC.1 R (fun u hu => (R.ev hu).1) (fun u hu => (R.ev hu).1) hq h2
          exact Out.mem R hk0 hk1 hd (fun v w' h => .inr (run_store ho h)) h1 rfl hm (fun _ => h3 v)
        · split at h
          · rename_i p r cs st hq
            obtain ⟨h1, h2, h3⟩ := h
            obtain ⟨bl, s1, h3, R1, e1, e2, e3, e4, hb⟩ := named_ok cs R h3
            have hm := fnSt_ok hC.1 R R1 e1 (fun u hu => (R.ev hu).1) (fun u hu => (R.ev hu).1) hq h2 e4 hb
            exact Out.mem R1 hk0 hk1 hd (fun v w' h => .inr (run_store ho h)) (by unfold tchOK at h1 ⊢; rw [e3]; exact h1) rfl hm (fun _ => h3)
          · split at h
            · rename_i u hu
              split at h
              · rename_i mf hmf
                have hm := stAV_ok hC.1 R (vx := a.eval x) (vy := a.eval y) (fun u hu => (R.ev hu).1) (fun v hv => by cases hv; exact selfAV_ok R (fun u hu => (R.ev hu).1) hu) hmf h.2.2.1
                exact Out.mem R hk0 hk1 hd (fun v w' h => .inr (run_store ho h)) h.1 h.2.1 hm h.2.2.2
              · exact h.elim
            · split at h
              · rename_i mf hmf
                exact xmem_ok hC.1 R hd hmf h.2.2.1 h.1 h.2.1 h.2.2.2
              · exact h.elim
      · split at h
        · rename_i mf hmf
          exact xmem_ok hC.1 R hd hmf h.2.2.1 h.1 h.2.1 h.2.2.2
        · exact h.elim

theorem xwant_ok {N : Nat} (R : RelAt w0 S0 N dr pc s a w S pl) {ops : Array Oper} {o : Oper} {b : Bool} (h : xwant ops s o = some b) : Region.wanted o (yielded ops a.tmps) = b := by
  unfold xwant at h
  unfold Region.wanted
  split at h
  · rename_i hg; rw [hg]; simpa using h
  · rename_i j want hg
    rw [hg]
    simp only [yielded]
    split at h
    · rename_i t ht
      rw [ht]
      simp only [Option.bind_some]
      split at h
      · rename_i c hc
        cases h
        have e := AVR.bool (R.env t _ hc).1
        have : a.tmps[t]? = some (.bool c) := by
          cases hx : a.tmps[t]? with
          | none => simp [hx, undef] at e
          | some v => simp [hx] at e; rw [e]
        rw [this]
        cases c <;> cases want <;> rfl
      · rename_i hc
        cases h
        obtain ⟨vs, e1, e2⟩ := (R.env t _ hc).1
        cases e2
        cases hx : a.tmps[t]? with
        | none => rfl
        | some v => simp [hx] at e1; rw [e1]; rfl
      · cases h
    · rename_i ht
      cases h
      rw [ht]
      rfl

theorem RelAt.known {N : Nat} (R : RelAt w0 S0 N dr pc s a w S pl) {ops : Array Oper} {o : Oper} {b : Bool} (h : xwant ops s o = some b) : RelAt w0 S0 N dr pc (known ops s o b) a w S pl := by
  unfold xwant at h
  unfold Fer.known
  split at h
  · exact R
  · rename_i j want hg
    split at h
    · rename_i t ht
      split at h
      · rename_i c hc
        rw [hc]
        dsimp only
        cases h
        have e : ((c == want) == want) = c := by cases c <;> cases want <;> rfl
        rw [e]
        refine { R with env := fun i av hi => ?_, news := fun i b f hi => ?_ }
        · simp only [XS.get, XS.put, lk] at hi
          split at hi
          · rename_i e1
            subst e1
            cases hi
            exact R.env t _ hc
          · exact R.env i av hi
        · simp only [XS.get, XS.put, lk] at hi
          split at hi
          · cases hi
          · exact R.news i b f hi
      · rename_i hc
        rw [hc]
        exact R
      · cases h
    · exact R

theorem RelAt.skip {N : Nat} (R : RelAt w0 S0 N dr pc s a w S pl) {d : Option Nat} (hd : ∀ t, d = some t → t < N) : RelAt w0 S0 N dr pc (s.put d (.tup [])) (a.put d undef) w S pl :=
  R.put hd ⟨[], rfl, .nil⟩ fun _ h => by cases h

theorem xrun_ok (hC : CtxOK P C w0 S0) {ops : Array Oper} {K : XS → Prop} {Q : Exit → Act → World → Prop} (hK : ∀ s pc a w, K s → Rel w0 S0 C.n false pc s a w → Q .normal a w) :
    ∀ (l : List Oper) (i : Nat) (s : XS) (pc : Pins) (a : Act) (w : World), xrun C ops K i l s → Rel w0 S0 C.n false pc s a w → wpList P ops Q l a w
  | [], i, s, pc, a, w, h, R => hK s pc a w h R
  | o :: l, i, s, pc, a, w, h, ⟨S, pl, R⟩ => by
    obtain ⟨hd, h⟩ := h
    have hd := dOK_lt hd
    split at h
    · exact h.elim
    · rename_i b hb
      simp only [wpList, xwant_ok R hb]
      cases b with
      | true =>
        simp only [if_true]
        refine .inl ?_
        have := xdo_ok hC (R.known hb) hd h
        exact Out.wp (this.mono fun pc' a' w' hh => by
          obtain ⟨s', h1, h2⟩ := hh
          exact xrun_ok hC hK l (i + 1) s' pc' a' w' h1 h2)
      | false =>
        simp only [Bool.false_eq_true, if_false]
        exact xrun_ok hC hK l (i + 1) _ pc _ w h ⟨S, pl, (R.known hb).skip hd⟩

theorem xord_ok (hC : CtxOK P C w0 S0) {ops : Array Oper} {K : XS → Prop} {Q : Act → World → Prop} (hK : ∀ s a w, K s → Rel w0 S0 C.n false noPins s a w → Q a w) :
    ∀ (l : List Nat) (s : XS) (pc : Pins) (a : Act) (w : World), xord C ops K l s → Rel w0 S0 C.n true pc s a w → wpOrd P ops (fun _ a w => Q a w) l pc a w
  | [], s, pc, a, w, h, ⟨S, pl, R⟩ => hK _ a w h ⟨S, pl, { R with pins := (fun h => by cases h) }⟩
  | i :: l, s, pc, a, w, h, ⟨S, pl, R⟩ => by
    simp only [xord] at h
    simp only [wpOrd]
    cases ho : ops[i]? with
    | none => rw [ho] at h; exact h.elim
    | some o =>
      rw [ho] at h
      obtain ⟨hd, h⟩ := h
      have hd := dOK_lt hd
      simp only [kOper]
      split at h
      · exact h.elim
      · rename_i b hb
        rw [xwant_ok R hb]
        cases b with
        | true =>
          simp only [if_true]
          have := xdo_ok hC (R.known hb) hd h
          exact Out.k (this.mono fun pc' a' w' hh => by
            obtain ⟨s', h1, h2⟩ := hh
            exact xord_ok hC hK l s' pc' a' w' h1 h2)
        | false =>
          simp only [Bool.false_eq_true, if_false]
          exact xord_ok hC hK l _ pc _ w h ⟨S, pl, (R.known hb).skip hd⟩

end
end Fer

namespace Fer
open Go


def fitD (t t' : Ty) (x : t.den) (y : t'.den) : Prop := if h : t = t' then h ▸ x = y else False
@[simp] theorem fitD_self (t : Ty) (x y : t.den) : fitD t t x y ↔ x = y := by simp [fitD]

def fitL (ren : List (Nat × Nat)) : List Nat → List Nat → Prop
  | [], [] => True
  | q :: c, r :: c' => lk ren r = some q ∧ fitL ren c c'
  | _, _ => False
theorem fitL_get {ren : List (Nat × Nat)} : ∀ {c c' : List Nat}, fitL ren c c' → c.length = c'.length ∧ ∀ i r : Nat, c'[i]? = some r → ∃ q : Nat, c[i]? = some q ∧ lk ren r = some q
  | [], [], _ => ⟨rfl, fun i r h => by simp at h⟩
  | q :: c, r :: c', ⟨h, h'⟩ => by
    obtain ⟨i1, i2⟩ := fitL_get h'
    refine ⟨by simp [i1], fun i r' hr => ?_⟩
    cases i with
    | zero =>
      simp only [List.getElem?_cons_zero, Option.some.injEq] at hr
      subst hr
      exact ⟨q, rfl, h⟩
    | succ i =>
      simp only [List.getElem?_cons_succ] at hr ⊢
      exact i2 i r' hr
  | [], _ :: _, h => h.elim
  | _ :: _, [], h => h.elim

def fitB (ren : List (Nat × Nat)) : AV → AV → Prop
  | _, .junk => True
  | .dat t x, .dat t' y => fitD t t' x y
  | .ref r p, .ref r' p' => lk ren r' = some r ∧ p = p'
  | .sub r p lo hi, .sub r' p' lo' hi' => lk ren r' = some r ∧ p = p' ∧ lo = lo' ∧ hi = hi'
  | .ptr r p, .ptr r' p' => lk ren r' = some r ∧ p = p'
  | .mp b f, .mp b' f' => b = b' ∧ f = f'
  | .clo f c, .clo f' c' => f = f' ∧ fitL ren c c'
  | .rptr t x, .rptr t' y => fitD t t' x y
  | .rpl b t x, .rpl b' t' y => b = b' ∧ fitD t t' x y
  | .loc r b, .loc r' b' => lk ren r' = some r ∧ b = b'
  | .one r, .one r' => lk ren r' = some r
  | _, _ => False

def fitEnv (ren : List (Nat × Nat)) (s : XS) : List (Nat × AV) → Prop
  | [] => True
  | (i, av) :: l => (match s.get i with | some u => fitB ren u av | none => False) ∧ fitEnv ren s l

def fitRT (rt rt' : RT) : Prop := rt.e = rt'.e ∧ rt.h = none ∧ rt'.h = none ∧ fitD (.list rt.e rt.t) (.list rt'.e rt'.t) rt.x rt'.x ∧ (rt.t.flat = true ∨ rt.k = rt'.k ∨ rt.x = [])

def fitRoots (ren : List (Nat × Nat)) (s : XS) : List (Nat × RT) → Prop
  | [] => True
  | (r, rt) :: l => (match lk ren r with | some q => (match s.root q with | some qt => fitRT qt rt | none => False) | none => False) ∧ fitRoots ren s l

def distinct : List Nat → Bool
  | [] => true
  | x :: l => l.all (fun y => !(x == y)) && distinct l

def idsOK (st : XS) : Bool := st.env.all (fun x => (match x.2 with | .tup _ | .agg _ => false | av => av.ids.all fun r => decide (r < st.nxt))) && st.rts.all (fun x => decide (x.1 < st.nxt))

def Fits (ren : List (Nat × Nat)) (s st : XS) : Prop :=
  distinct (ren.map (·.2)) = true ∧ idsOK st = true ∧ fitEnv ren s st.env ∧ fitRoots ren s st.rts

section
variable {P : Program} {C : Ctx} {w0 : World} {S0 : Nat → Prop} {N : Nat} {s : XS} {a : Act} {w w' : World} {S : Nat → Prop} {pl : Nat → PL}

theorem distinct_ren : ∀ {l : List (Nat × Nat)} {r r' q : Nat}, distinct (l.map (·.2)) = true → lk l r = some q → lk l r' = some q → r = r'
  | [], _, _, _, _, h, _ => by cases h
  | (i, x) :: l, r, r', q, hd, h, h' => by
    simp only [List.map_cons, distinct, Bool.and_eq_true, List.all_eq_true] at hd
    have key : ∀ r, lk l r = some q → x ≠ q := fun r hr => by
      have := hd.1 q (List.mem_map.2 ⟨(r, q), lk_mem hr, rfl⟩)
      simpa using this
    simp only [lk] at h h'
    by_cases h1 : i = r <;> by_cases h2 : i = r'
    · exact h1.symm.trans h2
    · rw [if_pos h1] at h; rw [if_neg h2] at h'; exact absurd (Option.some.inj h) (key r' h')
    · rw [if_neg h1] at h; rw [if_pos h2] at h'; exact absurd (Option.some.inj h') (key r h)
    · rw [if_neg h1] at h; rw [if_neg h2] at h'; exact distinct_ren hd.2 h h'

theorem fitEnv_get {ren : List (Nat × Nat)} : ∀ {l : List (Nat × AV)} {i : Nat} {av : AV}, fitEnv ren s l → lk l i = some av → ∃ u, s.get i = some u ∧ fitB ren u av
  | [], _, _, _, h => by cases h
  | (j, a) :: l, i, av, hf, h => by
    simp only [lk] at h
    obtain ⟨h1, h2⟩ := hf
    by_cases e : j = i
    · rw [if_pos e] at h
      subst e
      cases h
      cases hg : s.get j with
      | none => rw [hg] at h1; exact h1.elim
      | some u => rw [hg] at h1; exact ⟨u, rfl, h1⟩
    · rw [if_neg e] at h; exact fitEnv_get h2 h

theorem fitRoots_get {ren : List (Nat × Nat)} : ∀ {l : List (Nat × RT)} {r : Nat} {rt : RT}, fitRoots ren s l → lk l r = some rt → ∃ q qt, lk ren r = some q ∧ s.root q = some qt ∧ fitRT qt rt
  | [], _, _, _, h => by cases h
  | (j, a) :: l, r, rt, hf, h => by
    simp only [lk] at h
    obtain ⟨h1, h2⟩ := hf
    by_cases e : j = r
    · rw [if_pos e] at h
      subst e
      cases h
      cases hg : lk ren j with
      | none => rw [hg] at h1; exact h1.elim
      | some q =>
        rw [hg] at h1
        simp only at h1
        cases hq : s.root q with
        | none => rw [hq] at h1; exact h1.elim
        | some qt => rw [hq] at h1; exact ⟨q, qt, rfl, hq, h1⟩
    · rw [if_neg e] at h; exact fitRoots_get h2 h

theorem own_flat_k {t : Ty} {k k' : Nat} {x : t.den} {ct : CT} {cs : List Value} {F : Nat → Prop} (h : t.flat = true) (H : Own w S t k x none ct cs F) : Own w S t k' x none ct cs F := by
  induction t generalizing ct cs F with
  | int | bool | str | raw => exact H
  | fn f t _ => simp [Ty.flat] at h
  | row f t _ => simp [Ty.flat] at h
  | ro f t _ => simp [Ty.flat] at h
  | func => exact H
  | list e t _ => simp [Ty.flat] at h
  | prod a b iha ihb =>
    simp only [Ty.flat, Bool.and_eq_true] at h
    rcases H with H | ⟨h0, H⟩
    · exact .inl H
    · cases ct with
      | pair c d =>
        obtain ⟨c1, c2, F1, F2, h1, g1, g2, g3, g4⟩ := H
        exact .inr ⟨h0, c1, c2, F1, F2, h1, g1, g2, iha h.1 g3, ihb h.2 g4⟩
      | nil => exact H.elim
      | leaf => exact H.elim
      | node => exact H.elim

theorem fitRT_own {qt rt : RT} (h : fitRT qt rt) {ct : CT} {v : Value} {F : Nat → Prop} (H : Own w S qt.ty (qt.k + 1) qt.x qt.h ct [v] F) :
    Own w S rt.ty (rt.k + 1) rt.x rt.h ct [v] F ∧ (qt.at []).len = (rt.at []).len := by
  obtain ⟨e, t, k, x, hh⟩ := qt
  obtain ⟨e', t', k', x', hh'⟩ := rt
  obtain ⟨h1, h2, h3, h4, h5⟩ := h
  simp only at h1 h2 h3 h4 h5 H ⊢
  subst h1 h2 h3
  unfold fitD at h4
  split at h4
  · rename_i e1
    cases e1
    simp only at h4
    subst h4
    refine ⟨?_, rfl⟩
    rcases h5 with h5 | h5 | h5
    · rcases own_inv H with ⟨rfl, hx, hv, hF⟩ | ⟨b, cap, kids, arr, Fs, rfl, hv, q2, q3, h4, h5', g1, g2, g3, g4⟩
      · exact .inr ⟨by simp, hx, hv, hF⟩
      · exact .inr ⟨by simp, hv, q2, q3, arr, h4, h5', Fs, g1, g2, g3, fun i hi => by simpa using own_flat_k h5 (g4 i hi)⟩
    · rw [← h5]; exact H
    · subst h5; exact own_relabel _ H
  · exact h4.elim

theorem fitRT_eq {qt rt : RT} (h : fitRT qt rt) : rt = { qt with k := rt.k } := by
  obtain ⟨e, t, k, x, hh⟩ := qt
  obtain ⟨e', t', k', x', hh'⟩ := rt
  obtain ⟨h1, h2, h3, h4, h5⟩ := h
  simp only at h1 h2 h3 h4
  subst h1 h2 h3
  unfold fitD at h4
  split at h4
  · rename_i e1
    cases e1
    simp only at h4
    subst h4
    rfl
  · exact h4.elim

theorem fitD_eq {t t' : Ty} {x : t.den} {y : t'.den} (h : fitD t t' x y) : AV.dat t x = AV.dat t' y := by
  unfold fitD at h
  split at h
  · rename_i e; subst e; simp only at h; rw [h]
  · exact h.elim

theorem lk_idsOK {st : XS} (h : idsOK st = true) : (∀ i av, st.get i = some av → (∀ l, av ≠ .tup l) ∧ (∀ l, av ≠ .agg l) ∧ ∀ r ∈ av.ids, r < st.nxt) ∧ ∀ r rt, st.root r = some rt → r < st.nxt := by
  simp only [idsOK, Bool.and_eq_true, List.all_eq_true] at h
  refine ⟨fun i av hi => ?_, fun r rt hr => by simpa using h.2 _ (lk_mem hr)⟩
  have := h.1 _ (lk_mem hi)
  cases av <;> simp_all

theorem Rel.fits (R : Rel w0 S0 N false noPins s a w) {st : XS} {ren : List (Nat × Nat)} (h : Fits ren s st) : Rel w0 S0 N false noPins st a w := by
  obtain ⟨S, pl, R⟩ := R
  obtain ⟨hd, hi, he, hr⟩ := h
  obtain ⟨i1, i2⟩ := lk_idsOK hi
  let pl' : Nat → PL := fun r => match lk ren r with | some q => pl q | none => pl 0
  have hroot : ∀ r rt, st.root r = some rt → ∃ q qt, lk ren r = some q ∧ s.root q = some qt ∧ fitRT qt rt ∧ pl' r = pl q := fun r rt h => by
    obtain ⟨q, qt, h1, h2, h3⟩ := fitRoots_get hr h
    exact ⟨q, qt, h1, h2, h3, by simp only [pl', h1]⟩
  refine ⟨S, pl', { defers := R.defers, size := R.size, os := R.os, tape := R.tape, output := R.output, grow := R.grow, stay := R.stay, base := R.base, lt := R.lt, own := ?_, Flt := ?_, disj := ?_, ids := i2, env := ?_, pins := (fun h => by cases h), news := ?_ }⟩
  rotate_right
  · intro i b f h
    obtain ⟨u, hu, hf⟩ := fitEnv_get he h
    cases u with
    | mp b' f' =>
      obtain ⟨rfl, rfl⟩ := hf
      exact R.news i _ _ hu
    | _ => exact hf.elim
  · intro r rt h
    obtain ⟨q, qt, h1, h2, h3, h4⟩ := hroot r rt h
    obtain ⟨hv, H⟩ := R.own q qt h2
    rw [h4]
    exact ⟨hv, (fitRT_own h3 H).1⟩
  · intro r rt b h hb
    obtain ⟨q, qt, h1, h2, h3, h4⟩ := hroot r rt h
    rw [h4] at hb
    exact R.Flt q qt b h2 hb
  · intro r r' rt rt' b h h' hb hb'
    obtain ⟨q, qt, h1, h2, h3, h4⟩ := hroot r rt h
    obtain ⟨q', qt', h1', h2', h3', h4'⟩ := hroot r' rt' h'
    rw [h4] at hb
    rw [h4'] at hb'
    have := R.disj q q' qt qt' b h2 h2' hb hb'
    subst this
    exact distinct_ren hd h1 h1'
  · intro i av h
    obtain ⟨t1, t2, t3⟩ := i1 i av h
    obtain ⟨u, hu, hf⟩ := fitEnv_get he h
    have hlt : av.lt st.nxt := by cases av <;> first | exact t3 | exact absurd rfl (t1 _) | exact absurd rfl (t2 _)
    refine ⟨?_, hlt⟩
    have hx := (R.env i u hu).1
    have name : ∀ r q qt rt, lk ren r = some q → lk st.rts r = some rt → (∀ q' qt', lk ren r = some q' → s.root q' = some qt' → fitRT qt' rt → q' = q → qt = qt' → True) → True := fun _ _ _ _ _ _ _ => trivial
    cases av with
    | junk => trivial
    | tup l => exact absurd rfl (t1 l)
    | agg l => exact absurd rfl (t2 l)
    | dat t y =>
      cases u with
      | dat t' x => simp only [fitB] at hf; rw [fitD_eq hf] at hx; exact hx
      | _ => exact hf.elim
    | mp b f =>
      cases u with
      | mp b' f' =>
        obtain ⟨rfl, rfl⟩ := hf
        exact hx
      | _ => exact hf.elim
    | ref r' p' =>
      cases u with
      | ref r p =>
        obtain ⟨f1, rfl⟩ := hf
        intro rt hrt
        obtain ⟨q, qt, h1, h2, h3, h4⟩ := hroot r' rt hrt
        rw [f1] at h1
        cases h1
        rw [h4, fitRT_eq h3]
        exact hx qt h2
      | _ => exact hf.elim
    | sub r' p' lo' hi' =>
      cases u with
      | sub r p lo hi =>
        obtain ⟨f1, rfl, rfl, rfl⟩ := hf
        intro rt hrt
        obtain ⟨q, qt, h1, h2, h3, h4⟩ := hroot r' rt hrt
        rw [f1] at h1
        cases h1
        rw [h4, fitRT_eq h3]
        exact hx qt h2
      | _ => exact hf.elim
    | ptr r' p' =>
      cases u with
      | ptr r p =>
        obtain ⟨f1, rfl⟩ := hf
        intro rt hrt
        obtain ⟨q, qt, h1, h2, h3, h4⟩ := hroot r' rt hrt
        rw [f1] at h1
        cases h1
        rw [h4, fitRT_eq h3]
        exact hx qt h2
      | _ => exact hf.elim
    | rptr t y =>
      cases u with
      | rptr t' x =>
        simp only [fitB] at hf
        have e : AV.rptr t' x = AV.rptr t y := by
          unfold fitD at hf
          split at hf
          · rename_i e; subst e; simp only at hf; rw [hf]
          · exact hf.elim
        rw [e] at hx; exact hx
      | _ => exact hf.elim
    | rpl b t y =>
      cases u with
      | rpl b' t' x =>
        simp only [fitB] at hf
        obtain ⟨rfl, hf⟩ := hf
        have e : AV.rpl b' t' x = AV.rpl b' t y := by
          unfold fitD at hf
          split at hf
          · rename_i e; subst e; simp only at hf; rw [hf]
          · exact hf.elim
        rw [e] at hx; exact hx
      | _ => exact hf.elim
    | one r' =>
      cases u with
      | one r =>
        have f1 : lk ren r' = some r := hf
        intro rt hrt
        obtain ⟨q, qt, h1, h2, h3, h4⟩ := hroot r' rt hrt
        rw [f1] at h1
        cases h1
        rw [h4, fitRT_eq h3]
        exact hx qt h2
      | _ => exact hf.elim
    | loc r' b' =>
      cases u with
      | loc r b =>
        obtain ⟨f1, rfl⟩ := hf
        intro rt hrt
        obtain ⟨q, qt, h1, h2, h3, h4⟩ := hroot r' rt hrt
        rw [f1] at h1
        cases h1
        rw [h4, fitRT_eq h3]
        exact hx qt h2
      | _ => exact hf.elim
    | clo f c =>
      cases u with
      | clo f' c0 =>
        obtain ⟨rfl, hl⟩ := hf
        obtain ⟨l1, l2⟩ := fitL_get hl
        obtain ⟨vs, e1, e2, e3⟩ := hx
        refine ⟨vs, e1, e2.trans l1, fun i r rt v hc hrt hv => ?_⟩
        obtain ⟨q0, g1, g2⟩ := l2 i r hc
        obtain ⟨q, qt, h1, h2, h3, h4⟩ := hroot r rt hrt
        rw [g2] at h1
        cases h1
        rw [h4, fitRT_eq h3]
        exact e3 i q0 qt v g1 h2 hv
      | _ => exact hf.elim


theorem least {p : Nat → Prop} (h : ∃ n, p n) : ∃ n, p n ∧ ∀ m, p m → n ≤ m := by
  obtain ⟨n, hn⟩ := h
  induction n using Nat.strongRecOn with
  | _ n ih =>
    by_cases hx : ∃ m, m < n ∧ p m
    · obtain ⟨m, h1, h2⟩ := hx; exact ih m h1 h2
    · exact ⟨n, hn, fun m hm => Nat.le_of_not_lt fun hlt => hx ⟨m, hlt, hm⟩⟩


def XW (P : Program) (C : Ctx) (w0 : World) (S0 : Nat → Prop) (c : Code) (Q : Exit → XS → Prop) (s : XS) : Prop :=
  ∀ a w, Rel w0 S0 C.n false noPins s a w → c.wp P (fun e a' w' => ∃ s', Q e s' ∧ Rel w0 S0 C.n false noPins s' a' w') a w

variable {Q : Exit → XS → Prop} {x y : Code}

def XW.thn (K : XS → Prop) (Q : Exit → XS → Prop) : Exit → XS → Prop
  | .normal, s => K s
  | e, s => Q e s

theorem XW.skip (h : Q .normal s) : XW P C w0 S0 .skip Q s := fun _ _ R => wp_skip ⟨s, h, R⟩
theorem XW.exit {id : Nat} (h : Q (.exit id) s) : XW P C w0 S0 (.exit id) Q s := fun _ _ R => wp_exit ⟨s, h, R⟩
theorem XW.ret (h : Q .ret s) : XW P C w0 S0 .ret Q s := fun _ _ R => wp_ret ⟨s, h, R⟩
theorem XW.seq (h : XW P C w0 S0 x (XW.thn (fun s => XW P C w0 S0 y Q s) Q) s) : XW P C w0 S0 (.seq x y) Q s := fun a w R =>
  wp_seq (Go.wp_mono (h a w R) fun e a' w' hh => by
    obtain ⟨s', h1, h2⟩ := hh
    cases e <;> first | exact h1 a' w' h2 | exact ⟨s', h1, h2⟩)
theorem XW.cond {c : Operand} {t : Bool} (hc : s.ev c = some (.dat .bool t)) (h1 : t = true → XW P C w0 S0 x Q s) (h2 : t = false → XW P C w0 S0 y Q s) : XW P C w0 S0 (.cond c x y) Q s := fun a w R => by
  have : a.eval c = .bool t := by obtain ⟨S, pl, R'⟩ := R; exact AVR.bool (R'.ev hc).1
  exact wp_cond_split this (fun e => h1 e a w R) (fun e => h2 (by simpa using e) a w R)
def XW.blk (id : Nat) (Q : Exit → XS → Prop) : Exit → XS → Prop
  | .exit j, s => if j = id then Q .normal s else Q (.exit j) s
  | e, s => Q e s
theorem XW.block {id : Nat} (h : XW P C w0 S0 x (XW.blk id Q) s) : XW P C w0 S0 (.block id x) Q s := fun a w R =>
  wp_block (Go.wp_mono (h a w R) fun e a' w' hh => by
    obtain ⟨s', h1, h2⟩ := hh
    cases e with
    | exit j =>
      simp only [XW.blk] at h1
      simp only [Exit.inBlock]
      split
      · rename_i e; rw [if_pos e] at h1; exact ⟨s', h1, h2⟩
      · rename_i e; rw [if_neg e] at h1; exact ⟨s', h1, h2⟩
    | _ => exact ⟨s', h1, h2⟩)
theorem XW.region (hC : CtxOK P C w0 S0) {id : Nat} {ops : Array Oper} (h : ∀ K : XS → Prop, (∀ s, Q .normal s → K s) → xrun C ops K 0 ops.toList s) : XW P C w0 S0 (.region id ops false) Q s := fun a w R =>
  wp_region_list (xrun_ok hC (K := fun s => Q .normal s) (fun s pc a w hK ⟨S, pl, R⟩ => ⟨s, hK, S, pl, { R with pins := (fun h => by cases h) }⟩) ops.toList 0 s noPins a w (h _ fun _ h => h) R)
theorem XW.draw (hC : CtxOK P C w0 S0) (hm : P.follows .mixedOrders = true) {id : Nat} {ops : Array Oper} (l : List Nat) (hB : ordOK ops l = true) (h : ∀ K : XS → Prop, (∀ s, Q .normal s → K s) → xord C ops K l s) : XW P C w0 S0 (.region id ops true) Q s := fun a w R => by
  refine wp_region_ord l hm hB (xord_ok hC (Q := fun a w => ∃ s', Q .normal s' ∧ Rel w0 S0 C.n false noPins s' a w) (K := fun s => Q .normal s) (fun s a w hK R => ⟨s, hK, R⟩) l s noPins a _ (h _ fun _ h => h) ?_)
  obtain ⟨S, pl, R⟩ := R
  have R' := R.grown (Grew.drew w)
  exact ⟨S, pl, { R' with pins := (fun _ i b h => h.elim) }⟩
theorem XW.text (hC : CtxOK P C w0 S0) (hm : P.follows .mixedOrders = true) {id : Nat} {ops : Array Oper} (hB : ordOK ops (List.range' 0 ops.toList.length) = true) (h : ∀ K : XS → Prop, (∀ s, Q .normal s → K s) → xtxt C ops K 0 ops.toList s) : XW P C w0 S0 (.region id ops true) Q s :=
  XW.draw hC hm _ hB fun K hK => by
    have := h K hK
    rwa [xtxt_ord ops.toList 0 fun j _ => by simp] at this
theorem XW.fits {ren : List (Nat × Nat)} {st : XS} (hf : Fits ren s st) (h : XW P C w0 S0 x Q st) : XW P C w0 S0 x Q s := fun a w R => h a w (R.fits hf)

theorem XW.loop {ι : Type} (st : ι → XS) (I : ι → Prop) (μ : ι → Nat) (i0 : ι) (ren : List (Nat × Nat)) (h0 : I i0) (hf : Fits ren s (st i0))
    (h : ∀ i, I i → XW P C w0 S0 x (XW.thn (fun s' => ∃ i' ren, I i' ∧ μ i' < μ i ∧ Fits ren s' (st i')) Q) (st i)) : XW P C w0 S0 (.loop x) Q s := fun a w R => by
  classical
  let J : Act → World → Prop := fun a w => ∃ i, I i ∧ Rel w0 S0 C.n false noPins (st i) a w
  let G : Act → World → Nat → Prop := fun a w n => ∃ i, I i ∧ Rel w0 S0 C.n false noPins (st i) a w ∧ μ i = n
  have hG : ∀ a w, J a w → ∃ n, G a w n := fun a w ⟨i, h1, h2⟩ => ⟨μ i, i, h1, h2, rfl⟩
  let m : Act → World → Nat := fun a w => if h : ∃ n, G a w n then (least h).choose else 0
  refine wp_loop J m ⟨i0, h0, R.fits hf⟩ fun a w hJ => ?_
  have hex := hG a w hJ
  have hm : m a w = (least hex).choose := by simp only [m]; rw [dif_pos hex]
  obtain ⟨i, h1, h2, h3⟩ := (least hex).choose_spec.1
  refine Go.wp_mono (h i h1 a w h2) fun e a' w' hh => ?_
  obtain ⟨s', q1, q2⟩ := hh
  cases e with
  | normal =>
    obtain ⟨i', ren', r1, r2, r3⟩ := q1
    have R' := q2.fits r3
    refine ⟨⟨i', r1, R'⟩, ?_⟩
    have hex' : ∃ n, G a' w' n := ⟨μ i', i', r1, R', rfl⟩
    have : m a' w' = (least hex').choose := by simp only [m]; rw [dif_pos hex']
    rw [this, hm, ← h3]
    exact Nat.lt_of_le_of_lt ((least hex').choose_spec.2 _ ⟨i', r1, R', rfl⟩) r2
  | _ => exact ⟨s', q1, q2⟩

theorem XW.cut {c : Code} {ι : Type} (st : ι → XS) (I : ι → Prop) (h : ∀ x, I x → XW P C w0 S0 c Q (st x)) : ∀ s, (∃ x ren, I x ∧ Fits ren s (st x)) → XW P C w0 S0 c Q s := fun _ ⟨x, _, h1, h2⟩ => XW.fits h2 (h x h1)

end

end Fer

namespace Fer
open Go

section
variable {P : Program} {C : Ctx} {w0 : World} {S0 : Nat → Prop} {s : XS} {ops : Array Oper}

theorem xord_cons {K : XS → Prop} {i : Nat} {o : Oper} {l : List Nat} (ho : ops[i]? = some o) (h : xoper C true ops o i (xord C ops K l) s) : xord C ops K (i :: l) s := by
  simp only [xord, ho]; exact h
theorem xord_nil {K : XS → Prop} (h : K { s with pins := [] }) : xord C ops K [] s := h

end
end Fer

namespace Fer
open Go

inductive OT where
  | nil : OT
  | one : Nat → OT → OT
  | two : Nat → OT → Nat → OT → OT

def OT.len : OT → Nat
  | .nil => 0
  | .one _ t => t.len + 1
  | .two _ t _ _ => t.len + 1

def OT.ok (ops : Array Oper) : OT → Array Bool → Bool
  | .nil, listed => (Region.ready .any ops listed).isEmpty
  | .one k t, listed => (((Region.ready .any ops listed).contains k && freeX ops listed k) || Region.ready .any ops listed == [k]) && t.ok ops (listed.setIfInBounds k true)
  | .two i t j u, listed => (Region.ready .any ops listed).all (fun k => k == i || k == j) && !(Region.ready .any ops listed).isEmpty && t.len == u.len && t.ok ops (listed.setIfInBounds i true) && u.ok ops (listed.setIfInBounds j true)

def otOK (ops : Array Oper) (t : OT) : Bool := Region.noSelect ops && t.len == ops.size && t.ok ops (Array.replicate ops.size false)

def wpTree (P : Program) (ops : Array Oper) (Q : Pins → Act → World → Prop) : OT → Pins → Act → World → Prop
  | .nil, pins, a, w => Q pins a w
  | .one i t, pins, a, w => match ops[i]? with
    | none => False
    | some o => kOper P ops o i pins a w (wpTree P ops Q t)
  | .two i t j u, pins, a, w => (match ops[i]? with
    | none => False
    | some o => kOper P ops o i pins a w (wpTree P ops Q t)) ∧ (match ops[j]? with
    | none => False
    | some o => kOper P ops o j pins a w (wpTree P ops Q u))

def xtree (C : Ctx) (ops : Array Oper) (K : XS → Prop) : OT → XS → Prop
  | .nil, s => K { s with pins := [] }
  | .one i t, s => match ops[i]? with
    | some o => xoper C true ops o i (xtree C ops K t) s
    | none => False
  | .two i t j u, s => (match ops[i]? with
    | some o => xoper C true ops o i (xtree C ops K t) s
    | none => False) ∧ (match ops[j]? with
    | some o => xoper C true ops o j (xtree C ops K u) s
    | none => False)

section
variable {P : Program} {C : Ctx} {w0 : World} {S0 : Nat → Prop} {s : XS} {ops : Array Oper}

theorem anyX_tree {Q : Pins → Act → World → Prop} (hs : Region.noSelect ops = true) : ∀ (t : OT) (listed : Array Bool) (pins : Pins) (a : Act) (w : World),
    t.ok ops listed = true → wpTree P ops Q t pins a w → wpAnyX P ops Q t.len listed pins a w
  | .nil, _, _, _, _, hB, h => ⟨by simpa [OT.ok] using hB, h⟩
  | .one k t, listed, pins, a, w, hB, h => by
    simp only [OT.ok, Bool.and_eq_true, Bool.or_eq_true, beq_iff_eq] at hB
    obtain ⟨hrf, hB'⟩ := hB
    simp only [wpTree] at h
    cases h0 : ops[k]? with
    | none => rw [h0] at h; exact h.elim
    | some o =>
      rw [h0] at h
      rcases hrf with ⟨hr, hf⟩ | hr
      case inr =>
        refine ⟨fun h1 => (by rw [h1] at hr; cases hr), fun j hj => ?_⟩
        rw [hr, List.mem_singleton] at hj
        subst hj
        unfold kOp
        rw [h0]
        exact kOper_mono (fun p a' w' h' => anyX_tree hs t _ p a' w' hB' h') h
      refine anyX_first h0 (Region.noSelect_spec hs) t.len listed pins a w (freeX_spec h0 hf) (by simpa using hr) ?_
      exact kOper_mono (fun p a' w' h' => anyX_tree hs t _ p a' w' hB' h') h
  | .two i t j u, listed, pins, a, w, hB, h => by
    simp only [OT.ok, Bool.and_eq_true, List.all_eq_true, Bool.or_eq_true, beq_iff_eq, Bool.not_eq_true'] at hB
    obtain ⟨⟨⟨⟨hr, hne⟩, hl⟩, hB1⟩, hB2⟩ := hB
    simp only [wpTree] at h
    refine ⟨fun h0 => (by rw [h0] at hne; cases hne), fun k hk => ?_⟩
    rcases hr k hk with rfl | rfl
    · have h := h.1
      unfold kOp
      cases h0 : ops[k]? with
      | none => rw [h0] at h; exact h.elim
      | some o => rw [h0] at h; exact kOper_mono (fun p a' w' h' => anyX_tree hs t _ p a' w' hB1 h') h
    · have h := h.2
      unfold kOp
      cases h0 : ops[k]? with
      | none => rw [h0] at h; exact h.elim
      | some o =>
        rw [h0] at h
        refine kOper_mono (fun p a' w' h' => ?_) h
        have := anyX_tree hs u _ p a' w' hB2 h'
        rwa [← hl] at this

theorem wp_region_tree {id : Nat} {Q : Exit → Act → World → Prop} {a : Act} {w : World} (t : OT) (hm : P.follows .mixedOrders = true) (hB : otOK ops t = true)
    (h : wpTree P ops (fun _ a' w' => Q .normal a' w') t noPins a { w with drawn := w.drawn + 1 }) : (Code.region id ops true).wp P Q a w := by
  simp only [otOK, Bool.and_eq_true, beq_iff_eq] at hB
  refine wp_region_any hm (wpAny_of_X (Q := fun _ a' w' => Q .normal a' w') (fun _ _ _ h => h) _ _ noPins _ _ ?_)
  have := anyX_tree hB.1.1 t (Array.replicate ops.size false) noPins a { w with drawn := w.drawn + 1 } hB.2 h
  rwa [hB.1.2] at this

theorem xoper_ok (hC : CtxOK P C w0 S0) {o : Oper} {i : Nat} {K : XS → Prop} {K' : Pins → Act → World → Prop} {pc : Pins} {a : Act} {w : World}
    (hK : ∀ s pc a w, K s → Rel w0 S0 C.n true pc s a w → K' pc a w) (h : xoper C true ops o i K s) (R : Rel w0 S0 C.n true pc s a w) : kOper P ops o i pc a w K' := by
  obtain ⟨S, pl, R⟩ := R
  obtain ⟨hd, h⟩ := h
  have hd := dOK_lt hd
  simp only [kOper]
  split at h
  · exact h.elim
  · rename_i b hb
    rw [xwant_ok R hb]
    cases b with
    | true =>
      simp only [if_true]
      have := xdo_ok hC (R.known hb) hd h
      exact Out.k (this.mono fun pc' a' w' hh => by
        obtain ⟨s', h1, h2⟩ := hh
        exact hK s' pc' a' w' h1 h2)
    | false =>
      simp only [Bool.false_eq_true, if_false]
      exact hK _ pc _ w h ⟨S, pl, (R.known hb).skip hd⟩

theorem xtree_ok (hC : CtxOK P C w0 S0) {K : XS → Prop} {Q : Act → World → Prop} (hK : ∀ s a w, K s → Rel w0 S0 C.n false noPins s a w → Q a w) :
    ∀ (t : OT) (s : XS) (pc : Pins) (a : Act) (w : World), xtree C ops K t s → Rel w0 S0 C.n true pc s a w → wpTree P ops (fun _ a w => Q a w) t pc a w
  | .nil, s, pc, a, w, h, ⟨S, pl, R⟩ => hK _ a w h ⟨S, pl, { R with pins := (fun h => by cases h) }⟩
  | .one i t, s, pc, a, w, h, R => by
    simp only [xtree] at h
    simp only [wpTree]
    cases ho : ops[i]? with
    | none => rw [ho] at h; exact h.elim
    | some o =>
      rw [ho] at h
      exact xoper_ok hC (fun s' pc' a' w' h1 h2 => xtree_ok hC hK t s' pc' a' w' h1 h2) h R
  | .two i t j u, s, pc, a, w, h, R => by
    simp only [xtree] at h
    simp only [wpTree]
    constructor
    · have h := h.1
      cases ho : ops[i]? with
      | none => rw [ho] at h; exact h.elim
      | some o =>
        rw [ho] at h
        exact xoper_ok hC (fun s' pc' a' w' h1 h2 => xtree_ok hC hK t s' pc' a' w' h1 h2) h R
    · have h := h.2
      cases ho : ops[j]? with
      | none => rw [ho] at h; exact h.elim
      | some o =>
        rw [ho] at h
        exact xoper_ok hC (fun s' pc' a' w' h1 h2 => xtree_ok hC hK u s' pc' a' w' h1 h2) h R

theorem xtree_nil {K : XS → Prop} (h : K { s with pins := [] }) : xtree C ops K .nil s := h
theorem xtree_one {K : XS → Prop} {i : Nat} {o : Oper} {t : OT} (ho : ops[i]? = some o) (h : xoper C true ops o i (xtree C ops K t) s) : xtree C ops K (.one i t) s := by
  simp only [xtree, ho]; exact h
theorem xtree_two {K : XS → Prop} {i j : Nat} {t u : OT} (h1 : xtree C ops K (.one i t) s) (h2 : xtree C ops K (.one j u) s) : xtree C ops K (.two i t j u) s := ⟨h1, h2⟩

theorem XW.tree {Q : Exit → XS → Prop} (hC : CtxOK P C w0 S0) (hm : P.follows .mixedOrders = true) {id : Nat} (t : OT) (hB : otOK ops t = true) (h : ∀ K : XS → Prop, (∀ s, Q .normal s → K s) → xtree C ops K t s) : XW P C w0 S0 (.region id ops true) Q s := fun a w R => by
  refine wp_region_tree t hm hB (xtree_ok hC (Q := fun a w => ∃ s', Q .normal s' ∧ Rel w0 S0 C.n false noPins s' a w) (K := fun s => Q .normal s) (fun s a w hK R => ⟨s, hK, R⟩) t s noPins a _ (h _ fun _ h => h) ?_)
  obtain ⟨S, pl, R⟩ := R
  have R' := R.grown (Grew.drew w)
  exact ⟨S, pl, { R' with pins := (fun _ i b h => h.elim) }⟩

end
end Fer

namespace Fer
open Go

theorem RO.flat {w w' : World} {S S' : Nat → Prop} : ∀ {t : Ty} {x : t.den} {cs : List Value}, t.flat = true → RO w S t x cs → RO w' S' t x cs
  | .int _, _, _, _, h | .bool, _, _, _, h | .str, _, _, _, h | .raw, _, _, _, h => h
  | .list _ _, _, _, h, _ => by simp [Ty.flat] at h
  | .fn _ _, _, _, h, _ => by simp [Ty.flat] at h
  | .row _ _, _, _, h, _ => by simp [Ty.flat] at h
  | .ro _ _, _, _, h, _ => by simp [Ty.flat] at h
  | .func, _, _, _, h => h
  | .prod a b, x, cs, hf, h => by
    simp only [Ty.flat, Bool.and_eq_true] at hf
    obtain ⟨c1, c2, rfl, h1, h2⟩ := h
    exact ⟨c1, c2, rfl, h1.flat hf.1, h2.flat hf.2⟩

open Classical in
noncomputable def outOf (s : XS) (t : Nat) : Option (Option Nat × TV) :=
  match s.get t with
  | some (.dat ty x) => if ty.flat = true then some (none, ⟨ty, x⟩) else none
  | some (.ref r []) => match s.root r with
    | some rt => if rt.h = none ∧ rt.t.noRo = true ∧ (rt.t.lev ≤ rt.k ∨ rt.x = []) then some (some r, ⟨rt.ty, rt.x⟩) else none
    | none => none
  | some (.ref r (i :: p)) => match s.root r with
    | some rt => match elAt rt (i :: p) with
      | some el => if rt.h = none ∧ el.t.noRo = true ∧ okNode rt (i :: p) ∧ el.t.lev + 1 ≤ dep (i :: p) rt.ty (rt.k + 1) then some (some r, ⟨.list el.e el.t, el.l⟩) else none
      | none => none
    | none => none
  | _ => none

noncomputable def outsOf (s : XS) : List Nat → Option (List Nat × List TV)
  | [] => some ([], [])
  | t :: l => match outOf s t, outsOf s l with
    | some (none, v), some (rs, vs) => some (rs, v :: vs)
    | some (some r, v), some (rs, vs) => if rs.contains r = true then none else some (r :: rs, v :: vs)
    | _, _ => none

noncomputable def retK (slots : List Nat) (K : List TV → Prop) : Exit → XS → Prop
  | .ret, s | .normal, s => match outsOf s slots with
    | some (_, vs) => K vs
    | none => False
  | _, _ => False

def env0 : Nat → List TV → List (Nat × AV)
  | _, [] => []
  | n, v :: l => (n, .dat v.t v.x) :: env0 (n + 1) l

def XS.init (args : List TV) : XS := ⟨env0 0 args, [], 0, []⟩

section
variable {P : Program} {C : Ctx} {w0 : World} {S0 : Nat → Prop} {N : Nat} {s : XS} {a : Act} {w w' : World} {S : Nat → Prop} {pl : Nat → PL}

theorem outsOf_ok (R : RelAt w0 S0 N false noPins s a w S pl) : ∀ (ts : List Nat) (rs : List Nat) (vs : List TV), outsOf s ts = some (rs, vs) →
    ∃ F, Rets S0 w vs (ts.map fun t => a.tmps.getD t undef) F ∧ ∀ n, F n → ∃ r rt, r ∈ rs ∧ s.root r = some rt ∧ (pl r).F n
  | [], rs, vs, h => by
    simp only [outsOf, Option.some.injEq, Prod.mk.injEq] at h
    obtain ⟨rfl, rfl⟩ := h
    exact ⟨noF, .nil, fun _ h => h.elim⟩
  | t :: ts, rs, vs, h => by
    simp only [outsOf] at h
    split at h
    · rename_i v rs' vs' h1 h2
      simp only [Option.some.injEq, Prod.mk.injEq] at h
      obtain ⟨rfl, rfl⟩ := h
      obtain ⟨F, hR, hF⟩ := outsOf_ok R ts _ _ h2
      refine ⟨_, .cons (F := noF) ?_ hR (fun _ h => h.elim), fun n hn => hn.elim (fun h => h.elim) (hF n)⟩
      unfold outOf at h1
      split at h1
      · rename_i ty x hg
        split at h1
        · rename_i hfl
          simp only [Option.some.injEq, Prod.mk.injEq, true_and] at h1
          subst h1
          obtain ⟨cs, e1, e2⟩ := (R.env t _ hg).1
          refine ⟨fun _ h => h.elim, ?_⟩
          cases ty with
          | list => simp [Ty.flat] at hfl
          | _ => exact ⟨fun _ h => h, cs, e1, e2.flat hfl⟩
        · cases h1
      · split at h1
        · split at h1
          · simp at h1
          · cases h1
        · cases h1
      · split at h1
        · split at h1
          · split at h1
            · simp at h1
            · cases h1
          · cases h1
        · cases h1
      · cases h1
    · rename_i r v rs' vs' h1 h2
      split at h
      · cases h
      · rename_i hnc
        simp only [Option.some.injEq, Prod.mk.injEq] at h
        obtain ⟨rfl, rfl⟩ := h
        obtain ⟨F, hR, hF⟩ := outsOf_ok R ts _ _ h2
        unfold outOf at h1
        split at h1
        · split at h1
          · simp at h1
          · cases h1
        · rename_i r' hg
          cases hr : s.root r' with
          | none => rw [hr] at h1; cases h1
          | some rt =>
            rw [hr] at h1
            simp only at h1
            split at h1
            · rename_i hc
              simp only [Option.some.injEq, Prod.mk.injEq] at h1
              obtain ⟨rfl, rfl⟩ := h1
              obtain ⟨hv, H⟩ := R.own r' rt hr
              rw [hc.1] at H
              have hvv : a.tmps.getD t undef = hv := by
                have h1 : a.tmps.getD t undef = hdr (atCT [] rt.ty (pl r').ct) (rt.at []).len := (R.env t _ hg).1 rt hr
                rw [h1]; exact (H.hdr (by simp)).1.symm
              have hO : Own w noS rt.ty (rt.t.lev + 1) rt.x none (pl r').ct [hv] (pl r').F := by
                rcases hc.2.2 with hk | hx
                · exact own_full (t := .list rt.e rt.t) hc.2.1 (by simp only [Ty.lev]; omega) (by simp only [Ty.lev]; omega) H
                · obtain ⟨e, t, k, x, hh⟩ := rt
                  simp only at hx
                  subst hx
                  have H1 := own_relabel t.lev H
                  exact own_full (t := .list e t) hc.2.1 (by simp only [Ty.lev]; omega) (by simp only [Ty.lev]; omega) H1
              refine ⟨_, .cons (F := (pl r').F) ⟨fun n hn => ⟨?_, (R.Flt r' rt n hr hn).1⟩, (pl r').ct, ?_⟩ hR (fun n hn hn' => ?_), fun n hn => ?_⟩
              · exact fun hlt => (R.Flt r' rt n hr hn).2 (R.base n hlt)
              · show Own w noS rt.ty (rt.t.lev + 1) rt.x none (pl r').ct [a.tmps.getD t undef] (pl r').F
                rw [hvv]; exact hO
              · obtain ⟨r2, rt2, q1, q2, q3⟩ := hF n hn'
                have := R.disj r' r2 rt rt2 n hr q2 hn q3
                subst this
                exact hnc (by simpa using q1)
              · rcases hn with hn | hn
                · exact ⟨r', rt, by simp, hr, hn⟩
                · obtain ⟨r2, rt2, q1, q2, q3⟩ := hF n hn
                  exact ⟨r2, rt2, by simp [q1], q2, q3⟩
            · cases h1
        · rename_i r' i p hg
          cases hr : s.root r' with
          | none => rw [hr] at h1; cases h1
          | some rt =>
            rw [hr] at h1
            simp only at h1
            cases hel : elAt rt (i :: p) with
            | none => rw [hel] at h1; cases h1
            | some el =>
            rw [hel] at h1
            simp only at h1
            split at h1
            · rename_i hc
              simp only [Option.some.injEq, Prod.mk.injEq] at h1
              obtain ⟨rfl, rfl⟩ := h1
              obtain ⟨k, v, F', e1, e2, e3, e4⟩ := R.nodeL hr hc.1 hel hc.2.2.1
              have hvv : a.tmps.getD t undef = v := by
                have h1 : a.tmps.getD t undef = hdr (atCT (i :: p) rt.ty (pl r').ct) (rt.at (i :: p)).len := (R.env t _ hg).1 rt hr
                rw [h1, e3]
              have hO : Own w noS (.list el.e el.t) (el.t.lev + 1) el.l none (atCT (i :: p) rt.ty (pl r').ct) [v] F' :=
                own_full (t := .list el.e el.t) hc.2.1 (by simp only [Ty.lev]; have := hc.2.2.2; omega) (by simp only [Ty.lev]; omega) e2
              refine ⟨_, .cons (F := F') ⟨fun n hn => ⟨?_, (R.Flt r' rt n hr (e4 n hn)).1⟩, atCT (i :: p) rt.ty (pl r').ct, ?_⟩ hR (fun n hn hn' => ?_), fun n hn => ?_⟩
              · exact fun hlt => (R.Flt r' rt n hr (e4 n hn)).2 (R.base n hlt)
              · show Own w noS (.list el.e el.t) (el.t.lev + 1) el.l none _ [a.tmps.getD t undef] F'
                rw [hvv]; exact hO
              · obtain ⟨r2, rt2, q1, q2, q3⟩ := hF n hn'
                have := R.disj r' r2 rt rt2 n hr q2 (e4 n hn) q3
                subst this
                exact hnc (by simpa using q1)
              · rcases hn with hn | hn
                · exact ⟨r', rt, by simp, hr, e4 n hn⟩
                · obtain ⟨r2, rt2, q1, q2, q3⟩ := hF n hn
                  exact ⟨r2, rt2, by simp [q1], q2, q3⟩
            · cases h1
        · cases h1
    · cases h

theorem run_results {fn : Func} {ts : List Nat} (h : fn.results.toList = ts.map ResultVar.tmp) (tmps : Array Value) : (results fn tmps).run P w = .ok (valOf (ts.map fun t => tmps.getD t undef)) w := by
  have hm : ∀ ts : List Nat, (List.mapM (fun r : ResultVar => (match r with | .tmp t => pure (tmps.getD t undef) | .cell a t => do loadVar t (← asAddr (tmps.getD a undef)) : Sem Value)) (ts.map ResultVar.tmp)).run P w = .ok (ts.map fun t => tmps.getD t undef) w := by
    intro ts
    induction ts with
    | nil => simp
    | cons t ts ih =>
      rw [List.map_cons, List.mapM_cons, Sem.run_bind]
      simp only [Sem.run_pure, Result.andThen_ok, Sem.run_bind, ih, List.map_cons]
  have hr : fn.results = (ts.map ResultVar.tmp).toArray := by rw [← h, Array.toArray_toList]
  unfold results
  rw [hr]
  rw [List.mapM_toArray, Sem.run_bind, Sem.run_map]
  erw [hm ts]
  match ts with
  | [] => rfl
  | [t] => rfl
  | t :: t' :: ts => simp [valOf]

theorem env0_get : ∀ {l : List TV} {n i : Nat} {av : AV}, lk (env0 n l) i = some av → ∃ v, l[i - n]? = some v ∧ n ≤ i ∧ av = .dat v.t v.x
  | [], _, _, _, h => by cases h
  | v :: l, n, i, av, h => by
    simp only [env0, lk] at h
    by_cases e : n = i
    · subst e
      simp only [if_true, Option.some.injEq] at h
      subst h
      exact ⟨v, by simp, Nat.le_refl _, rfl⟩
    · rw [if_neg e] at h
      obtain ⟨v', h1, h2, h3⟩ := env0_get h
      exact ⟨v', by rw [show i - n = (i - (n + 1)) + 1 by omega]; simpa using h1, by omega, h3⟩

theorem args_get {ts : List Ty} {vs : List TV} {us : List Value} (h : Args w S ts vs us) : us.length = vs.length ∧ vs.map (·.t) = ts ∧ ∀ (i : Nat) (v : TV), vs[i]? = some v → ∃ u cs, us[i]? = some u ∧ u = pack v.t cs ∧ RO w S v.t v.x cs := by
  induction h with
  | nil => exact ⟨rfl, rfl, by simp⟩
  | cons h _ ih =>
    refine ⟨by simp [ih.1], by simp [ih.2.1], fun i v hv => ?_⟩
    cases i with
    | zero =>
      simp only [List.getElem?_cons_zero, Option.some.injEq] at hv
      subst hv
      exact ⟨_, _, by simp, rfl, h⟩
    | succ i =>
      simp only [List.getElem?_cons_succ] at hv ⊢
      exact ih.2.2 i v hv

theorem fn_run (f : Nat) (fn : Func) (c : Code) (slots : List Nat) (sp : Spec) (hf : P.funcs[f]? = some fn) (hb : fn.body = some c) (hn : (fn.name == "runtime.NumGoroutine") = false) (hres : fn.results.toList = slots.map ResultVar.tmp)
    (hnt : fn.ntmps = C.n) (hps : sp.ps.length ≤ fn.ntmps)
    {args : List TV} {K : List TV → Prop} {vs : List Value} (hA : Args w (oldS w) sp.ps args vs) (h : args.map (·.t) = sp.ps → XW P C w (oldS w) c (retK slots K) (XS.init args)) :
    Calls P f vs.toArray w fun e w' => match e with
      | .returned v => Grew w w' ∧ ∃ outs us F, K outs ∧ v = valOf us ∧ Rets (oldS w) w' outs us F
      | _ => False := by
  obtain ⟨l1, hts, hget⟩ := args_get hA
  have l2 : sp.ps.length = args.length := by rw [← hts]; simp
  refine calls_of_wp hf hb (Go.wp_mono (h hts _ w ⟨oldS w, fun _ => ⟨.leaf, noF⟩, ?_⟩) fun e a' w' hh => ?_)
  · refine { defers := rfl, size := ?_, os := rfl, tape := rfl, output := SameOut.refl w, grow := Nat.le_refl _, stay := fun _ _ => rfl, base := fun _ h => h, lt := fun _ h => h, own := (fun _ _ h => by cases h), Flt := (fun _ _ _ h => by cases h), disj := (fun _ _ _ _ _ h => by cases h), ids := (fun _ _ h => by cases h), env := fun i av hi => ?_, pins := (fun h => by cases h), news := (fun i b f hi => by obtain ⟨_, _, _, h⟩ := env0_get hi; cases h) }
    · simp [l1, ← hnt]; omega
    · obtain ⟨v, h1, _, rfl⟩ := env0_get hi
      simp only [Nat.sub_zero] at h1
      obtain ⟨u, cs, h2, h3, h4⟩ := hget i v h1
      refine ⟨⟨cs, ?_, h4⟩, AV.lt_dat⟩
      have hlt : i < vs.length := (List.getElem?_eq_some_iff.1 h2).1
      rw [← h3]
      simp only [Array.getD_eq_getD_getElem?]
      rw [Array.getElem?_append_left (by simpa using hlt)]
      simp [h2]
  · obtain ⟨s', h1, S, pl, R⟩ := hh
    have g : Grew w w' := ⟨R.os, R.tape, R.output.ofOld, R.grow, R.stay⟩
    have fin : (match outsOf s' slots with | some (_, vs) => K vs | none => False) → a'.defers = [] ∧ ∃ v, (results fn a'.tmps).run P w' = .ok v w' ∧ Grew w w' ∧ ∃ outs us F, K outs ∧ v = valOf us ∧ Rets (oldS w) w' outs us F := by
      intro h1
      cases ho : outsOf s' slots with
      | none => rw [ho] at h1; exact h1.elim
      | some p =>
        obtain ⟨rs, vs'⟩ := p
        rw [ho] at h1
        obtain ⟨F, hR, _⟩ := outsOf_ok R slots rs vs' ho
        exact ⟨R.defers, _, run_results hres a'.tmps, g, vs', _, F, h1, rfl, hR⟩
    cases e with
    | normal => exact fin h1
    | ret => exact fin h1
    | exit => exact h1.elim
    | goto => exact h1.elim
    | panic => exact h1.elim
    | outgrown => exact h1.elim

theorem FnOK_of (f : Nat) (fn : Func) (c : Code) (slots : List Nat) (sp : Spec) (hf : P.funcs[f]? = some fn) (hb : fn.body = some c) (hn : (fn.name == "runtime.NumGoroutine") = false) (hres : fn.results.toList = slots.map ResultVar.tmp)
    (hnt : fn.ntmps = C.n) (hps : sp.ps.length ≤ fn.ntmps)
    (h : ∀ (args : List TV) (K : List TV → Prop), args.map (·.t) = sp.ps → sp.wp args K → ∀ w0 : World, XW P C w0 (oldS w0) c (retK slots K) (XS.init args)) : FnOK P f sp :=
  ⟨⟨fn, hf, hn, by rw [hb]; rfl⟩, fun args K hK w vs hA => fn_run f fn c slots sp hf hb hn hres hnt hps hA fun hts => h args K hts hK w⟩

theorem GlobAt.old {P : Program} {w0 w : World} {S0 : Nat → Prop} {g T : Nat} {l : List Int} (h : GlobAt P w0 S0 g T l) (hs : ∀ b, S0 b → w.heap[b]? = w0.heap[b]?) : GlobAt P w (oldS w) g T l := by
  obtain ⟨h1, ⟨arr, E, fr, h2, h3⟩, h4⟩ := h
  have e := (hs g h1).trans h2
  exact ⟨(Array.getElem?_eq_some_iff.1 e).1, ⟨arr, E, fr, e, h3⟩, h4⟩

def XS.initMv (e : Nat) (t : Ty) (x : List t.den) (args : List TV) : XS := ⟨(0, .ref 0 []) :: env0 1 args, [(0, ⟨e, t, t.lev, x, none⟩)], 1, []⟩

end
end Fer

namespace Fer
open Go

open Classical in
section
variable {P : Program} {C : Ctx} {tt : List (Nat × TE)} {w0 : World} {S0 : Nat → Prop} {N : Nat} {s : XS} {a : Act} {w w' : World} {S : Nat → Prop} {pl : Nat → PL}

end
end Fer

namespace Fer
open Go
section
variable {P : Program} {C : Ctx} {w0 : World} {S0 : Nat → Prop} {s : XS} {Q : Exit → XS → Prop} {x y : Code}
theorem XW.mid (st : XS) (h1 : XW P C w0 S0 x (XW.thn (fun s' => ∃ ren, Fits ren s' st) Q) s) (h2 : XW P C w0 S0 y Q st) : XW P C w0 S0 (.seq x y) Q s := fun a w R =>
  wp_seq (Go.wp_mono (h1 a w R) fun e a' w' hh => by
    obtain ⟨s', q1, q2⟩ := hh
    cases e with
    | normal => obtain ⟨ren, hf⟩ := q1; exact h2 a' w' (Rel.fits q2 hf)
    | _ => exact ⟨s', q1, q2⟩)
end
end Fer

namespace Fer
open Go

def envC : Nat → List TV → List (Nat × AV)
  | _, [] => []
  | n, v :: l => (n, .rptr v.t v.x) :: envC (n + 1) l
def XS.initC (args caps : List TV) : XS := ⟨env0 0 args ++ envC args.length caps, [], 0, []⟩

theorem lk_app {α : Type} {i : Nat} {x : α} : ∀ {l m : List (Nat × α)}, lk (l ++ m) i = some x → lk l i = some x ∨ lk m i = some x
  | [], _, h => .inr h
  | (j, y) :: l, m, h => by
    simp only [List.cons_append, lk] at h ⊢
    split at h
    · rename_i e; rw [if_pos e]; exact .inl h
    · rename_i e; rw [if_neg e]; exact lk_app h
section
variable {P : Program} {C : Ctx} {w : World} {S : Nat → Prop}
end
end Fer

namespace Fer

theorem zz : (∀ n : Nat, (n : Int).toNat = n) ∧ (∀ b : Bool, (true == b) = b) ∧ (∀ b : Bool, (false == b) = !b) ∧ (∀ n : Nat, n ≤ n) ∧ (∀ n : Nat, 0 ≤ n) ∧
    (∀ p : Prop, (True ∧ p) = p) ∧ (∀ p : Prop, (p ∧ True) = p) ∧ decide True = true ∧ decide False = false ∧ (∀ p : Prop, (p → True) = True) ∧ ((false = true) = False) ∧ (∀ p : Prop, (False → p) = True) ∧
    (∀ p : Prop, (p ∧ p) = p) ∧ (∀ p : Prop, (p ∨ True) = True) ∧ (∀ p : Prop, (True ∨ p) = True) ∧ (∀ p : Prop, (False ∨ p) = p) ∧ (∀ p : Prop, (p ∨ False) = p) ∧ ((¬True) = False) ∧ ((¬False) = True) ∧
    (∀ p : Prop, (p ∧ False) = False) ∧ (∀ p : Prop, (False ∧ p) = False) ∧ (!true) = false ∧ (!false) = true ∧ (∀ b : Bool, (b || true) = true) ∧ (∀ b : Bool, (true || b) = true) ∧ (∀ b : Bool, (false || b) = b) ∧ (∀ b : Bool, (b || false) = b) ∧
    (∀ b : Bool, (b && true) = b) ∧ (∀ b : Bool, (true && b) = b) ∧ (∀ b : Bool, (b && b) = b) ∧ (∀ (p : Prop) [Decidable p], (decide p = true) = p) ∧ (∀ (p : Prop) [Decidable p], (decide p = false) = ¬p) ∧
    (∀ n : Nat, 0 + n = n) ∧ (∀ n : Nat, n < n + 1) ∧ (∀ n : Nat, n + 1 - 1 = n) ∧ (∀ n : Nat, n + 1 ≠ 0) ∧ (∀ n : Nat, n.succ ≠ n) ∧ (∀ n : Nat, max n n = n) := by
  refine ⟨Int.toNat_natCast, by decide, by decide, Nat.le_refl, Nat.zero_le, fun _ => true_and _, fun _ => and_true _, rfl, rfl, fun _ => implies_true _, Bool.false_eq_true, fun _ => false_implies _, fun _ => and_self _, fun _ => or_true _, fun _ => true_or _, fun _ => false_or _, fun _ => or_false _, not_true_eq_false, not_false_eq_true,
    fun _ => and_false _, fun _ => false_and _, rfl, rfl, by decide, by decide, by decide, by decide, by decide, by decide, by decide, fun _ _ => decide_eq_true_eq, fun _ _ => by simp, Nat.zero_add, Nat.lt_add_one, fun _ => rfl, Nat.add_one_ne_zero, Nat.succ_ne_self, Nat.max_self⟩
theorem zh : (∀ b : Bool, ((!b) = true) = (b = false)) ∧ (∀ b : Bool, ((!b) = false) = (b = true)) ∧ (∀ a b : Bool, ((a && b) = true) = (a = true ∧ b = true)) ∧ (∀ a b : Bool, ((a || b) = true) = (a = true ∨ b = true)) ∧ (∀ a b : Bool, ((a || b) = false) = (a = false ∧ b = false)) ∧
    (∀ a b : Int, (¬a < b) = (b ≤ a)) ∧ (∀ a b : Int, (¬a ≤ b) = (b < a)) ∧ (∀ b : Bool, (¬b = true) = (b = false)) ∧ (∀ m n : Nat, ((m : Int) < (n : Int)) = (m < n)) ∧ (∀ m n : Nat, ((m : Int) ≤ (n : Int)) = (m ≤ n)) := by
  refine ⟨?_, ?_, ?_, ?_, ?_, ?_, ?_, ?_, ?_, ?_⟩ <;> intros <;> simp
set_option linter.defProp false in
def zi := And.intro (And.intro @bne_iff_ne.{0} @beq_iff_eq.{0}) (And.intro (And.intro @ne_eq.{1} @Decidable.not_not) (And.intro @beq_eq_false_iff_ne.{0} @bne_eq_false_iff_eq.{0}))

end Fer

namespace Fer
open Go

def envS : Nat → Nat → List PA → List TV → List (Nat × AV)
  | i, j, .val _ :: ps, v :: vs => (i, .dat v.t v.x) :: envS (i + 1) j ps vs
  | i, j, .cap _ :: ps, v :: vs => (i, .rptr v.t v.x) :: envS (i + 1) j ps vs
  | i, j, .capl _ :: ps, v :: ⟨.int _, b⟩ :: vs => (i, .rpl b.toNat v.t v.x) :: envS (i + 1) j ps vs
  | i, j, .box _ _ :: ps, vs => (i, .ptr j [0]) :: envS (i + 1) (j + 1) ps vs
  | i, j, .one _ _ :: ps, vs => (i, .ptr j [0]) :: envS (i + 1) (j + 1) ps vs
  | i, j, .gone _ _ :: ps, vs => (i, .ptr j [0]) :: envS (i + 1) (j + 1) ps vs
  | i, j, .gho _ _ :: ps, vs => envS i (j + 1) ps vs
  | _, _, _, _ => []
def rtsS : Nat → List PA → List TV → List (Nat × RT)
  | j, .box e _ :: ps, v :: bs => (j, ⟨e, v.t, v.t.lev, [v.x], none⟩) :: rtsS (j + 1) ps bs
  | j, .one e _ :: ps, v :: bs => (j, ⟨e, v.t, v.t.lev, [v.x], none⟩) :: rtsS (j + 1) ps bs
  | j, .gone e _ :: ps, v :: bs => (j, ⟨e, v.t, v.t.lev, [v.x], none⟩) :: rtsS (j + 1) ps bs
  | j, .gho e _ :: ps, v :: bs => (j, ⟨e, v.t, v.t.lev, [v.x], none⟩) :: rtsS (j + 1) ps bs
  | j, .val _ :: ps, bs => rtsS j ps bs
  | j, .cap _ :: ps, bs => rtsS j ps bs
  | j, .capl _ :: ps, bs => rtsS j ps bs
  | _, _, _ => []
def locS (n : Nat) : Nat → List Nat → List (Nat × AV)
  | _, [] => []
  | j, b :: bl => (n + 64 + j, .loc j b) :: locS n (j + 1) bl
def XS.initS (n : Nat) (pat : List PA) (bl : List Nat) (vals boxes : List TV) : XS := ⟨envS 0 0 pat vals ++ locS n 0 bl, rtsS 0 pat boxes, bl.length, []⟩

def boxS (n : Nat) (s : XS) : Nat → List PA → List Nat → Option (Prop × List TV)
  | _, [], [] => some (True, [])
  | j, .box e t :: ps, b :: bl => match s.root j, s.get (n + 64 + j), boxS n s (j + 1) ps bl with
    | some rt, some (.loc q b'), some (p, l) => match rt.x, rt.h with
      | [v], none => if rt.e = e ∧ rt.t = t ∧ t.lev ≤ rt.k ∧ t.roOK = true ∧ q = j then some (b' = b ∧ p, ⟨rt.t, v⟩ :: l) else none
      | _, _ => none
    | _, _, _ => none
  | j, .gho e t :: ps, b :: bl => match s.root j, s.get (n + 64 + j), boxS n s (j + 1) ps bl with
    | some rt, some (.loc q b'), some (p, l) => match rt.x, rt.h with
      | [v], none => if rt.e = e ∧ rt.t = t ∧ t.lev ≤ rt.k ∧ t.roOK = true ∧ q = j then some (b' = b ∧ p, ⟨rt.t, v⟩ :: l) else none
      | _, _ => none
    | _, _, _ => none
  | j, .val _ :: ps, bl => boxS n s j ps bl
  | j, .cap _ :: ps, bl => boxS n s j ps bl
  | j, .capl _ :: ps, bl => boxS n s j ps bl
  | _, _, _ => none

noncomputable def retS (n : Nat) (slots : List Nat) (pat : List PA) (bl : List Nat) (K : List TV → List TV → Prop) (e : Exit) (s : XS) : Prop :=
  match e with
  | .normal => match outsOf s slots, boxS n s 0 pat bl with
    | some (rs, vs), some (p, bx) => (rs.all fun r => decide (bl.length ≤ r)) = true ∧ p ∧ K vs bx
    | _, _ => False
  | .ret => match outsOf s slots, boxS n s 0 pat bl with
    | some (rs, vs), some (p, bx) => (rs.all fun r => decide (bl.length ≤ r)) = true ∧ p ∧ K vs bx
    | _, _ => False
  | _ => False

section
variable {P : Program} {C : Ctx} {w : World} {T : Nat → Prop}

theorem locS_get {n i : Nat} {av : AV} : ∀ {bl : List Nat} {j : Nat}, lk (locS n j bl) i = some av → ∃ b q, av = .loc q b ∧ j ≤ q ∧ bl[q - j]? = some b ∧ i = n + 64 + q
  | [], _, h => by cases h
  | b :: bl, j, h => by
    simp only [locS, lk] at h
    split at h
    · rename_i e
      cases h
      exact ⟨b, j, rfl, Nat.le_refl _, by simp, e.symm⟩
    · obtain ⟨c, q, h1, h2, h3, h4⟩ := locS_get h
      exact ⟨c, q, h1, by omega, by rw [show q - j = (q - (j + 1)) + 1 by omega]; simpa using h3, h4⟩

theorem stArgs_get : ∀ {pat : List PA} {bl : List Nat} {vals boxes : List TV} {vs : List Value} {F : Nat → Prop}, StArgs w T pat bl vals boxes vs F → ∀ i0 j0 : Nat, vs.length ≤ pat.length ∧
    (∀ i av, lk (envS i0 j0 pat vals) i = some av → i0 ≤ i ∧ ∃ u, vs[i - i0]? = some u ∧ ((∃ t x cs, av = .dat t x ∧ u = pack t cs ∧ RO w T t x cs) ∨
      (∃ t x b o arr E fr, av = .rptr t x ∧ u = .pointer (some ⟨b, o, none⟩) ∧ T b ∧ w.heap[b]? = some (.cells arr E fr) ∧ o + t.width ≤ arr.size ∧ RO w T t x (cellsAt arr o t.width)) ∨
      (∃ j b, av = .ptr j [0] ∧ j0 ≤ j ∧ bl[j - j0]? = some b ∧ u = .pointer (some ⟨b, 0, none⟩)) ∨
      (∃ b t x, av = .rpl b t x ∧ u = .pointer (some ⟨b, 0, none⟩) ∧ ∃ arr E fr, T b ∧ w.heap[b]? = some (.cells arr E fr) ∧ t.width ≤ arr.size ∧ RO w T t x (cellsAt arr 0 t.width)))) ∧
    ∃ pl : Nat → PL, (∀ j rt, lk (rtsS j0 pat boxes) j = some rt → j0 ≤ j ∧ ∃ b, bl[j - j0]? = some b ∧ rt.h = none ∧ addrOf [0] rt.ty (pl j).ct (0, 0) = (b, 0) ∧ (∃ hv, Own w T rt.ty (rt.k + 1) rt.x rt.h (pl j).ct [hv] (pl j).F) ∧ ∀ n, (pl j).F n → F n) ∧
      ∀ j j' rt rt' n, lk (rtsS j0 pat boxes) j = some rt → lk (rtsS j0 pat boxes) j' = some rt' → (pl j).F n → (pl j').F n → j = j'
  | _, _, _, _, _, _, .nil, i0, j0 => ⟨Nat.le_refl _, fun i av h => by simp [envS, lk] at h, fun _ => ⟨.leaf, noF⟩, fun j rt h => by simp [rtsS, lk] at h, fun j j' rt rt' n h => by simp [rtsS, lk] at h⟩
  | _, _, _, _, _, _, .val (t := t) (x := x) (u := u) h hl, i0, j0 => by
    obtain ⟨l1, l2, pl, l3, l4⟩ := stArgs_get hl (i0 + 1) j0
    refine ⟨by simpa using l1, fun i av hi => ?_, pl, l3, l4⟩
    simp only [envS, lk] at hi
    split at hi
    · rename_i e
      subst e
      cases hi
      exact ⟨Nat.le_refl _, _, by simp, .inl ⟨t, x, u, rfl, rfl, h⟩⟩
    · obtain ⟨g1, u', g2, g3⟩ := l2 i av hi
      exact ⟨by omega, u', by rw [show i - i0 = (i - (i0 + 1)) + 1 by omega]; simpa using g2, g3⟩
  | _, _, _, _, _, _, .cap (t := t) (x := x) (b := b) (o := o) (arr := arr) (E := E) (fr := fr) h1 h2 h3 h4 hl, i0, j0 => by
    obtain ⟨l1, l2, pl, l3, l4⟩ := stArgs_get hl (i0 + 1) j0
    refine ⟨by simpa using l1, fun i av hi => ?_, pl, l3, l4⟩
    simp only [envS, lk] at hi
    split at hi
    · rename_i e
      subst e
      cases hi
      exact ⟨Nat.le_refl _, _, by simp, .inr (.inl ⟨t, x, b, o, arr, E, fr, rfl, rfl, h1, h2, h3, h4⟩)⟩
    · obtain ⟨g1, u', g2, g3⟩ := l2 i av hi
      exact ⟨by omega, u', by rw [show i - i0 = (i - (i0 + 1)) + 1 by omega]; simpa using g2, g3⟩
  | _, _, _, _, _, _, .capl (t := t) (x := x) (b := b) (arr := arr) (E := E) (fr := fr) h1 h2 h3 h4 hl, i0, j0 => by
    obtain ⟨l1, l2, pl, l3, l4⟩ := stArgs_get hl (i0 + 1) j0
    refine ⟨by simpa using l1, fun i av hi => ?_, pl, l3, l4⟩
    simp only [envS, lk] at hi
    split at hi
    · rename_i e
      subst e
      cases hi
      exact ⟨Nat.le_refl _, _, by simp, .inr (.inr (.inr ⟨b, t, x, rfl, rfl, arr, E, fr, h1, h2, h3, h4⟩))⟩
    · obtain ⟨g1, u', g2, g3⟩ := l2 i av hi
      exact ⟨by omega, u', by rw [show i - i0 = (i - (i0 + 1)) + 1 by omega]; simpa using g2, g3⟩
  | _, _, _, _, _, _, .gho (e := e) (t := t) (x := x) (F := F) (G := G) (b := b) (cap := cap) (kids := kids) (hv := hv) h hd hl, i0, j0 => by
    obtain ⟨l1, l2, pl, l3, l4⟩ := stArgs_get hl i0 (j0 + 1)
    refine ⟨by simp only [List.length_cons]; omega, fun i av hi => ?_, fun j => if j = j0 then ⟨.node b cap kids, G⟩ else pl j, fun j rt hj => ?_, fun j j' rt rt' n hj hj' hn hn' => ?_⟩
    · simp only [envS] at hi
      obtain ⟨g1, u', g2, g3⟩ := l2 i av hi
      refine ⟨g1, u', g2, ?_⟩
      rcases g3 with g3 | g3 | ⟨j, c, q1, q2, q3, q4⟩ | g3
      · exact .inl g3
      · exact .inr (.inl g3)
      · exact .inr (.inr (.inl ⟨j, c, q1, by omega, by rw [show j - j0 = (j - (j0 + 1)) + 1 by omega]; simpa using q3, q4⟩))
      · exact .inr (.inr (.inr g3))
    · simp only [rtsS, lk] at hj
      split at hj
      · rename_i e
        subst e
        cases hj
        refine ⟨Nat.le_refl _, b, by simp, rfl, ?_, ⟨hv, ?_⟩, fun n hn => ?_⟩
        · simp only [if_true]; simp [RT.ty, addrOf]
        · simp only [if_true]; exact h
        · simp only [if_true] at hn; exact .inl hn
      · rename_i e
        obtain ⟨g1, c, g2, g3, g4, g5, g6⟩ := l3 j rt hj
        have hne : ¬ j = j0 := by omega
        simp only [if_neg hne]
        exact ⟨by omega, c, by rw [show j - j0 = (j - (j0 + 1)) + 1 by omega]; simpa using g2, g3, g4, g5, fun n hn => .inr (g6 n hn)⟩
    · simp only [rtsS, lk] at hj hj'
      by_cases e1 : j0 = j
      · by_cases e2 : j0 = j'
        · exact e1.symm.trans e2
        · rw [if_neg e2] at hj'
          subst e1
          simp only [if_true] at hn
          simp only [if_neg (Ne.symm e2)] at hn'
          obtain ⟨_, _, _, _, _, _, g6⟩ := l3 j' rt' hj'
          exact absurd (g6 n hn') (hd n hn)
      · rw [if_neg e1] at hj
        simp only [if_neg (Ne.symm e1)] at hn
        obtain ⟨_, _, _, _, _, _, g6⟩ := l3 j rt hj
        by_cases e2 : j0 = j'
        · subst e2
          simp only [if_true] at hn'
          exact absurd (g6 n hn) (hd n hn')
        · rw [if_neg e2] at hj'
          simp only [if_neg (Ne.symm e2)] at hn'
          exact l4 j j' rt rt' n hj hj' hn hn'
  | _, _, _, _, _, _, .box (e := e) (t := t) (x := x) (F := F) (G := G) (b := b) (cap := cap) (kids := kids) (hv := hv) h hd hl, i0, j0 => by
    obtain ⟨l1, l2, pl, l3, l4⟩ := stArgs_get hl (i0 + 1) (j0 + 1)
    refine ⟨by simpa using l1, fun i av hi => ?_, fun j => if j = j0 then ⟨.node b cap kids, G⟩ else pl j, fun j rt hj => ?_, fun j j' rt rt' n hj hj' hn hn' => ?_⟩
    · simp only [envS, lk] at hi
      split at hi
      · rename_i e
        subst e
        cases hi
        exact ⟨Nat.le_refl _, _, by simp, .inr (.inr (.inl ⟨j0, b, rfl, Nat.le_refl _, by simp, rfl⟩))⟩
      · obtain ⟨g1, u', g2, g3⟩ := l2 i av hi
        refine ⟨by omega, u', by rw [show i - i0 = (i - (i0 + 1)) + 1 by omega]; simpa using g2, ?_⟩
        rcases g3 with g3 | g3 | ⟨j, c, q1, q2, q3, q4⟩ | g3
        · exact .inl g3
        · exact .inr (.inl g3)
        · exact .inr (.inr (.inl ⟨j, c, q1, by omega, by rw [show j - j0 = (j - (j0 + 1)) + 1 by omega]; simpa using q3, q4⟩))
        · exact .inr (.inr (.inr g3))
    · simp only [rtsS, lk] at hj
      split at hj
      · rename_i e
        subst e
        cases hj
        refine ⟨Nat.le_refl _, b, by simp, rfl, ?_, ⟨hv, ?_⟩, fun n hn => ?_⟩
        · simp only [if_true]; simp [RT.ty, addrOf]
        · simp only [if_true]; exact h
        · simp only [if_true] at hn; exact .inl hn
      · rename_i e
        obtain ⟨g1, c, g2, g3, g4, g5, g6⟩ := l3 j rt hj
        have hne : ¬ j = j0 := by omega
        simp only [if_neg hne]
        exact ⟨by omega, c, by rw [show j - j0 = (j - (j0 + 1)) + 1 by omega]; simpa using g2, g3, g4, g5, fun n hn => .inr (g6 n hn)⟩
    · simp only [rtsS, lk] at hj hj'
      by_cases e1 : j0 = j
      · by_cases e2 : j0 = j'
        · exact e1.symm.trans e2
        · rw [if_neg e2] at hj'
          subst e1
          simp only [if_true] at hn
          simp only [if_neg (Ne.symm e2)] at hn'
          obtain ⟨_, _, _, _, _, _, g6⟩ := l3 j' rt' hj'
          exact absurd (g6 n hn') (hd n hn)
      · rw [if_neg e1] at hj
        simp only [if_neg (Ne.symm e1)] at hn
        obtain ⟨_, _, _, _, _, _, g6⟩ := l3 j rt hj
        by_cases e2 : j0 = j'
        · subst e2
          simp only [if_true] at hn'
          exact absurd (g6 n hn) (hd n hn')
        · rw [if_neg e2] at hj'
          simp only [if_neg (Ne.symm e2)] at hn'
          exact l4 j j' rt rt' n hj hj' hn hn'
  | _, _, _, _, _, _, .one (e := e) (t := t) (x := x) (F := F) (G := G) (b := b) (kids := kids) (hv := hv) h hd hl, i0, j0 => by
    obtain ⟨l1, l2, pl, l3, l4⟩ := stArgs_get hl (i0 + 1) (j0 + 1)
    refine ⟨by simpa using l1, fun i av hi => ?_, fun j => if j = j0 then ⟨.node b 1 kids, G⟩ else pl j, fun j rt hj => ?_, fun j j' rt rt' n hj hj' hn hn' => ?_⟩
    · simp only [envS, lk] at hi
      split at hi
      · rename_i e
        subst e
        cases hi
        exact ⟨Nat.le_refl _, _, by simp, .inr (.inr (.inl ⟨j0, b, rfl, Nat.le_refl _, by simp, rfl⟩))⟩
      · obtain ⟨g1, u', g2, g3⟩ := l2 i av hi
        refine ⟨by omega, u', by rw [show i - i0 = (i - (i0 + 1)) + 1 by omega]; simpa using g2, ?_⟩
        rcases g3 with g3 | g3 | ⟨j, c, q1, q2, q3, q4⟩ | g3
        · exact .inl g3
        · exact .inr (.inl g3)
        · exact .inr (.inr (.inl ⟨j, c, q1, by omega, by rw [show j - j0 = (j - (j0 + 1)) + 1 by omega]; simpa using q3, q4⟩))
        · exact .inr (.inr (.inr g3))
    · simp only [rtsS, lk] at hj
      split at hj
      · rename_i e
        subst e
        cases hj
        refine ⟨Nat.le_refl _, b, by simp, rfl, ?_, ⟨hv, ?_⟩, fun n hn => ?_⟩
        · simp only [if_true]; simp [RT.ty, addrOf]
        · simp only [if_true]; exact h
        · simp only [if_true] at hn; exact .inl hn
      · rename_i e
        obtain ⟨g1, c, g2, g3, g4, g5, g6⟩ := l3 j rt hj
        have hne : ¬ j = j0 := by omega
        simp only [if_neg hne]
        exact ⟨by omega, c, by rw [show j - j0 = (j - (j0 + 1)) + 1 by omega]; simpa using g2, g3, g4, g5, fun n hn => .inr (g6 n hn)⟩
    · simp only [rtsS, lk] at hj hj'
      by_cases e1 : j0 = j
      · by_cases e2 : j0 = j'
        · exact e1.symm.trans e2
        · rw [if_neg e2] at hj'
          subst e1
          simp only [if_true] at hn
          simp only [if_neg (Ne.symm e2)] at hn'
          obtain ⟨_, _, _, _, _, _, g6⟩ := l3 j' rt' hj'
          exact absurd (g6 n hn') (hd n hn)
      · rw [if_neg e1] at hj
        simp only [if_neg (Ne.symm e1)] at hn
        obtain ⟨_, _, _, _, _, _, g6⟩ := l3 j rt hj
        by_cases e2 : j0 = j'
        · subst e2
          simp only [if_true] at hn'
          exact absurd (g6 n hn) (hd n hn')
        · rw [if_neg e2] at hj'
          simp only [if_neg (Ne.symm e2)] at hn'
          exact l4 j j' rt rt' n hj hj' hn hn'
  | _, _, _, _, _, _, .gone (e := e) (t := t) (x := x) (F := F) (G := G) (b := b) (kids := kids) (hv := hv) h hd hl, i0, j0 => by
    obtain ⟨l1, l2, pl, l3, l4⟩ := stArgs_get hl (i0 + 1) (j0 + 1)
    refine ⟨by simpa using l1, fun i av hi => ?_, fun j => if j = j0 then ⟨.node b 1 kids, G⟩ else pl j, fun j rt hj => ?_, fun j j' rt rt' n hj hj' hn hn' => ?_⟩
    · simp only [envS, lk] at hi
      split at hi
      · rename_i e
        subst e
        cases hi
        exact ⟨Nat.le_refl _, _, by simp, .inr (.inr (.inl ⟨j0, b, rfl, Nat.le_refl _, by simp, rfl⟩))⟩
      · obtain ⟨g1, u', g2, g3⟩ := l2 i av hi
        refine ⟨by omega, u', by rw [show i - i0 = (i - (i0 + 1)) + 1 by omega]; simpa using g2, ?_⟩
        rcases g3 with g3 | g3 | ⟨j, c, q1, q2, q3, q4⟩ | g3
        · exact .inl g3
        · exact .inr (.inl g3)
        · exact .inr (.inr (.inl ⟨j, c, q1, by omega, by rw [show j - j0 = (j - (j0 + 1)) + 1 by omega]; simpa using q3, q4⟩))
        · exact .inr (.inr (.inr g3))
    · simp only [rtsS, lk] at hj
      split at hj
      · rename_i e
        subst e
        cases hj
        refine ⟨Nat.le_refl _, b, by simp, rfl, ?_, ⟨hv, ?_⟩, fun n hn => ?_⟩
        · simp only [if_true]; simp [RT.ty, addrOf]
        · simp only [if_true]; exact h
        · simp only [if_true] at hn; exact .inl hn
      · rename_i e
        obtain ⟨g1, c, g2, g3, g4, g5, g6⟩ := l3 j rt hj
        have hne : ¬ j = j0 := by omega
        simp only [if_neg hne]
        exact ⟨by omega, c, by rw [show j - j0 = (j - (j0 + 1)) + 1 by omega]; simpa using g2, g3, g4, g5, fun n hn => .inr (g6 n hn)⟩
    · simp only [rtsS, lk] at hj hj'
      by_cases e1 : j0 = j
      · by_cases e2 : j0 = j'
        · exact e1.symm.trans e2
        · rw [if_neg e2] at hj'
          subst e1
          simp only [if_true] at hn
          simp only [if_neg (Ne.symm e2)] at hn'
          obtain ⟨_, _, _, _, _, _, g6⟩ := l3 j' rt' hj'
          exact absurd (g6 n hn') (hd n hn)
      · rw [if_neg e1] at hj
        simp only [if_neg (Ne.symm e1)] at hn
        obtain ⟨_, _, _, _, _, _, g6⟩ := l3 j rt hj
        by_cases e2 : j0 = j'
        · subst e2
          simp only [if_true] at hn'
          exact absurd (g6 n hn) (hd n hn')
        · rw [if_neg e2] at hj'
          simp only [if_neg (Ne.symm e2)] at hn'
          exact l4 j j' rt rt' n hj hj' hn hn'

theorem stOut_of {N : Nat} {w0 w' : World} {S0 S T : Nat → Prop} {s : XS} {a : Act} {pl : Nat → PL} (R : RelAt w0 S0 N false noPins s a w' S pl) (hT : ∀ n, T n → S n) {n : Nat} : ∀ (pat : List PA) (bl : List Nat) (j : Nat) (p : Prop) (bx : List TV), boxS n s j pat bl = some (p, bx) → p →
    ∃ H, StOut w' T pat bl bx H ∧ ∀ m, H m → ∃ q rt, j ≤ q ∧ q < j + bl.length ∧ s.root q = some rt ∧ (pl q).F m
  | [], [], _, p, bx, h, _ => by
    simp only [boxS, Option.some.injEq, Prod.mk.injEq] at h
    obtain ⟨_, rfl⟩ := h
    exact ⟨noF, .nil, fun m hm => hm.elim⟩
  | [], _ :: _, _, _, _, h, _ => by simp [boxS] at h
  | .box _ _ :: _, [], _, _, _, h, _ => by simp [boxS] at h
  | .gho _ _ :: _, [], _, _, _, h, _ => by simp [boxS] at h
  | .one _ _ :: _, [], _, _, _, h, _ => by simp [boxS] at h
  | .gone _ _ :: _, [], _, _, _, h, _ => by simp [boxS] at h
  | .one _ _ :: _, _ :: _, _, _, _, h, _ => by simp [boxS] at h
  | .gone _ _ :: _, _ :: _, _, _, _, h, _ => by simp [boxS] at h
  | .val t :: ps, bl, j, p, bx, h, hp => by
    simp only [boxS] at h
    obtain ⟨H, h1, h2⟩ := stOut_of R hT ps bl j p bx h hp
    exact ⟨H, .val h1, h2⟩
  | .cap t :: ps, bl, j, p, bx, h, hp => by
    simp only [boxS] at h
    obtain ⟨H, h1, h2⟩ := stOut_of R hT ps bl j p bx h hp
    exact ⟨H, .cap h1, h2⟩
  | .capl t :: ps, bl, j, p, bx, h, hp => by
    simp only [boxS] at h
    obtain ⟨H, h1, h2⟩ := stOut_of R hT ps bl j p bx h hp
    exact ⟨H, .capl h1, h2⟩
  | .gho e t :: ps, b :: bl, j, p, bx, h, hp => by
    simp only [boxS] at h
    split at h
    · rename_i rt q b' p' l hr hq hb
      split at h
      · rename_i x hx hh
        split at h
        · rename_i hc
          obtain ⟨rfl, rfl, hk, hok, rfl⟩ := hc
          simp only [Option.some.injEq, Prod.mk.injEq] at h
          obtain ⟨rfl, rfl⟩ := h
          obtain ⟨rfl, hp'⟩ := hp
          obtain ⟨H, h1, h2⟩ := stOut_of R hT ps bl (q + 1) p' l hb hp'
          obtain ⟨c, cap, kids, hv, e1, HO⟩ := cell_node_er R hr hx hh hk hok
          have hloc := (R.env _ _ hq).1 rt hr
          have : c = b' := by
            rw [e1] at hloc
            simp only [RT.ty, addrOf, Prod.mk.injEq] at hloc
            exact hloc.1
          subst this
          refine ⟨fun m => (pl q).F m ∨ H m, .gho HO (fun m hm => ⟨fun hTm => (R.Flt q rt m hr hm).2 (hT m hTm), (R.Flt q rt m hr hm).1⟩) (fun m hm hH => ?_) h1, fun m hm => ?_⟩
          · obtain ⟨q', rt', g1, g2, g3, g4⟩ := h2 m hH
            have := R.disj q q' rt rt' m hr g3 hm g4
            omega
          · rcases hm with hm | hm
            · exact ⟨q, rt, Nat.le_refl _, by simp, hr, hm⟩
            · obtain ⟨q', rt', g1, g2, g3, g4⟩ := h2 m hm
              exact ⟨q', rt', by omega, by simp only [List.length_cons]; omega, g3, g4⟩
        · cases h
      · cases h
    · cases h
  | .box e t :: ps, b :: bl, j, p, bx, h, hp => by
    simp only [boxS] at h
    split at h
    · rename_i rt q b' p' l hr hq hb
      split at h
      · rename_i x hx hh
        split at h
        · rename_i hc
          obtain ⟨rfl, rfl, hk, hok, rfl⟩ := hc
          simp only [Option.some.injEq, Prod.mk.injEq] at h
          obtain ⟨rfl, rfl⟩ := h
          obtain ⟨rfl, hp'⟩ := hp
          obtain ⟨H, h1, h2⟩ := stOut_of R hT ps bl (q + 1) p' l hb hp'
          obtain ⟨c, cap, kids, hv, e1, HO⟩ := cell_node_er R hr hx hh hk hok
          have hloc := (R.env _ _ hq).1 rt hr
          have : c = b' := by
            rw [e1] at hloc
            simp only [RT.ty, addrOf, Prod.mk.injEq] at hloc
            exact hloc.1
          subst this
          refine ⟨fun m => (pl q).F m ∨ H m, .box HO (fun m hm => ⟨fun hTm => (R.Flt q rt m hr hm).2 (hT m hTm), (R.Flt q rt m hr hm).1⟩) (fun m hm hH => ?_) h1, fun m hm => ?_⟩
          · obtain ⟨q', rt', g1, g2, g3, g4⟩ := h2 m hH
            have := R.disj q q' rt rt' m hr g3 hm g4
            omega
          · rcases hm with hm | hm
            · exact ⟨q, rt, Nat.le_refl _, by simp, hr, hm⟩
            · obtain ⟨q', rt', g1, g2, g3, g4⟩ := h2 m hm
              exact ⟨q', rt', by omega, by simp only [List.length_cons]; omega, g3, g4⟩
        · cases h
      · cases h
    · cases h

theorem rets_more {T U : Nat → Prop} {w' : World} {outs : List TV} {us : List Value} {F : Nat → Prop} (h : Rets T w' outs us F) (hU : ∀ n, F n → ¬ U n) : Rets (fun n => T n ∨ U n) w' outs us F := by
  induction h with
  | nil => exact .nil
  | cons h1 _ hd ih => exact .cons ⟨fun n hn => ⟨fun hc => hc.elim (h1.1 n hn).1 (hU n (.inl hn)), (h1.1 n hn).2⟩, h1.2⟩ (ih fun n hn => hU n (.inr hn)) hd

theorem FnSt_of (f : Nat) (fn : Func) (c : Code) (slots : List Nat) (sp : SpecS) (hf : P.funcs[f]? = some fn) (hb : fn.body = some c) (hn : (fn.name == "runtime.NumGoroutine") = false) (hres : fn.results.toList = slots.map ResultVar.tmp)
    (hnt : fn.ntmps = C.n) (hps : sp.pat.length ≤ fn.ntmps)
    (h : ∀ (bl : List Nat) (vals boxes : List TV) (K : List TV → List TV → Prop), (∃ w T vs F, StArgs w T sp.pat bl vals boxes vs F) → sp.wp bl vals boxes K → ∀ (w0 : World) (S0 : Nat → Prop), XW P C w0 S0 c (retS C.n slots sp.pat bl K) (XS.initS C.n sp.pat bl vals boxes)) : FnSt P f sp := by
  refine ⟨⟨fn, hf, hn, by rw [hb]; rfl⟩, fun bl vals boxes K hK w vs F hA hF => ?_⟩
  obtain ⟨l1, l2, pl, l3, l4⟩ := stArgs_get hA 0 0
  refine calls_of_wp hf hb (Go.wp_mono (h bl vals boxes K ⟨_, _, _, _, hA⟩ hK w (butF w F) _ w ⟨butF w F, pl, ?_⟩) fun ex a' w' hh => ?_)
  · refine { defers := rfl, size := ?_, os := rfl, tape := rfl, output := SameOut.refl w, grow := Nat.le_refl _, stay := fun _ _ => rfl, base := fun _ h => h, lt := fun _ h => h.1, own := fun r rt h => ?_, Flt := fun r rt b h hb => ?_, disj := fun r r' rt rt' b h h' hn hn' => l4 r r' rt rt' b h h' hn hn', ids := fun r rt h => ?_, env := fun i av hi => ?_, pins := (fun h => by cases h), news := fun i b f hi => ?_ }
    · simp only [Array.size_append, List.size_toArray, Array.size_replicate]; omega
    · obtain ⟨_, _, _, _, _, g5, _⟩ := l3 r rt h
      exact g5
    · obtain ⟨_, _, _, _, _, _, g6⟩ := l3 r rt h
      exact ⟨hF b (g6 b hb), fun h' => h'.2 (g6 b hb)⟩
    · obtain ⟨_, b, g2, _⟩ := l3 r rt h
      exact (List.getElem?_eq_some_iff.1 g2).1
    · rcases lk_app hi with hi | hi
      · obtain ⟨_, u, g2, g3⟩ := l2 i av hi
        simp only [Nat.sub_zero] at g2
        have hlt : i < vs.length := (List.getElem?_eq_some_iff.1 g2).1
        have hu : (vs.toArray ++ Array.replicate (fn.ntmps - vs.toArray.size) undef).getD i undef = u := by
          simp only [Array.getD_eq_getD_getElem?]
          rw [Array.getElem?_append_left (by simpa using hlt)]
          simp [g2]
        show AVR w (butF w F) (rtsS 0 sp.pat boxes) pl av ((vs.toArray ++ Array.replicate (fn.ntmps - vs.toArray.size) undef).getD i undef) ∧ av.lt bl.length
        rw [hu]
        rcases g3 with ⟨t, x, cs, rfl, e, g⟩ | ⟨t, x, b, o, arr, E, fr, rfl, e, q1, q2, q3, q4⟩ | ⟨j, b, rfl, _, q2, e⟩ | ⟨b, t, x, rfl, e, q1⟩
        · exact ⟨⟨cs, e, g⟩, AV.lt_dat⟩
        · exact ⟨⟨b, o, arr, E, fr, e, q1, q2, q3, q4⟩, AV.lt_rptr⟩
        · simp only [Nat.sub_zero] at q2
          refine ⟨fun rt hrt => ?_, fun q hq => ?_⟩
          · obtain ⟨_, b', g2', _, g4, _⟩ := l3 j rt hrt
            simp only [Nat.sub_zero] at g2'
            rw [q2] at g2'
            cases g2'
            rw [e]; unfold addrP; rw [g4]
          · simp only [AV.ids, List.mem_singleton] at hq
            subst hq
            exact (List.getElem?_eq_some_iff.1 q2).1
        · exact ⟨⟨e, q1⟩, fun r hr => by simp [AV.ids] at hr⟩
      · obtain ⟨b, q, rfl, _, g3, _⟩ := locS_get hi
        simp only [Nat.sub_zero] at g3
        refine ⟨fun rt hrt => ?_, fun r hr => ?_⟩
        · obtain ⟨_, b', g2', _, g4, _⟩ := l3 q rt hrt
          simp only [Nat.sub_zero] at g2'
          rw [g3] at g2'
          cases g2'
          exact g4
        · simp only [AV.ids, List.mem_singleton] at hr
          subst hr
          exact (List.getElem?_eq_some_iff.1 g3).1
    · rcases lk_app hi with hi | hi
      · obtain ⟨_, u, _, g3⟩ := l2 i _ hi
        rcases g3 with ⟨t, x, cs, e, _⟩ | ⟨t, x, b, o, arr, E, fr, e, _⟩ | ⟨j, b, e, _⟩ | ⟨b, t, x, e, _⟩ <;> cases e
      · obtain ⟨b, q, e, _⟩ := locS_get hi
        cases e
  · obtain ⟨s', h1, S, pl', R⟩ := hh
    have g : Turned (butF w F) w w' := ⟨R.os, R.tape, R.output, R.grow, R.stay⟩
    have fin : (match outsOf s' slots, boxS C.n s' 0 sp.pat bl with | some (rs, vs), some (p, bx) => (rs.all fun r => decide (bl.length ≤ r)) = true ∧ p ∧ K vs bx | _, _ => False) →
        a'.defers = [] ∧ ∃ v, (results fn a'.tmps).run P w' = .ok v w' ∧ Turned (butF w F) w w' ∧ ∃ outs bx us G H, K outs bx ∧ v = valOf us ∧ StOut w' (butF w F) sp.pat bl bx H ∧ Rets (fun n => butF w F n ∨ H n) w' outs us G := by
      intro h1
      cases ho : outsOf s' slots with
      | none => rw [ho] at h1; exact h1.elim
      | some rv =>
        obtain ⟨rs, vs'⟩ := rv
        cases hbx : boxS C.n s' 0 sp.pat bl with
        | none => rw [ho, hbx] at h1; exact h1.elim
        | some pb =>
          obtain ⟨p, bx⟩ := pb
          rw [ho, hbx] at h1
          obtain ⟨c1, c2, c3⟩ := h1
          obtain ⟨G, hR, hG⟩ := outsOf_ok R slots rs vs' ho
          obtain ⟨H, q1, q2⟩ := stOut_of R (fun n hn => R.base n hn) sp.pat bl 0 p bx hbx c2
          refine ⟨R.defers, _, run_results hres a'.tmps, g, vs', bx, _, G, H, c3, rfl, q1, rets_more hR fun n hn hH => ?_⟩
          obtain ⟨q, rt, _, g2, g3, g4⟩ := q2 n hH
          obtain ⟨r, rt', hr, hr', hF'⟩ := hG n hn
          have := R.disj q r rt rt' n g3 hr' g4 hF'
          subst this
          have := List.all_eq_true.1 c1 _ hr
          simp only [decide_eq_true_eq] at this
          omega
    cases ex with
    | normal => exact fin h1
    | ret => exact fin h1
    | exit => exact h1.elim
    | goto => exact h1.elim
    | panic => exact h1.elim
    | outgrown => exact h1.elim
end
end Fer

namespace Fer
open Go

section
variable {P : Program} {C : Ctx} {w0 : World} {S0 : Nat → Prop} {s : XS} {Q : Exit → XS → Prop} {x : Code}
theorem RelAt.again {N : Nat} {dr : Bool} {pc : Pins} {a : Act} {w : World} {S : Nat → Prop} {pl : Nat → PL} (R : RelAt w0 S0 N dr pc s a w S pl) {n : Nat} {av : AV} (h : AVR w S s.rts pl av (a.tmps.getD n undef)) (hl : av.lt s.nxt) (hp : av.plain = true) : RelAt w0 S0 N dr pc { s with env := (n, av) :: s.env } a w S pl := by
  refine { defers := R.defers, size := R.size, os := R.os, tape := R.tape, output := R.output, grow := R.grow, stay := R.stay, base := R.base, lt := R.lt, own := R.own, Flt := R.Flt, disj := R.disj, ids := R.ids, env := fun i u hi => ?_, pins := R.pins, news := fun i c f hi => ?_ }
  · simp only [XS.get, lk] at hi
    split at hi
    · rename_i e
      subst e
      cases hi; exact ⟨h, hl⟩
    · exact R.env i u hi
  · simp only [XS.get, lk] at hi
    split at hi
    · cases hi; cases hp
    · exact R.news i c f hi
end
end Fer

namespace Fer
open Go

section
variable {P : Program} {C : Ctx} {w0 : World} {S0 : Nat → Prop} {N : Nat} {s : XS} {a : Act} {w w' : World} {S : Nat → Prop} {pl : Nat → PL} {c : Code} {Q : Exit → XS → Prop}

def XS.freeze (s : XS) (r i : Nat) (rt : RT) : XS := { s.kill r with env := (i, .dat rt.ty rt.x) :: s.env }

theorem RelAt.freeze (R : RelAt w0 S0 N false noPins s a w S pl) {r i : Nat} {rt : RT} (hr : s.root r = some rt) (hh : rt.h = none) (hi : s.get i = some (.ref r [])) : Rel w0 S0 N false noPins (s.freeze r i rt) a w := by
  obtain ⟨hv, H⟩ := R.own r rt hr
  rw [hh] at H
  have hvv : a.tmps.getD i undef = hv := by
    have h1 := (R.env i _ hi).1 rt hr
    rw [h1]
    exact (H.hdr (by simp)).1.symm
  have hro := H.freeze (S' := fun b => S b ∨ (pl r).F b) (fun b hb => .inl hb) fun b hb => .inr hb
  have hk2 : ∀ r2 rt2, (s.kill r).root r2 = some rt2 → r2 ≠ r ∧ s.root r2 = some rt2 := fun r2 rt2 h => lk_rm_some h
  have R1 := (R.kill r).widen (S' := fun b => S b ∨ (pl r).F b) (fun b hb => .inl hb) (fun b hb => hb.elim (R.lt b) fun h => (R.Flt r _ b hr h).1)
    (fun r2 rt2 b h2 hb hS => hS.elim (R.Flt r2 rt2 b (hk2 r2 rt2 h2).2 hb).2 fun hF => (hk2 r2 rt2 h2).1 (R.disj r2 r rt2 _ b (hk2 r2 rt2 h2).2 hr hb hF))
  refine ⟨_, _, { R1 with env := fun j av hj => ?_, news := fun j b f hj => ?_ }⟩
  · have hj : lk ((i, .dat rt.ty rt.x) :: s.env) j = some av := hj
    simp only [lk] at hj
    by_cases e : i = j
    · rw [if_pos e] at hj
      have hj := (Option.some.inj hj).symm
      subst hj
      subst e
      refine ⟨⟨[hv], ?_, hro⟩, AV.lt_dat⟩
      rw [hvv]
      rfl
    · rw [if_neg e] at hj
      exact R1.env j av hj
  · have hj : lk ((i, .dat rt.ty rt.x) :: s.env) j = some (.mp b f) := hj
    simp only [lk] at hj
    by_cases e : i = j
    · rw [if_pos e] at hj; cases hj
    · rw [if_neg e] at hj; exact R1.news j b f hj

theorem XW.freeze {r i : Nat} {rt : RT} (hr : s.root r = some rt) (hh : rt.h = none) (hi : s.get i = some (.ref r [])) (h : XW P C w0 S0 c Q (s.freeze r i rt)) : XW P C w0 S0 c Q s := fun a w ⟨_, _, R⟩ => h a w (R.freeze hr hh hi)
end

section
variable {w : World} {T : Nat → Prop} {t : Ty} {e : Nat} {ps : List PA} {bl : List Nat} {vals boxes : List TV} {vs : List Value} {F : Nat → Prop}
theorem sa_val (h : StArgs w T (.val t :: ps) bl vals boxes vs F) : ∃ (x : t.den) (vals' : List TV) (vs' : List Value) (F' : Nat → Prop), vals = ⟨t, x⟩ :: vals' ∧ StArgs w T ps bl vals' boxes vs' F' := by
  cases h with
  | val h hl => exact ⟨_, _, _, _, rfl, hl⟩
theorem sa_capl (h : StArgs w T (.capl t :: ps) bl vals boxes vs F) : ∃ (x : t.den) (b : Nat) (vals' : List TV) (vs' : List Value) (F' : Nat → Prop), vals = ⟨t, x⟩ :: ⟨.int .i64, (b : Int)⟩ :: vals' ∧ StArgs w T ps bl vals' boxes vs' F' := by
  cases h with
  | capl h1 h2 h3 h4 hl => exact ⟨_, _, _, _, _, rfl, hl⟩
theorem sa_box (h : StArgs w T (.box e t :: ps) bl vals boxes vs F) : ∃ (b : Nat) (x : t.den) (bl' : List Nat) (boxes' : List TV) (vs' : List Value) (F' : Nat → Prop), bl = b :: bl' ∧ boxes = ⟨t, x⟩ :: boxes' ∧ StArgs w T ps bl' vals boxes' vs' F' := by
  cases h with
  | box h hd hl => exact ⟨_, _, _, _, _, _, rfl, rfl, hl⟩
theorem sa_gho (h : StArgs w T (.gho e t :: ps) bl vals boxes vs F) : ∃ (b : Nat) (x : t.den) (bl' : List Nat) (boxes' : List TV) (vs' : List Value) (F' : Nat → Prop), bl = b :: bl' ∧ boxes = ⟨t, x⟩ :: boxes' ∧ StArgs w T ps bl' vals boxes' vs' F' := by
  cases h with
  | gho h hd hl => exact ⟨_, _, _, _, _, _, rfl, rfl, hl⟩
theorem sa_nil (h : StArgs w T [] bl vals boxes vs F) : bl = [] ∧ vals = [] ∧ boxes = [] := by
  cases h; exact ⟨rfl, rfl, rfl⟩
end
end Fer

namespace Fer
open Go

set_option linter.defProp false in
def zd := And.intro (And.intro (And.intro (And.intro (And.intro (And.intro (And.intro (And.intro @xglob.eq_def @XS.low.eq_def) (And.intro @Ty.plainL.eq_1 @Ty.plainL.eq_2)) (And.intro (And.intro @Ty.plainL.eq_3 @Ty.plainL.eq_4) (And.intro @Ty.plainL.eq_5 (And.intro @Ty.plainL.eq_6 @zAV.eq_def)))) (And.intro (And.intro (And.intro @pAt.eq_1 @pAt.eq_2) (And.intro @bareAV.eq_def @bldFs.eq_1)) (And.intro (And.intro @bldFs.eq_2 @ascB.eq_1) (And.intro @ascB.eq_2 (And.intro @bldGAV.eq_def @zOf.eq_def))))) (And.intro (And.intro (And.intro (And.intro @bxFs.eq_1 @bxFs.eq_2) (And.intro @bxFs.eq_3 @bxFs.eq_4)) (And.intro (And.intro @bxFs.eq_5 @bxStr.eq_def) (And.intro @roSt.eq_def (And.intro @selfAV.eq_def @fnSt.eq_def)))) (And.intro (And.intro (And.intro @cloIn.eq_1 @cloIn.eq_2) (And.intro @cloIn.eq_3 @parAVs.eq_1)) (And.intro (And.intro @parAVs.eq_2 @cloAVs.eq_def) (And.intro @locsB.eq_1 (And.intro @locsB.eq_2 @locsB.eq_3)))))) (And.intro (And.intro (And.intro (And.intro (And.intro @locsB.eq_4 @caplAV.eq_def) (And.intro @sameTV.eq_def @roSame.eq_1)) (And.intro (And.intro @roSame.eq_2 @roSame.eq_3) (And.intro @roSame.eq_4 (And.intro @roSame.eq_5 @roSame.eq_6)))) (And.intro (And.intro (And.intro @roSame.eq_7 @roSame.eq_8) (And.intro @roSame.eq_9 @roSame.eq_10)) (And.intro (And.intro @stSame.eq_1 @stSame.eq_2) (And.intro @stSame.eq_3 (And.intro @stSame.eq_4 @stSame.eq_5))))) (And.intro (And.intro (And.intro (And.intro @stSame.eq_6 @stSame.eq_7) (And.intro @stSame.eq_8 @ghoIn.eq_1)) (And.intro (And.intro @ghoIn.eq_2 @blksOf.eq_1) (And.intro @blksOf.eq_2 (And.intro @argN.eq_def @ptrsB.eq_1)))) (And.intro (And.intro (And.intro @ptrsB.eq_2 @ptrsB.eq_3) (And.intro @ptrsB.eq_4 @typAVs.eq_1)) (And.intro (And.intro @typAVs.eq_2 @typAVs.eq_3) (And.intro @stCall.eq_def (And.intro @stBox.eq_def @oneOf.eq_def))))))) (And.intro (And.intro (And.intro (And.intro (And.intro (And.intro @oneIn.eq_1 @oneIn.eq_2) (And.intro @oneIn.eq_3 @named.eq_1)) (And.intro (And.intro @named.eq_2 @locOf.eq_def) (And.intro @locIn.eq_1 (And.intro @locIn.eq_2 @locIn.eq_3)))) (And.intro (And.intro (And.intro @stRoots.eq_1 @stRoots.eq_2) (And.intro @stRoots.eq_3 @stRoots.eq_4)) (And.intro (And.intro @stRoots.eq_5 @stRoots.eq_6) (And.intro @stRoots.eq_7 (And.intro @stRoots.eq_8 @stRoots.eq_9))))) (And.intro (And.intro (And.intro (And.intro @killAll.eq_1 @killAll.eq_2) (And.intro @capAV.eq_def @stVals.eq_1)) (And.intro (And.intro @stVals.eq_2 @stVals.eq_3) (And.intro @stVals.eq_4 (And.intro @stVals.eq_5 @stVals.eq_6)))) (And.intro (And.intro (And.intro @stVals.eq_7 @stVals.eq_8) (And.intro @stVals.eq_9 @stBoxes.eq_1)) (And.intro (And.intro @stBoxes.eq_2 @stBoxes.eq_3) (And.intro @stBoxes.eq_4 (And.intro @stBoxes.eq_5 @stBoxes.eq_6)))))) (And.intro (And.intro (And.intro (And.intro (And.intro @stBoxes.eq_7 @stBoxes.eq_8) (And.intro @stBoxes.eq_9 @noP.eq_def)) (And.intro (And.intro @isBoxP.eq_def @stKeep.eq_def) (And.intro @stCut.eq_1 (And.intro @stCut.eq_2 @stAdd.eq_1)))) (And.intro (And.intro (And.intro @stAdd.eq_2 @stAdd.eq_3) (And.intro @stAdd.eq_4 @stAdd.eq_5)) (And.intro (And.intro @stAdd.eq_6 @stAdd.eq_7) (And.intro @stAdd.eq_8 (And.intro @distinctL.eq_1 @distinctL.eq_2))))) (And.intro (And.intro (And.intro (And.intro @evs.eq_1 @evs.eq_2) (And.intro @XS.initS.eq_def @envS.eq_1)) (And.intro (And.intro @envS.eq_2 @envS.eq_3) (And.intro @envS.eq_4 (And.intro @envS.eq_5 @envS.eq_6)))) (And.intro (And.intro (And.intro @envS.eq_7 @envS.eq_8) (And.intro @rtsS.eq_1 @rtsS.eq_2)) (And.intro (And.intro @rtsS.eq_3 @rtsS.eq_4) (And.intro @rtsS.eq_5 (And.intro @rtsS.eq_6 @rtsS.eq_7)))))))) (And.intro (And.intro (And.intro (And.intro (And.intro (And.intro (And.intro @rtsS.eq_8 @locS.eq_1) (And.intro @locS.eq_2 @wholeAV.eq_def)) (And.intro (And.intro @noPin.eq_def @capTV.eq_1) (And.intro @capTV.eq_2 (And.intro @XS.initC.eq_def @envC.eq_1)))) (And.intro (And.intro (And.intro @envC.eq_2 @xoper.eq_def) (And.intro @xwant.eq_def @cutAt.eq_def)) (And.intro (And.intro @bxAV.eq_def @bld3AV.eq_def) (And.intro @bld0AV.eq_def (And.intro @strIdx.eq_def @XS.trunc.eq_def))))) (And.intro (And.intro (And.intro (And.intro @XS.inPlace.eq_def @RT.withX.eq_def) (And.intro @isNilP.eq_def @isOneP.eq_def)) (And.intro (And.intro @fldAV.eq_def @fldP.eq_1) (And.intro @fldP.eq_2 (And.intro @fldP.eq_3 @fldR.eq_1)))) (And.intro (And.intro (And.intro @fldR.eq_2 @fldR.eq_3) (And.intro @fldR.eq_4 @cpAV.eq_def)) (And.intro (And.intro @clAV.eq_def @okB.eq_def) (And.intro @loOf.eq_def (And.intro @hiOf.eq_def @cutL.eq_def)))))) (And.intro (And.intro (And.intro (And.intro (And.intro @xgd_true @xgd_false) (And.intro @known.eq_def @xdo.eq_def)) (And.intro (And.intro @mpOp.eq_def @mpSet.eq_1) (And.intro @mpSet.eq_2 (And.intro @AV.setMp.eq_def @AV.plain.eq_def)))) (And.intro (And.intro (And.intro @isMove.eq_def @nilAt.eq_def) (And.intro @nilCmp.eq_def @xpure.eq_def)) (And.intro (And.intro @xpureT.eq_def @xmem.eq_def) (And.intro @XS.ev.eq_def (And.intro @constAV.eq_def @XS.init.eq_def))))) (And.intro (And.intro (And.intro (And.intro @XS.initMv.eq_def @env0.eq_1) (And.intro @env0.eq_2 @dOK.eq_def)) (And.intro (And.intro @PF.of.eq_def @PR.pf.eq_def) (And.intro @binAV.eq_def (And.intro @idxAV.eq_def @idxPair.eq_def)))) (And.intro (And.intro (And.intro @bldAV.eq_def @idxRO.eq_def) (And.intro @idxRef.eq_def @idxSub.eq_def)) (And.intro (And.intro @idxArr.eq_def @ldAV.eq_def) (And.intro @ldPtr.eq_def (And.intro @lenAV.eq_def @slAV.eq_def))))))) (And.intro (And.intro (And.intro (And.intro (And.intro (And.intro @sameAV.eq_def @convAV.eq_def) (And.intro @TE.ty.eq_def @appAV.eq_def)) (And.intro (And.intro @own1.eq_def @srcAV.eq_def) (And.intro @stAV.eq_def (And.intro @mkAV.eq_def @bsAV.eq_def)))) (And.intro (And.intro (And.intro @alAV.eq_def @argAV.eq_def) (And.intro @argsAV.eq_1 @argsAV.eq_2)) (And.intro (And.intro @argsAV.eq_3 @calleeOf.eq_def) (And.intro @datOf.eq_def (And.intro @datsOf.eq_1 @datsOf.eq_2))))) (And.intro (And.intro (And.intro (And.intro @retAV.eq_def @retsAV.eq_1) (And.intro @retsAV.eq_2 @retsPut.eq_def)) (And.intro (And.intro @binInt.eq_def @cmpInt.eq_def) (And.intro @binBool.eq_def (And.intro @binStr.eq_def @elAt.eq_def)))) (And.intro (And.intro (And.intro @okNode.eq_def @TV.ew.eq_def) (And.intro @XS.also.eq_def @XS.redo.eq_def)) (And.intro (And.intro @XS.redo2.eq_def @XS.wrote.eq_def) (And.intro @XS.took.eq_def (And.intro @nilRT.eq_def @tchOf.eq_def)))))) (And.intro (And.intro (And.intro (And.intro (And.intro @tchOK.eq_def @XS.pin.eq_def) (And.intro @qOf.eq_def @isNil.eq_def)) (And.intro (And.intro @cutEnv.eq_1 @cutEnv.eq_2) (And.intro @AV.shallow.eq_def (And.intro @shB.eq_def @safeR.eq_1)))) (And.intro (And.intro (And.intro @safeR.eq_2 @safeR.eq_3) (And.intro @safeR.eq_4 @safeR.eq_5)) (And.intro (And.intro @safeR.eq_6 @safeR.eq_7) (And.intro @safeR.eq_8 (And.intro @safeR.eq_9 @safeP.eq_1))))) (And.intro (And.intro (And.intro (And.intro @safeP.eq_2 @safeP.eq_3) (And.intro @safeP.eq_4 @safeP.eq_5)) (And.intro (And.intro @safeP.eq_6 @safeP.eq_7) (And.intro @safeP.eq_8 (And.intro @safeP.eq_9 @bnd.eq_def)))) (And.intro (And.intro (And.intro @capsOf.eq_1 @capsOf.eq_2) (And.intro @inR.eq_def @outsOf.eq_1)) (And.intro (And.intro @outsOf.eq_2 @outOf.eq_def) (And.intro @retK.eq_def (And.intro @XW.thn.eq_def @XW.blk.eq_def))))))))
set_option linter.defProp false in
def zb := And.intro (And.intro (And.intro (And.intro (And.intro (And.intro (And.intro @Ty.st.eq_1 @Ty.st.eq_2) (And.intro @Ty.st.eq_3 (And.intro @Ty.st.eq_4 @Ty.st.eq_5))) (And.intro (And.intro @Ty.st.eq_6 (And.intro @Ty.st.eq_7 @Ty.st.eq_8)) (And.intro @Ty.st.eq_9 (And.intro @Ty.st.eq_10 @stV.eq_1)))) (And.intro (And.intro (And.intro @stV.eq_2 @stV.eq_3) (And.intro @stV.eq_4 (And.intro @stV.eq_5 @stV.eq_6))) (And.intro (And.intro @stV.eq_7 (And.intro @stV.eq_8 @stV.eq_9)) (And.intro @stV.eq_10 (And.intro @unV.eq_1 @unV.eq_2))))) (And.intro (And.intro (And.intro (And.intro @unV.eq_3 @unV.eq_4) (And.intro @unV.eq_5 (And.intro @unV.eq_6 @unV.eq_7))) (And.intro (And.intro @unV.eq_8 (And.intro @unV.eq_9 @unV.eq_10)) (And.intro @Ty.leafy.eq_1 (And.intro @Ty.leafy.eq_2 @Ty.leafy.eq_3)))) (And.intro (And.intro (And.intro @Ty.leafy.eq_4 (And.intro @Ty.leafy.eq_5 @Ty.leafy.eq_6)) (And.intro @Ty.ros.eq_1 (And.intro @Ty.ros.eq_2 @Ty.ros.eq_3))) (And.intro (And.intro @prodTV.eq_1 (And.intro @prodTV.eq_2 @prodTV.eq_3)) (And.intro @Ty.noRo.eq_1 (And.intro @Ty.noRo.eq_2 @Ty.noRo.eq_3)))))) (And.intro (And.intro (And.intro (And.intro (And.intro @Ty.noRo.eq_4 @Ty.roOK.eq_1) (And.intro @Ty.roOK.eq_2 (And.intro @Ty.roOK.eq_3 @Ty.ro.injEq))) (And.intro (And.intro @List.take_length.{0} (And.intro @Option.isSome_some.{0} @Option.isSome_none.{0})) (And.intro @List.zip_cons_cons.{0,0} (And.intro @List.zip_nil_left.{0,0} @List.drop_succ_cons.{0})))) (And.intro (And.intro (And.intro @List.drop_zero.{0} @Option.map_some.{0,0}) (And.intro @List.length_set.{0} (And.intro @List.getElem?_toArray.{0} @List.getElem?_cons_succ.{0}))) (And.intro (And.intro @List.getElem?_cons_zero.{0} (And.intro @beq_true @beq_false)) (And.intro @XS.put.eq_def (And.intro @XS.get.eq_def @XS.root.eq_def))))) (And.intro (And.intro (And.intro (And.intro @lk.eq_1 @lk.eq_2) (And.intro @rm.eq_1 (And.intro @rm.eq_2 @Option.map_none.{0,0}))) (And.intro (And.intro @Option.bind_some.{0,0} (And.intro @Option.bind_none.{0,0} @opt2.eq_def)) (And.intro @List.size_toArray.{0} (And.intro @castL_self @castV_self)))) (And.intro (And.intro (And.intro @fitD_self (And.intro @List.length_cons.{0} @List.length_nil.{0})) (And.intro @List.map_cons.{0,0} (And.intro @List.map_nil.{0,0} @if_true.{1}))) (And.intro (And.intro @if_false.{1} (And.intro @forall_const.{0} @forall_const.{1})) (And.intro @beq_self_eq_true.{0} (And.intro @dite_true.{1} @dite_false.{1}))))))) (And.intro (And.intro (And.intro (And.intro (And.intro (And.intro @ne_eq.{1} @bne_self_eq_false.{0}) (And.intro @List.all_nil.{0} (And.intro @List.all_cons.{0} @List.nil_append.{0}))) (And.intro (And.intro @List.cons_append.{0} (And.intro @List.contains_nil.{0} @List.contains_cons.{0})) (And.intro @Ty.list.injEq (And.intro @Ty.int.injEq @Ty.prod.injEq)))) (And.intro (And.intro (And.intro @Ty.fn.injEq @Ty.row.injEq) (And.intro @List.cons.injEq.{0} (And.intro @List.length_replicate.{0} @Option.some.injEq.{0}))) (And.intro (And.intro @Int.cast_ofNat_Int (And.intro @RT.at.eq_def @RT.ty.eq_def)) (And.intro @RT.sub.eq_def (And.intro @RT.cut.eq_def @RT.wr.eq_def))))) (And.intro (And.intro (And.intro (And.intro @getS.eq_1 @getS.eq_2) (And.intro @getS.eq_3 (And.intro @getS.eq_4 @getS.eq_5))) (And.intro (And.intro @getS.eq_6 (And.intro @getS.eq_7 @getS.eq_8)) (And.intro @getS.eq_9 (And.intro @getS.eq_10 @getS.eq_11)))) (And.intro (And.intro (And.intro @getS.eq_12 (And.intro @getS.eq_13 @dep.eq_1)) (And.intro @dep.eq_2 (And.intro @dep.eq_3 @dep.eq_4))) (And.intro (And.intro @dep.eq_5 (And.intro @okS.eq_1 @okS.eq_2)) (And.intro @okS.eq_3 (And.intro @okS.eq_4 @okS.eq_5)))))) (And.intro (And.intro (And.intro (And.intro (And.intro @hclear.eq_def @TV.len.eq_def) (And.intro @XS.addRoot.eq_def (And.intro @XS.kill.eq_def @XS.setRoot.eq_def))) (And.intro (And.intro @pinAlso.eq_def (And.intro @Ty.flat.eq_1 @Ty.flat.eq_2)) (And.intro @Ty.flat.eq_3 (And.intro @Ty.flat.eq_4 @Ty.flat.eq_5)))) (And.intro (And.intro (And.intro @Ty.flat.eq_6 (And.intro @Ty.lev.eq_1 @Ty.lev.eq_2)) (And.intro @Ty.lev.eq_3 (And.intro @Ty.lev.eq_4 @Ty.lev.eq_5))) (And.intro (And.intro @Ty.lev.eq_6 (And.intro @Ty.dflt.eq_1 @Ty.dflt.eq_2)) (And.intro @Ty.dflt.eq_3 (And.intro @Ty.dflt.eq_4 @Ty.dflt.eq_5))))) (And.intro (And.intro (And.intro (And.intro @Ty.dflt.eq_6 @Ty.dflt.eq_7) (And.intro @Ty.dflt.eq_8 (And.intro @Ty.dflt.eq_9 @Ty.dflt.eq_10))) (And.intro (And.intro @Ty.width.eq_1 (And.intro @Ty.width.eq_2 @setT.eq_1)) (And.intro @setT.eq_2 (And.intro @setT.eq_3 @setT.eq_4)))) (And.intro (And.intro (And.intro @setT.eq_5 (And.intro @setT.eq_6 @setT.eq_7)) (And.intro @setT.eq_8 (And.intro @setT.eq_9 @setT.eq_10))) (And.intro (And.intro @setT.eq_11 (And.intro @setT.eq_12 @setT.eq_13)) (And.intro @prodOf.eq_1 (And.intro @prodOf.eq_2 @prodOf.eq_3)))))))

end Fer

namespace Fer
open Go

def gtOf (ops : Array Oper) (o : Oper) : Option (Option (Nat × Bool)) :=
  match o.guard with
  | none => some none
  | some (j, want) => match (ops[j]?).bind (·.dst) with
    | some t => some (some (t, want))
    | none => none
def xwantG (gt : Option (Option (Nat × Bool))) (s : XS) : Option Bool :=
  match gt with
  | none => some false
  | some none => some true
  | some (some (t, want)) => match s.get t with
    | some (.dat .bool c) => some (c == want)
    | some (.tup []) => some false
    | _ => none
def knownG (gt : Option (Option (Nat × Bool))) (s : XS) (b : Bool) : XS :=
  match gt with
  | some (some (t, want)) => match s.get t with
    | some (.dat .bool _) => s.put (some t) (.dat .bool (b == want))
    | _ => s
  | _ => s
def xgdG (C : Ctx) (dr : Bool) (gt : Option (Option (Nat × Bool))) (o : Oper) (i : Nat) (K : XS → Prop) (s : XS) (b : Bool) : Prop :=
  if b = true then xdo C dr o i K (knownG gt s true) else K ((knownG gt s false).put o.dst (.tup []))
theorem xgdG_true {C : Ctx} {dr : Bool} {gt : Option (Option (Nat × Bool))} {o : Oper} {i : Nat} {K : XS → Prop} {s : XS} : xgdG C dr gt o i K s true = xdo C dr o i K (knownG gt s true) := rfl
theorem xgdG_false {C : Ctx} {dr : Bool} {gt : Option (Option (Nat × Bool))} {o : Oper} {i : Nat} {K : XS → Prop} {s : XS} : xgdG C dr gt o i K s false = K ((knownG gt s false).put o.dst (.tup [])) := rfl
theorem xgdG_intro {C : Ctx} {dr : Bool} {gt : Option (Option (Nat × Bool))} {o : Oper} {i : Nat} {K : XS → Prop} {s : XS} {b : Bool} (h1 : b = true → xdo C dr o i K (knownG gt s true)) (h2 : b = false → K ((knownG gt s false).put o.dst (.tup []))) : xgdG C dr gt o i K s b := by
  cases b
  · exact h2 rfl
  · exact h1 rfl
def xoperG (C : Ctx) (dr : Bool) (gt : Option (Option (Nat × Bool))) (o : Oper) (i : Nat) (K : XS → Prop) (s : XS) : Prop :=
  dOK C.n o.dst = true ∧ match xwantG gt s with
  | none => False
  | some b => xgdG C dr gt o i K s b
theorem xoper_of {C : Ctx} {dr : Bool} {ops : Array Oper} {o : Oper} {i : Nat} {K : XS → Prop} {s : XS} (h : xoperG C dr (gtOf ops o) o i K s) : xoper C dr ops o i K s := by
  obtain ⟨h1, h2⟩ := h
  refine ⟨h1, ?_⟩
  cases hgd : o.guard with
  | none =>
    have e : gtOf ops o = some none := by unfold gtOf; rw [hgd]
    rw [e] at h2
    have e1 : xwant ops s o = some true := by unfold xwant; rw [hgd]
    have e2 : known ops s o true = s := by unfold known; rw [hgd]
    rw [e1]
    show xgd C ops dr o i K s true
    rw [xgd_true, e2]
    exact h2
  | some jw =>
    obtain ⟨j, want⟩ := jw
    cases ho : (ops[j]?).bind (·.dst) with
    | none =>
      have e : gtOf ops o = none := by unfold gtOf; rw [hgd]; simp only [ho]
      rw [e] at h2
      have e1 : xwant ops s o = some false := by unfold xwant; rw [hgd]; simp only [ho]
      have e2 : known ops s o false = s := by unfold known; rw [hgd]; simp only [ho]
      rw [e1]
      show xgd C ops dr o i K s false
      rw [xgd_false, e2]
      exact h2
    | some t =>
      have e : gtOf ops o = some (some (t, want)) := by unfold gtOf; rw [hgd]; simp only [ho]
      rw [e] at h2
      have e1 : xwant ops s o = xwantG (some (some (t, want))) s := by unfold xwant; rw [hgd]; simp only [ho]; rfl
      have e2 : ∀ b, known ops s o b = knownG (some (some (t, want))) s b := fun b => by unfold known; rw [hgd]; simp only [ho]; rfl
      rw [e1]
      revert h2
      cases xwantG (some (some (t, want))) s with
      | none => exact fun h => h
      | some b =>
        intro h2
        show xgd C ops dr o i K s b
        unfold xgd
        rw [e2, e2]
        exact h2
theorem xtxt_consG {C : Ctx} {ops : Array Oper} {K : XS → Prop} {i : Nat} {o : Oper} {l : List Oper} {s : XS} {gt : Option (Option (Nat × Bool))} (hg : gtOf ops o = gt)
    (h : ∀ K' : XS → Prop, (∀ s', xtxt C ops K (i + 1) l s' → K' s') → xoperG C true gt o i K' s) : xtxt C ops K i (o :: l) s := by
  subst hg
  exact xoper_of (h _ fun _ h => h)
theorem xrun_consG {C : Ctx} {ops : Array Oper} {K : XS → Prop} {i : Nat} {o : Oper} {l : List Oper} {s : XS} {gt : Option (Option (Nat × Bool))} (hg : gtOf ops o = gt)
    (h : ∀ K' : XS → Prop, (∀ s', xrun C ops K (i + 1) l s' → K' s') → xoperG C false gt o i K' s) : xrun C ops K i (o :: l) s := by
  subst hg
  exact xoper_of (h _ fun _ h => h)


def onlyE (env : List (Nat × AV)) : List Nat → List (Nat × AV)
  | [] => []
  | k :: ks => match lk env k with
    | some av => (k, av) :: onlyE env ks
    | none => onlyE env ks
def XS.only (s : XS) : Option (List Nat) → XS
  | none => s
  | some ks => { s with env := onlyE s.env ks }
theorem lk_onlyE {env : List (Nat × AV)} {j : Nat} {av : AV} : ∀ {ks : List Nat}, lk (onlyE env ks) j = some av → lk env j = some av
  | [], h => by cases h
  | k :: ks, h => by
    simp only [onlyE] at h
    split at h
    · rename_i a ha
      simp only [lk] at h
      split at h
      · rename_i e
        subst e
        exact ha.trans h
      · exact lk_onlyE h
    · exact lk_onlyE h
def xsw : Bool → Bool → Prop → Prop → Prop
  | true, true, A, _ => A
  | true, false, _, B => B
  | false, true, _, B => B
  | false, false, A, _ => A
theorem xsw_tt {A B : Prop} : xsw true true A B = A := rfl
theorem xsw_tf {A B : Prop} : xsw true false A B = B := rfl
theorem xsw_ft {A B : Prop} : xsw false true A B = B := rfl
theorem xsw_ff {A B : Prop} : xsw false false A B = A := rfl
def xoperL (C : Ctx) (dr : Bool) (gt : Option (Option (Nat × Bool))) (o : Oper) (i : Nat) (K : XS → Prop) (s : XS) : Prop :=
  dOK C.n o.dst = true ∧ match gt with
  | none => K (s.put o.dst (.tup []))
  | some none => xdo C dr o i K s
  | some (some (t, want)) => match s.get t with
    | some (.dat .bool c) => xsw want c (xdo C dr o i K s) (K (s.put o.dst (.tup [])))
    | some (.tup []) => K (s.put o.dst (.tup []))
    | _ => False
def xcz : Option Nat → (XS → Prop) → XS → Prop
  | none, K, s => K s
  | some t, K, s => match s.get t with
    | some (.dat .bool c) => (c = true → K (s.put (some t) (.dat .bool true))) ∧ (c = false → K (s.put (some t) (.dat .bool false)))
    | some (.tup []) => K s
    | _ => False
abbrev GT := Option (Option (Nat × Bool))
def xlnp (C : Ctx) (K : XS → Prop) (hs : List (Nat × List Nat)) : Nat → List GT → List Oper → XS → Prop
  | _, [], [], s => K s
  | i, g :: gs, o :: l, s => xoperL C true g o i (xlnp C K hs (i + 1) gs l) (s.only (lk hs i))
  | _, _, _, _ => False
def xlngc (C : Ctx) (K : XS → Prop) (hs : List (Nat × List Nat)) : Nat → List (Option Nat × Nat) → List GT → List Oper → XS → Prop
  | _, [], _, _, s => K { s with pins := [] }
  | i, (ct, n) :: ns, gs, l, s => xcz ct (xlnp C (xlngc C K hs (i + n) ns (gs.drop n) (l.drop n)) hs i (gs.take n) (l.take n)) s
section
variable {C : Ctx} {K : XS → Prop} {hs : List (Nat × List Nat)} {i n t : Nat} {ns : List (Option Nat × Nat)} {gs : List GT} {l : List Oper} {s : XS}
theorem xlngc_cons (h : ∀ K' : XS → Prop, (∀ s', xlngc C K hs (i + n) ns (gs.drop n) (l.drop n) s' → K' s') → xlnp C K' hs i (gs.take n) (l.take n) s) : xlngc C K hs i ((none, n) :: ns) gs l s := h _ fun _ h => h
theorem xlngc_case {c : Bool} (hc : s.get t = some (.dat .bool c)) (h1 : c = true → ∀ K' : XS → Prop, (∀ s', xlngc C K hs (i + n) ns (gs.drop n) (l.drop n) s' → K' s') → xlnp C K' hs i (gs.take n) (l.take n) (s.put (some t) (.dat .bool true)))
    (h2 : c = false → ∀ K' : XS → Prop, (∀ s', xlngc C K hs (i + n) ns (gs.drop n) (l.drop n) s' → K' s') → xlnp C K' hs i (gs.take n) (l.take n) (s.put (some t) (.dat .bool false))) : xlngc C K hs i ((some t, n) :: ns) gs l s := by
  simp only [xlngc, xcz, hc]
  exact ⟨fun e => h1 e _ fun _ h => h, fun e => h2 e _ fun _ h => h⟩
theorem xlngc_skip (hc : s.get t = some (.tup [])) (h : ∀ K' : XS → Prop, (∀ s', xlngc C K hs (i + n) ns (gs.drop n) (l.drop n) s' → K' s') → xlnp C K' hs i (gs.take n) (l.take n) s) : xlngc C K hs i ((some t, n) :: ns) gs l s := by
  simp only [xlngc, xcz, hc]
  exact h _ fun _ h => h
theorem xlngc_nil (h : K { s with pins := [] }) : xlngc C K hs i [] gs l s := h
end

section
variable {P : Program} {C : Ctx} {w0 : World} {S0 : Nat → Prop}
theorem RelAt.only {N : Nat} {dr : Bool} {pc : Pins} {s : XS} {a : Act} {w : World} {S : Nat → Prop} {pl : Nat → PL} (R : RelAt w0 S0 N dr pc s a w S pl) (ks : Option (List Nat)) : RelAt w0 S0 N dr pc (s.only ks) a w S pl := by
  cases ks with
  | none => exact R
  | some ks => exact { R with env := fun i av hi => R.env i av (lk_onlyE hi), news := fun i b f hi => R.news i b f (lk_onlyE hi) }
theorem xoperL_ok (hC : CtxOK P C w0 S0) {ops : Array Oper} {o : Oper} {i : Nat} {K : XS → Prop} {K' : Pins → Act → World → Prop} {pc : Pins} {s : XS} {a : Act} {w : World}
    (hK : ∀ s pc a w, K s → Rel w0 S0 C.n true pc s a w → K' pc a w) (h : xoperL C true (gtOf ops o) o i K s) (R : Rel w0 S0 C.n true pc s a w) : kOper P ops o i pc a w K' := by
  obtain ⟨S, pl, R⟩ := R
  obtain ⟨hd, h⟩ := h
  have hd := dOK_lt hd
  have yes : ∀ s1 : XS, RelAt w0 S0 C.n true pc s1 a w S pl → xdo C true o i K s1 → xwant ops s o = some true → kOper P ops o i pc a w K' := fun s1 R1 h1 hw => by
    simp only [kOper]
    rw [xwant_ok R hw]
    simp only [if_true]
    have := xdo_ok hC R1 hd h1
    exact Out.k (this.mono fun pc' a' w' hh => by
      obtain ⟨s', h1, h2⟩ := hh
      exact hK s' pc' a' w' h1 h2)
  have no : ∀ s1 : XS, RelAt w0 S0 C.n true pc s1 a w S pl → K (s1.put o.dst (.tup [])) → xwant ops s o = some false → kOper P ops o i pc a w K' := fun s1 R1 h1 hw => by
    simp only [kOper]
    rw [xwant_ok R hw]
    simp only [Bool.false_eq_true, if_false]
    exact hK _ pc _ w h1 ⟨S, pl, R1.skip hd⟩
  have goal : kOper P ops o i pc a w K' := by
    cases hgd : o.guard with
    | none =>
      have e : gtOf ops o = some none := by unfold gtOf; rw [hgd]
      rw [e] at h
      exact yes s R h (by unfold xwant; rw [hgd])
    | some jw =>
      obtain ⟨j, want⟩ := jw
      cases ho : (ops[j]?).bind (·.dst) with
      | none =>
        have e : gtOf ops o = none := by unfold gtOf; rw [hgd]; simp only [ho]
        rw [e] at h
        exact no s R h (by unfold xwant; rw [hgd]; simp only [ho])
      | some t =>
        have e : gtOf ops o = some (some (t, want)) := by unfold gtOf; rw [hgd]; simp only [ho]
        rw [e] at h
        simp only at h
        have ex : ∀ v, s.get t = some v → xwant ops s o = (match v with
          | .dat .bool c => some (c == want)
          | .tup [] => some false
          | _ => none) := fun v hv => by
          unfold xwant
          rw [hgd]
          simp only [ho, hv]
          split <;> first | rfl | simp_all
        split at h
        · rename_i c hc
          have hw : xwant ops s o = some (c == want) := ex _ hc
          cases want <;> cases c
          · exact yes s R h (by rw [hw]; rfl)
          · exact no s R h (by rw [hw]; rfl)
          · exact no s R h (by rw [hw]; rfl)
          · exact yes s R h (by rw [hw]; rfl)
        · rename_i hc
          exact no s R h (ex _ hc)
        · exact h.elim
  exact goal
theorem RelAt.told {N : Nat} {dr : Bool} {pc : Pins} {s : XS} {a : Act} {w : World} {S : Nat → Prop} {pl : Nat → PL} (R : RelAt w0 S0 N dr pc s a w S pl) {t : Nat} {c b : Bool} (hc : s.get t = some (.dat .bool c)) (e : c = b) : RelAt w0 S0 N dr pc (s.put (some t) (.dat .bool b)) a w S pl := by
  subst e
  refine { R with env := fun i av hi => ?_, news := fun i b f hi => ?_ }
  · simp only [XS.get, XS.put, lk] at hi
    split at hi
    · rename_i e1
      subst e1
      cases hi
      exact R.env t _ hc
    · exact R.env i av hi
  · simp only [XS.get, XS.put, lk] at hi
    split at hi
    · cases hi
    · exact R.news i b f hi
theorem xlnp_ok (hC : CtxOK P C w0 S0) {ops : Array Oper} {K : XS → Prop} {Q : Pins → Act → World → Prop} {hs : List (Nat × List Nat)} {rest : List Nat} (hK : ∀ s pc a w, K s → Rel w0 S0 C.n true pc s a w → wpOrd P ops Q rest pc a w) :
    ∀ (l : List Oper) (i : Nat) (s : XS) (pc : Pins) (a : Act) (w : World), (∀ j, j < l.length → ops[i + j]? = l[j]?) → xlnp C K hs i (l.map (gtOf ops)) l s → Rel w0 S0 C.n true pc s a w → wpOrd P ops Q (List.range' i l.length ++ rest) pc a w
  | [], i, s, pc, a, w, _, h, R => hK s pc a w h R
  | o :: l, i, s, pc, a, w, hj, h, ⟨S, pl, R⟩ => by
    have h0 := hj 0 (by simp)
    simp only [Nat.add_zero, List.getElem?_cons_zero] at h0
    simp only [List.length_cons, List.range'_succ, List.cons_append, wpOrd, h0]
    exact xoperL_ok hC (fun s' pc' a' w' h1 h2 => xlnp_ok hC hK l (i + 1) s' pc' a' w' (fun j hl => by have := hj (j + 1) (by simpa using hl); rwa [List.getElem?_cons_succ, show i + (j + 1) = i + 1 + j by omega] at this) h1 h2) h ⟨S, pl, R.only _⟩
theorem xlngc_ok (hC : CtxOK P C w0 S0) {ops : Array Oper} {K : XS → Prop} {Q : Act → World → Prop} {hs : List (Nat × List Nat)} (hK : ∀ s a w, K s → Rel w0 S0 C.n false noPins s a w → Q a w) :
    ∀ (ns : List (Option Nat × Nat)) (l : List Oper) (i : Nat) (s : XS) (pc : Pins) (a : Act) (w : World), (∀ j, j < l.length → ops[i + j]? = l[j]?) → (ns.map (·.2)).sum = l.length → xlngc C K hs i ns (l.map (gtOf ops)) l s → Rel w0 S0 C.n true pc s a w → wpOrd P ops (fun _ a w => Q a w) (List.range' i l.length) pc a w
  | [], l, i, s, pc, a, w, _, hn, h, ⟨S, pl, R⟩ => by
    obtain rfl := List.eq_nil_of_length_eq_zero (show l.length = 0 by simpa using hn.symm)
    exact hK _ a w h ⟨S, pl, { R with pins := (fun h => by cases h) }⟩
  | (ct, n) :: ns, l, i, s, pc, a, w, hj, hn, h, ⟨S, pl, R⟩ => by
    simp only [List.map_cons, List.sum_cons] at hn
    have ih : ∀ s pc a w, xlngc C K hs (i + n) ns ((l.map (gtOf ops)).drop n) (l.drop n) s → Rel w0 S0 C.n true pc s a w → wpOrd P ops (fun _ a w => Q a w) (List.range' (i + n) (l.drop n).length) pc a w := fun s pc a w h1 h2 => by
      rw [← List.map_drop] at h1
      exact xlngc_ok hC hK ns (l.drop n) (i + n) s pc a w (fun j hl => by
        rw [List.getElem?_drop, show i + n + j = i + (n + j) by omega]
        exact hj (n + j) (by rw [List.length_drop] at hl; omega)) (by rw [List.length_drop]; omega) h1 h2
    have er : List.range' i l.length = List.range' i (l.take n).length ++ List.range' (i + n) (l.drop n).length := by
      rw [List.length_take, List.length_drop, show min n l.length = n by omega, List.range'_append_1]
      congr 1
      omega
    rw [er]
    have go : ∀ s1 : XS, RelAt w0 S0 C.n true pc s1 a w S pl → xlnp C (xlngc C K hs (i + n) ns ((l.map (gtOf ops)).drop n) (l.drop n)) hs i ((l.map (gtOf ops)).take n) (l.take n) s1 → wpOrd P ops (fun _ a w => Q a w) (List.range' i (l.take n).length ++ List.range' (i + n) (l.drop n).length) pc a w := fun s1 R1 h1 => by
      rw [← List.map_take] at h1
      exact xlnp_ok hC ih (l.take n) i s1 pc a w (fun j hl => by
        rw [List.length_take] at hl
        rw [List.getElem?_take, if_pos (by omega)]
        exact hj j (by omega)) h1 ⟨S, pl, R1⟩
    simp only [xlngc] at h
    cases ct with
    | none => exact go s R h
    | some t =>
      simp only [xcz] at h
      split at h
      · rename_i c hc
        cases c with
        | true => exact go _ (R.told hc rfl) (h.1 rfl)
        | false => exact go _ (R.told hc rfl) (h.2 rfl)
      · exact go s R h
      · exact h.elim
theorem XW.long {Q : Exit → XS → Prop} {s : XS} (hC : CtxOK P C w0 S0) (hm : P.follows .mixedOrders = true) {id : Nat} {ops : Array Oper} (hB : ordOK ops (List.range' 0 ops.toList.length) = true) (gs : List GT) (hg : ops.toList.map (gtOf ops) = gs) (hs : List (Nat × List Nat)) (ns : List (Option Nat × Nat)) (hn : (ns.map (·.2)).sum = ops.toList.length)
    (h : ∀ K : XS → Prop, (∀ s, Q .normal s → K s) → xlngc C K hs 0 ns gs ops.toList s) : XW P C w0 S0 (.region id ops true) Q s := fun a w R => by
  subst hg
  refine wp_region_ord _ hm hB (xlngc_ok hC (Q := fun a w => ∃ s', Q .normal s' ∧ Rel w0 S0 C.n false noPins s' a w) (K := fun s => Q .normal s) (fun s a w hK R => ⟨s, hK, R⟩) ns ops.toList 0 s noPins a _ (fun j _ => by simp) hn (h _ fun _ h => h) ?_)
  obtain ⟨S, pl, R⟩ := R
  have R' := R.grown (Grew.drew w)
  exact ⟨S, pl, { R' with pins := (fun _ i b h => h.elim) }⟩
end
end Fer

namespace Fer
open Go
def sub : List Bool → Code → Code
  | [], c => c
  | false :: p, .seq a _ => sub p a
  | true :: p, .seq _ b => sub p b
  | false :: p, .cond _ a _ => sub p a
  | true :: p, .cond _ _ b => sub p b
  | false :: p, .block _ c => sub p c
  | b :: p, .loop c => sub (b :: p) c
  | _ :: _, c => c
theorem sub_nil {c : Code} : sub [] c = c := by cases c <;> rfl
theorem sub_r {i : Nat} {o : Array Oper} {d : Bool} : sub [] (.region i o d) = .region i o d := rfl
theorem sub_q {a b : Code} : sub [] (.seq a b) = .seq a b := rfl
theorem sub_bn {i : Nat} {a : Code} : sub [] (.block i a) = .block i a := rfl
theorem sub_s0 {p : List Bool} {a b : Code} : sub (false :: p) (.seq a b) = sub p a := rfl
theorem sub_s1 {p : List Bool} {a b : Code} : sub (true :: p) (.seq a b) = sub p b := rfl
theorem sub_c0 {p : List Bool} {o : Operand} {a b : Code} : sub (false :: p) (.cond o a b) = sub p a := rfl
theorem sub_c1 {p : List Bool} {o : Operand} {a b : Code} : sub (true :: p) (.cond o a b) = sub p b := rfl
theorem sub_b {p : List Bool} {i : Nat} {a : Code} : sub (false :: p) (.block i a) = sub p a := rfl
theorem sub_l0 {p : List Bool} {a : Code} : sub (false :: p) (.loop a) = sub (false :: p) a := rfl
theorem sub_l1 {p : List Bool} {a : Code} : sub (true :: p) (.loop a) = sub (true :: p) a := rfl
end Fer

namespace Fer
open Go Go.Deep Go.ChangeShapes Go.WideShapes

def tyOK (tt : List (Nat × TE)) : Nat → Ty → Bool
  | T, .list e t => (match lk tt T with | some (.slice e' t' _) => decide (e = e') && decide (t = t') | _ => false) && tyOK tt e t
  | T, .int k => (match lk tt T with | some (.basic (.int k')) => decide (k = k') | _ => false)
  | T, .bool => (match lk tt T with | some (.basic .bool) => true | _ => false)
  | T, .str => (match lk tt T with | some (.basic .str) => true | _ => false)
  | T, .prod (.int ka) (.int kb) => (match lk tt T with | some (.struct [.int ja, .int jb]) => decide (ka = ja) && decide (kb = jb) | _ => false)
  | _, _ => false

def Rd {H : Type} : (t : Ty) → t.den → DataW H → Prop
  | .int k, n, d => d = .lit (.int k n) ∧ (Lit.int k n).wf = true
  | .bool, b, d => d = .lit (.bool b)
  | .str, s, d => d = .lit (.string s.data.toList) ∧ s.size ≤ maxLen
  | .list _ t, xs, d => (d = .nil ∧ xs = []) ∨ ∃ els sp, d = .slice els sp ∧ els.length = xs.length ∧ ∀ i e, els[i]? = some e → Rd t (xs.getD i t.dflt) e
  | .prod a b, x, d => ∃ d1 d2, d = .agg [d1, d2] ∧ Rd a x.1 d1 ∧ Rd b x.2 d2
  | _, _, _ => False

section
variable {H : Type} {enc : TypeId × Value → H} {P : Program} {tt : List (Nat × TE)} {w : World}

theorem tyOK_some {T : Nat} {t : Ty} (h : tyOK tt T t = true) : ∃ te, lk tt T = some te ∧ te.ty = some t := by
  cases t with
  | list e t =>
    simp only [tyOK, Bool.and_eq_true] at h
    have h := h.1
    split at h
    · rename_i e' t' b hl
      simp only [Bool.and_eq_true, decide_eq_true_eq] at h
      obtain ⟨rfl, rfl⟩ := h
      exact ⟨_, hl, rfl⟩
    · cases h
  | int k =>
    simp only [tyOK] at h
    split at h
    · rename_i k' hl
      simp only [decide_eq_true_eq] at h; subst h
      exact ⟨_, hl, rfl⟩
    · cases h
  | bool =>
    simp only [tyOK] at h
    split at h
    · rename_i hl; exact ⟨_, hl, rfl⟩
    · cases h
  | str =>
    simp only [tyOK] at h
    split at h
    · rename_i hl; exact ⟨_, hl, rfl⟩
    · cases h
  | raw => simp [tyOK] at h
  | fn => simp [tyOK] at h
  | row => simp [tyOK] at h
  | ro => simp [tyOK] at h
  | func => simp [tyOK] at h
  | prod a b =>
    unfold tyOK at h
    split at h
    · rename_i h1; cases h1
    · rename_i h1; cases h1
    · rename_i h1; cases h1
    · rename_i h1; cases h1
    · rename_i ka kb h1
      cases h1
      split at h
      · rename_i ja jb hl
        simp only [Bool.and_eq_true, decide_eq_true_eq] at h
        obtain ⟨rfl, rfl⟩ := h
        exact ⟨_, hl, rfl⟩
      · cases h
    · cases h

theorem tyOK_prod {T : Nat} {a b : Ty} (h : tyOK tt T (.prod a b) = true) : ∃ ka kb, a = .int ka ∧ b = .int kb ∧ lk tt T = some (.struct [.int ka, .int kb]) := by
  unfold tyOK at h
  split at h
  · rename_i h1; cases h1
  · rename_i h1; cases h1
  · rename_i h1; cases h1
  · rename_i h1; cases h1
  · rename_i ka kb h1
    cases h1
    split at h
    · rename_i ja jb hl
      simp only [Bool.and_eq_true, decide_eq_true_eq] at h
      obtain ⟨rfl, rfl⟩ := h
      exact ⟨_, _, rfl, rfl, hl⟩
    · cases h
  · cases h

theorem cells_some {w : World} {b off n : Nat} {cs : List Value} (h : w.cells? 0 ⟨b, off, none⟩ n = some cs) (hn : 0 < n) :
    cs.length = n ∧ ∃ arr E fr, w.heap[b]? = some (.cells arr E fr) ∧ off + n ≤ arr.size ∧ cellsAt arr off n = cs := by
  unfold World.cells? at h
  rw [if_pos (Nat.zero_le _)] at h
  have hl := mapM_some_length h
  rw [List.length_range] at hl
  have hg := fun i (hi : i < n) => mapM_some_get h i i (by simp [hi])
  have hcell : ∀ i, i < n → w.cell? ⟨b, off + i, none⟩ = cs[i]? := fun i hi => by rw [← hg i hi, Addr.add_mid]
  have h0 := hcell 0 hn
  have hc0 : ∃ v, cs[0]? = some v := ⟨cs[0], List.getElem?_eq_getElem (by omega)⟩
  obtain ⟨v0, hv0⟩ := hc0
  rw [hv0] at h0
  unfold World.cell? at h0
  refine ⟨hl, ?_⟩
  cases hb : w.heap[b]? with
  | none => simp [hb] at h0
  | some o =>
    cases o with
    | cells arr E fr =>
      have hci : ∀ i, i < n → arr[off + i]? = cs[i]? := fun i hi => by
        have := hcell i hi
        simpa [World.cell?, hb] using this
      have hsz : off + n ≤ arr.size := by
        have := hci (n - 1) (by omega)
        rw [List.getElem?_eq_getElem (by omega : n - 1 < cs.length)] at this
        have := (Array.getElem?_eq_some_iff.1 this).1
        omega
      refine ⟨arr, E, fr, rfl, hsz, ?_⟩
      apply List.ext_getElem?
      intro i
      simp only [cellsAt, List.getElem?_take, List.getElem?_drop, Array.getElem?_toList]
      by_cases hi : i < n
      · rw [if_pos hi]; exact hci i hi
      · rw [if_neg hi, List.getElem?_eq_none (by omega)]
    | _ => simp [hb] at h0

theorem tyOK_int {T : Nat} {k : IntKind} (htt : ttB P tt = true) (h : tyOK tt T (.int k) = true) : P.underlying T = some (.int k) := by
  obtain ⟨te, h1, h2⟩ := tyOK_some h
  have hB := ttB_get htt h1
  cases te with
  | basic t' => simp only [TE.ty, Option.some.injEq] at h2; subst h2; exact basic_te hB
  | slice => simp [TE.ty] at h2
  | arr => simp [TE.ty] at h2
  | struct ts =>
    simp only [TE.ty] at h2
    split at h2
    · rename_i hl
      match ts, hl with
      | a :: b :: l, _ => simp [prodOf] at h2
    · cases h2
  | pair => simp [TE.ty] at h2
  | map => simp [TE.ty] at h2
theorem tyOK_bool {T : Nat} (htt : ttB P tt = true) (h : tyOK tt T .bool = true) : P.underlying T = some .bool := by
  obtain ⟨te, h1, h2⟩ := tyOK_some h
  have hB := ttB_get htt h1
  cases te with
  | basic t' => simp only [TE.ty, Option.some.injEq] at h2; subst h2; exact basic_te hB
  | slice => simp [TE.ty] at h2
  | arr => simp [TE.ty] at h2
  | struct ts =>
    simp only [TE.ty] at h2
    split at h2
    · rename_i hl
      match ts, hl with
      | a :: b :: l, _ => simp [prodOf] at h2
    · cases h2
  | pair => simp [TE.ty] at h2
  | map => simp [TE.ty] at h2
theorem tyOK_str {T : Nat} (htt : ttB P tt = true) (h : tyOK tt T .str = true) : P.underlying T = some .string := by
  obtain ⟨te, h1, h2⟩ := tyOK_some h
  have hB := ttB_get htt h1
  cases te with
  | basic t' => simp only [TE.ty, Option.some.injEq] at h2; subst h2; exact basic_te hB
  | slice => simp [TE.ty] at h2
  | arr => simp [TE.ty] at h2
  | struct ts =>
    simp only [TE.ty] at h2
    split at h2
    · rename_i hl
      match ts, hl with
      | a :: b :: l, _ => simp [prodOf] at h2
    · cases h2
  | pair => simp [TE.ty] at h2
  | map => simp [TE.ty] at h2

theorem tyOK_list {T e : Nat} {t : Ty} (htt : ttB P tt = true) (h : tyOK tt T (.list e t) = true) : P.underlying T = some (.slice e) ∧ P.cellsOf e = t.width ∧ tyOK tt e t = true := by
  have h0 := h
  simp only [tyOK, Bool.and_eq_true] at h
  obtain ⟨te, h1, h2⟩ := tyOK_some h0
  have hB := ttB_get htt h1
  cases te with
  | slice e' t' b =>
    simp only [TE.ty, Option.some.injEq, Ty.list.injEq] at h2
    obtain ⟨rfl, rfl⟩ := h2
    obtain ⟨hT, _, ⟨inf, hi, hsz, _⟩, _⟩ := slice_te hB
    exact ⟨hT, by simp [Program.cellsOf, hi, hsz], h.2⟩
  | basic t' =>
    simp only [TE.ty, Option.some.injEq] at h2; subst h2
    have h := h.1
    rw [h1] at h
    simp at h
  | arr => simp [TE.ty] at h2
  | struct ts =>
    have h := h.1
    rw [h1] at h
    simp at h
  | pair e' t' =>
    have h := h.1
    rw [h1] at h
    simp at h
  | map e' t' =>
    have h := h.1
    rw [h1] at h
    simp at h

theorem trod_int_inv {T fuel : Nat} {k : IntKind} {cs : List Value} {d : DataW H} {ps : List MemPlace} {sp : Nat → Bool} {hd : Bool} (hT : P.underlying T = some (.int k)) (h : DataW.trod enc P w 0 sp hd fuel T cs = some (d, ps)) :
    ∃ n, cs = [.int k n] ∧ (Lit.int k n).wf = true ∧ d = .lit (.int k n) ∧ ps = [] := by
  cases fuel with
  | zero => simp [DataW.trod] at h
  | succ n =>
    unfold DataW.trod at h
    rw [hT] at h
    split at h <;> simp_all

theorem trod_bool_inv {T fuel : Nat} {cs : List Value} {d : DataW H} {ps : List MemPlace} {sp : Nat → Bool} {hd : Bool} (hT : P.underlying T = some .bool) (h : DataW.trod enc P w 0 sp hd fuel T cs = some (d, ps)) :
    ∃ b, cs = [.bool b] ∧ d = .lit (.bool b) ∧ ps = [] := by
  cases fuel with
  | zero => simp [DataW.trod] at h
  | succ n =>
    unfold DataW.trod at h
    rw [hT] at h
    cases cs with
    | nil => simp at h
    | cons v r =>
      cases r with
      | cons u r => cases v <;> simp at h
      | nil =>
        cases v <;> simp at h
        rename_i b
        exact ⟨b, rfl, h.1.symm, h.2⟩

theorem trod_str_inv {T fuel : Nat} {cs : List Value} {d : DataW H} {ps : List MemPlace} {sp : Nat → Bool} {hd : Bool} (hT : P.underlying T = some .string) (h : DataW.trod enc P w 0 sp hd fuel T cs = some (d, ps)) :
    ∃ s : ByteArray, cs = [.string s] ∧ s.size ≤ maxLen ∧ d = .lit (.string s.data.toList) ∧ ps = [] := by
  cases fuel with
  | zero => simp [DataW.trod] at h
  | succ n =>
    unfold DataW.trod at h
    rw [hT] at h
    split at h <;> simp_all

theorem pair_facts {T : Nat} {ka kb : IntKind} (hB : teB P T (.struct [.int ka, .int kb]) = true) : ∃ f0 f1 : Field, P.underlying T = some (.struct #[f0, f1]) ∧ f0.offset = 0 ∧ f1.offset = 1 ∧ P.cellsOf T = 2 ∧ P.cellsOf f0.type = 1 ∧ P.cellsOf f1.type = 1 ∧ P.underlying f0.type = some (.int ka) ∧ P.underlying f1.type = some (.int kb) := by
  obtain ⟨f0, f1, hu, o0, o1, ⟨i0, p0, p1⟩, ⟨i1, p2, p3⟩, hI⟩ := struct2_te hB
  obtain ⟨it, z, g1, g2, _⟩ := (infoB_ok hI).info
  simp only [teB, Bool.and_eq_true] at hB
  obtain ⟨_, h4⟩ := hB
  have h4 : eqB P T [.int ka, .int kb] = true := by simpa [Ty.isInt] using h4
  unfold eqB at h4
  rw [hu] at h4
  simp only [intF, Bool.and_eq_true] at h4
  obtain ⟨⟨⟨⟨_, u0⟩, ⟨_, u1⟩, _⟩, _⟩, _⟩ := h4
  have key : ∀ (f : Field) (k : IntKind), (match P.underlying f.type with | some (.int k') => decide (k = k') | _ => false) = true → P.underlying f.type = some (.int k) := by
    intro f k hf
    split at hf
    · rename_i k' e; rw [e]; simp at hf; rw [hf]
    · cases hf
  exact ⟨f0, f1, hu, o0, o1, by simp [Program.cellsOf, g1, g2, Ty.width], by simp [Program.cellsOf, p0, p1, Ty.width], by simp [Program.cellsOf, p2, p3, Ty.width], key f0 ka u0, key f1 kb u1⟩

theorem trod_pair {T : Nat} {ka kb : IntKind} (hB : teB P T (.struct [.int ka, .int kb]) = true) {fuel : Nat} {cs : List Value} {d : DataW H} {ps : List MemPlace} {sp : Nat → Bool} {hd : Bool} (h : DataW.trod enc P w 0 sp hd fuel T cs = some (d, ps)) :
    ∃ m n, cs = [.int ka m, .int kb n] ∧ (Lit.int ka m).wf = true ∧ (Lit.int kb n).wf = true ∧ d = .agg [.lit (.int ka m), .lit (.int kb n)] ∧ ps = [] := by
  obtain ⟨f0, f1, hu, o0, o1, c, c0, c1, u0, u1⟩ := pair_facts hB
  cases fuel with
  | zero => simp [DataW.trod] at h
  | succ k =>
    unfold DataW.trod at h
    simp only [hu] at h
    split at h
    · rename_i hl
      rw [c] at hl
      obtain ⟨x, y, rfl⟩ : ∃ x y, cs = [x, y] := by
        match cs, hl with
        | [x, y], _ => exact ⟨x, y, rfl⟩
      simp only [List.mapM_cons, List.mapM_nil, o0, o1, c0, c1, List.drop_zero, List.take_succ_cons, List.take_zero, List.drop_succ_cons, Option.bind_eq_bind, Option.pure_def] at h
      cases h0 : DataW.trod enc P w 0 sp hd k f0.type [x] with
      | none => rw [h0] at h; simp at h
      | some q0 =>
        cases h1 : DataW.trod enc P w 0 sp hd k f1.type [y] with
        | none => rw [h0, h1] at h; simp at h
        | some q1 =>
          obtain ⟨e0, l0⟩ := q0
          obtain ⟨e1, l1⟩ := q1
          obtain ⟨m, q1, q2, rfl, rfl⟩ := trod_int_inv u0 h0
          obtain ⟨n, q3, q4, rfl, rfl⟩ := trod_int_inv u1 h1
          rw [h0, h1] at h
          simp only [List.cons.injEq, and_true] at q1 q3
          subst q1 q3
          simp at h
          exact ⟨m, n, rfl, q2, q4, h.1.symm, h.2⟩
    · cases h

theorem trod_pair_mk {T : Nat} {ka kb : IntKind} (hB : teB P T (.struct [.int ka, .int kb]) = true) {m n : Int} (hm : (Lit.int ka m).wf = true) (hn : (Lit.int kb n).wf = true) {sp : Nat → Bool} {hd : Bool} :
    DataW.trod enc P w 0 sp hd 2 T [.int ka m, .int kb n] = some (.agg [.lit (.int ka m), .lit (.int kb n)], []) := by
  obtain ⟨f0, f1, hu, o0, o1, c, c0, c1, u0, u1⟩ := pair_facts hB
  unfold DataW.trod
  simp only [hu]
  rw [if_pos (by rw [c]; rfl)]
  simp only [List.mapM_cons, List.mapM_nil, o0, o1, c0, c1, List.drop_zero, List.take_succ_cons, List.take_zero, List.drop_succ_cons, Option.bind_eq_bind, Option.pure_def]
  rw [show (1 : Nat) = 0 + 1 from rfl, trod_int_mk 0 u0 hm, trod_int_mk 0 u1 hn]
  rfl

theorem trod_open (htt : ttB P tt = true) : ∀ (t : Ty) (T fuel : Nat) (cs : List Value) (d : DataW H) (ps : List MemPlace), tyOK tt T t = true → DataW.trod enc P w 0 (fun _ => true) true fuel T cs = some (d, ps) →
    ∃ x, RO w (oldS w) t x cs ∧ Rd t x d ∧ ∀ (w' : World) (sp : Nat → Bool), (∀ n, n < w.heap.size → w'.heap[n]? = w.heap[n]?) → (∀ p ∈ ps, sp p.block = true) → ∃ n, DataW.trod enc P w' 0 sp true n T cs = some (d, ps)
  | .int k, T, fuel, cs, d, ps, hty, h => by
    have hT := tyOK_int htt hty
    obtain ⟨n, rfl, hw, rfl, rfl⟩ := trod_int_inv hT h
    exact ⟨n, rfl, ⟨rfl, hw⟩, fun w' sp _ _ => ⟨1, trod_int_mk 0 hT hw⟩⟩
  | .bool, T, fuel, cs, d, ps, hty, h => by
    have hT := tyOK_bool htt hty
    obtain ⟨b, rfl, rfl, rfl⟩ := trod_bool_inv hT h
    exact ⟨b, rfl, rfl, fun w' sp _ _ => ⟨1, by unfold DataW.trod; rw [hT]⟩⟩
  | .str, T, fuel, cs, d, ps, hty, h => by
    have hT := tyOK_str htt hty
    obtain ⟨s, rfl, hs, rfl, rfl⟩ := trod_str_inv hT h
    exact ⟨s, rfl, ⟨rfl, hs⟩, fun w' sp _ _ => ⟨1, by unfold DataW.trod; rw [hT]; simp [hs]⟩⟩
  | .list e t, T, fuel, cs, d, ps, hty, h => by
    obtain ⟨hT, hc, hty'⟩ := tyOK_list htt hty
    rcases open_slice hT h with ⟨rfl, hx⟩ | ⟨a, len, cap, m, n, D, Pl, rfl, hb, hl, hm, hmm, hx, hel⟩
    · simp only [Prod.mk.injEq] at hx
      obtain ⟨rfl, rfl⟩ := hx
      refine ⟨[], ⟨none, 0, rfl, Nat.le_refl _, Nat.zero_le _, fun h => absurd rfl h⟩, .inl ⟨rfl, rfl⟩, fun w' sp _ _ => ⟨1, by simp [DataW.trod, hT]⟩⟩
    · simp only [if_true] at hmm
      have hmm := hmm.symm
      subst hmm
      simp only [Prod.mk.injEq] at hx
      obtain ⟨rfl, rfl⟩ := hx
      rw [hc] at hel
      have hw := t.width_pos
      have ih : ∀ i, ∃ q : List Value × t.den, i < cap → w.cells? 0 (a.add (i * t.width)) t.width = some q.1 ∧ RO w (oldS w) t q.2 q.1 ∧ Rd t q.2 (D i) ∧ ∀ (w' : World) (sp : Nat → Bool), (∀ n, n < w.heap.size → w'.heap[n]? = w.heap[n]?) → (∀ p ∈ Pl i, sp p.block = true) →
          ∃ n, DataW.trod enc P w' 0 sp true n e q.1 = some (D i, Pl i) := fun i => by
        by_cases hi : i < cap
        · obtain ⟨cs', h1, h2⟩ := hel i hi
          obtain ⟨x, h3, h4, h5⟩ := trod_open htt t e n cs' (D i) (Pl i) hty' h2
          exact ⟨(cs', x), fun _ => ⟨h1, h3, h4, h5⟩⟩
        · exact ⟨([], t.dflt), fun h => absurd h hi⟩
      let G : Nat → List Value × t.den := fun i => (ih i).choose
      have hG : ∀ i, i < cap → w.cells? 0 (a.add (i * t.width)) t.width = some (G i).1 ∧ RO w (oldS w) t (G i).2 (G i).1 ∧ Rd t (G i).2 (D i) ∧ ∀ (w' : World) (sp : Nat → Bool), (∀ n, n < w.heap.size → w'.heap[n]? = w.heap[n]?) → (∀ p ∈ Pl i, sp p.block = true) →
          ∃ n, DataW.trod enc P w' 0 sp true n e (G i).1 = some (D i, Pl i) := fun i hi => (ih i).choose_spec hi
      have hgd : ∀ i, i < len → ((List.range len).map fun i => (G i).2).getD i t.dflt = (G i).2 := fun i hi => by
        simp [List.getD_eq_getElem?_getD, hi]
      refine ⟨(List.range len).map fun i => (G i).2, ⟨some a, cap, by simp, by simpa using hl, hm, fun hne => ?_⟩, .inr ⟨_, _, rfl, by simp, fun i d hd => ?_⟩, fun w' sp hw' hsp => ?_⟩
      · have hlen : 0 < len := by
          rcases Nat.eq_zero_or_pos len with h | h
          · subst h; simp at hne
          · exact h
        obtain ⟨b, off, spot⟩ := a
        have h0 := (hG 0 (by omega)).1
        have hspot : spot = none := by
          obtain ⟨_, hl0, hcell⟩ := World.cells?_some h0
          have h1 := hcell 0 hw
          simp only [Nat.zero_mul, Addr.add, if_true] at h1
          rw [List.getElem?_eq_getElem (by omega)] at h1
          unfold World.cell? at h1
          split at h1
          · split at h1
            · cases h1
            · rename_i hsp; simpa using hsp
          · cases h1
        subst hspot
        have key : ∀ i, i < cap → (G i).1.length = t.width ∧ ∃ arr E fr, w.heap[b]? = some (.cells arr E fr) ∧ off + i * t.width + t.width ≤ arr.size ∧ cellsAt arr (off + i * t.width) t.width = (G i).1 := fun i hi => by
          have h := (hG i hi).1
          rw [Addr.add_mid] at h
          exact cells_some h hw
        obtain ⟨_, arr, E, fr, hb0, _, _⟩ := key 0 (by omega)
        have key' : ∀ i, i < cap → off + i * t.width + t.width ≤ arr.size ∧ cellsAt arr (off + i * t.width) t.width = (G i).1 := fun i hi => by
          obtain ⟨_, arr', E', fr', hb', h1, h2⟩ := key i hi
          rw [hb0] at hb'
          simp only [Option.some.injEq, Obj.cells.injEq] at hb'
          obtain ⟨rfl, _, _⟩ := hb'
          exact ⟨h1, h2⟩
        refine ⟨b, off, arr, E, fr, rfl, (Array.getElem?_eq_some_iff.1 hb0).1, hb0, ?_, fun i hi => ?_⟩
        · simp only [List.length_map, List.length_range]
          have h1 := (key' (len - 1) (by omega)).1
          have h2 : (len - 1) * t.width + t.width = len * t.width := by rw [← Nat.succ_mul]; congr 1; omega
          omega
        · have hi' : i < len := by simpa using hi
          rw [hgd i hi', (key' i (by omega)).2]
          exact (hG i (by omega)).2.1
      · simp only [List.getElem?_map] at hd
        have hi' : i < len := by
          by_cases h : i < len
          · exact h
          · rw [List.getElem?_eq_none (by simpa using h)] at hd; cases hd
        rw [List.getElem?_range hi'] at hd
        simp only [Option.map_some, Option.some.injEq] at hd
        subst hd
        rw [hgd i hi']
        exact (hG i (by omega)).2.2.1
      · have hel' : ∀ i, i < cap → ∃ cs n, w'.cells? 0 (a.add (i * P.cellsOf e)) (P.cellsOf e) = some cs ∧ DataW.trod enc P w' 0 sp true n e cs = some (D i, Pl i) := fun i hi => by
          obtain ⟨h1, _, _, h2⟩ := hG i hi
          obtain ⟨n', h3⟩ := h2 w' sp hw' fun p hp => hsp p (List.mem_append_right _ (List.mem_flatMap.2 ⟨i, List.mem_range.2 hi, hp⟩))
          refine ⟨(G i).1, n', ?_, h3⟩
          rw [hc]
          have hblk := World.cells?_block h1 hw
          rw [← h1]
          unfold World.cells?
          rw [if_pos (Nat.zero_le _), if_pos (Nat.zero_le _)]
          congr 1
          funext j
          have hbj : ((a.add (i * t.width)).add j).block = (a.add (i * t.width)).block := by unfold Addr.add; split <;> rfl
          simp only [World.cell?]
          rw [hbj, hw' _ hblk]
        by_cases hcap : cap = 0
        · subst hcap
          have hl0 : len = 0 := by omega
          subst hl0
          by_cases hs : sp a.block = true
          · exact shut_slice_whole_cells hT (Nat.zero_le _) (Nat.le_refl _) hm hs D Pl hel'
          · obtain ⟨n', hn'⟩ := shut_slice_cells (len := 0) (cap := 0) hT (Nat.zero_le _) (Nat.le_refl _) hm (by simpa using hs) D Pl (fun i hi => hel' i hi)
            exact ⟨n', by simpa using hn'⟩
        · have hs : sp a.block = true := by
            refine hsp (.cell a.block (a.off + 0)) (List.mem_append_left _ ?_)
            simp only [MemPlace.row, List.mem_map, List.mem_range]
            exact ⟨0, by rw [hc]; exact Nat.mul_pos (by omega) hw, rfl⟩
          exact shut_slice_whole_cells hT (Nat.zero_le _) hl hm hs D Pl hel'
  | .raw, T, fuel, cs, d, ps, hty, h => by simp [tyOK] at hty
  | .fn _ _, T, fuel, cs, d, ps, hty, h => by simp [tyOK] at hty
  | .row _ _, T, fuel, cs, d, ps, hty, h => by simp [tyOK] at hty
  | .ro _ _, T, fuel, cs, d, ps, hty, h => by simp [tyOK] at hty
  | .func, T, fuel, cs, d, ps, hty, h => by simp [tyOK] at hty
  | .prod a b, T, fuel, cs, d, ps, hty, h => by
    obtain ⟨ka, kb, rfl, rfl, hl⟩ := tyOK_prod hty
    have hB := ttB_get htt hl
    obtain ⟨m, n, rfl, hm, hn, rfl, rfl⟩ := trod_pair hB h
    exact ⟨(m, n), ⟨[.int ka m], [.int kb n], rfl, rfl, rfl⟩, ⟨_, _, rfl, ⟨rfl, hm⟩, ⟨rfl, hn⟩⟩, fun w' sp _ _ => ⟨2, trod_pair_mk hB hm hn⟩⟩

end
end Fer

namespace Fer
open Go Go.ChangeShapes Go.WideShapes Go.RowKit

inductive RdAll {H : Type} : List TV → List (DataW H) → Prop
  | nil : RdAll [] []
  | cons {v d vs ds} (h : Rd v.t v.x d) (hl : RdAll vs ds) : RdAll (v :: vs) (d :: ds)

def tysOK (tt : List (Nat × TE)) : List Nat → List Ty → Bool
  | [], [] => true
  | T :: Ts, t :: ts => (tyOK tt T t && !t.isProd) && tysOK tt Ts ts
  | _, _ => false

section
variable {H : Type} {enc : TypeId × Value → H} {P : Program} {tt : List (Nat × TE)} {w : World}

theorem okWide_cells (htt : ttB P tt = true) {T base : Nat} {t : Ty} (h : tyOK tt T t = true) (hp : t.isProd = false) {v : Value} (hv : Value.okWide P w .any base T v) : v.cells.toList = [v] ∧ pack t [v] = v := by
  cases t with
  | int k => have hT := tyOK_int htt h; simp only [Value.okWide, hT, Cell.okWide] at hv; cases v <;> simp_all [Cell.ok, Value.cells, pack]
  | bool => have hT := tyOK_bool htt h; simp only [Value.okWide, hT, Cell.okWide] at hv; cases v <;> simp_all [Cell.ok, Value.cells, pack]
  | str => have hT := tyOK_str htt h; simp only [Value.okWide, hT, Cell.okWide] at hv; cases v <;> simp_all [Cell.ok, Value.cells, pack]
  | list e t =>
    obtain ⟨hT, _, _⟩ := tyOK_list htt h
    obtain ⟨a, len, cap, rfl⟩ := okWide_slice hT hv
    exact ⟨rfl, rfl⟩
  | raw => simp [tyOK] at h
  | fn => simp [tyOK] at h
  | row => simp [tyOK] at h
  | ro => simp [tyOK] at h
  | func => simp [tyOK] at h
  | prod a b => simp [Ty.isProd] at hp

theorem args_open (htt : ttB P tt = true) : ∀ (Ts : List Nat) (ts : List Ty) (vs : List Value) (ds : List (DataW H)) (ps : List MemPlace), tysOK tt Ts ts = true → DataW.TrodAll enc P w 0 (fun _ => true) true Ts vs ds ps →
    (∀ (j : Nat) T v, Ts[j]? = some T → vs[j]? = some v → Value.okWide P w .any 0 T v) →
    ∃ tvs, Args w (oldS w) ts tvs vs ∧ RdAll tvs ds ∧ ∀ (w' : World) (sp : Nat → Bool), (∀ n, n < w.heap.size → w'.heap[n]? = w.heap[n]?) → (∀ p ∈ ps, sp p.block = true) → DataW.TrodAll enc P w' 0 sp true Ts vs ds ps
  | [], ts, vs, ds, ps, hty, h, _ => by
    obtain ⟨rfl, rfl, rfl⟩ := trodAll_nil h
    cases ts with
    | nil => exact ⟨[], .nil, .nil, fun _ _ _ _ => trodAll_mk0⟩
    | cons => simp [tysOK] at hty
  | T :: Ts, ts, vs, ds, ps, hty, h, hv => by
    obtain ⟨v, vs, d, ds, p, q, rfl, rfl, rfl, h1, h2⟩ := trodAll_cons h
    cases ts with
    | nil => simp [tysOK] at hty
    | cons t ts =>
      simp only [tysOK, Bool.and_eq_true, Bool.not_eq_true'] at hty
      obtain ⟨fuel, h1⟩ := h1
      obtain ⟨e1, e2⟩ := okWide_cells htt hty.1.1 hty.1.2 (hv 0 T v rfl rfl)
      rw [e1] at h1
      obtain ⟨x, r1, r2, r3⟩ := trod_open htt t T fuel [v] d p hty.1.1 h1
      obtain ⟨tvs, a1, a2, a3⟩ := args_open htt Ts ts vs ds q hty.2 h2 (fun j T' v' hj hj' => hv (j + 1) T' v' (by simpa using hj) (by simpa using hj'))
      refine ⟨⟨t, x⟩ :: tvs, ?_, .cons r2 a2, fun w' sp hw' hsp => ?_⟩
      · have := Args.cons r1 a1; rwa [e2] at this
      · obtain ⟨n, hn⟩ := r3 w' sp hw' fun y hy => hsp y (List.mem_append_left _ hy)
        exact trodAll_cons_mk ⟨n, by rw [e1]; exact hn⟩ (a3 w' sp hw' fun y hy => hsp y (List.mem_append_right _ hy))

theorem trodAll_len {base : Nat} {sp : Nat → Bool} {b : Bool} : ∀ {Ts : List Nat} {vs : List Value} {ds : List (DataW H)} {ps : List MemPlace}, DataW.TrodAll enc P w base sp b Ts vs ds ps → ds.length = Ts.length
  | [], _, _, _, h => by obtain ⟨_, rfl, _⟩ := trodAll_nil h; rfl
  | T :: Ts, _, _, _, h => by
    obtain ⟨v, vs, d, ds, p, q, _, rfl, _, _, h2⟩ := trodAll_cons h
    simp [trodAll_len h2]

theorem Grew.kept {w w' : World} (g : Grew w w') (may : MemPlace → Prop) : w.keptBut w' may := by
  refine ⟨g.os, g.output.out, fun i hi => ?_⟩
  rw [g.old i hi]
  have := (World.keptBut_refl w may).2.2 i hi
  exact this

theorem post_of_same_old {f : Func} {s : ChangeSpec} {apart fresh handsOn again : Bool} {W W' : World} {args : Array Value} {v : Value} {ds gs : List (DataW H)} {before pa pv : List MemPlace}
    (hW : DataW.Whole enc P f.params.toList s.vars apart W args.toList ds gs before)
    (hres : ∀ (b : Nat) (sp : Nat → Bool) (hd : Bool), DataW.TrodAll enc P W' b sp hd f.resultTypes.toList (v.resultList f.resultTypes.size) (s.fn H (ds ++ gs)).results [])
    (hargs : ∀ sp : Nat → Bool, (∀ p ∈ before, sp p.block = true) → DataW.TrodAll enc P W' 0 sp true f.params.toList args.toList (s.fn H (ds ++ gs)).args pa)
    (hvars : ∀ sp : Nat → Bool, (∀ p ∈ before, sp p.block = true) → DataW.TrodVars enc P W' sp s.vars (s.fn H (ds ++ gs)).vars pv)
    (hps : before = pa ++ pv) (hk : W.keptBut W' (· ∈ before)) (hfz : ∀ a, a.block < W.heap.size → W'.frozen? a = W.frozen? a)
    (hok : ∀ (j : Nat) (t : TypeId) (r : Value), f.resultTypes[j]? = some t → (v.resultList f.resultTypes.size)[j]? = some r → Value.okWide P W' .any 0 t r) :
    s.post enc P f apart fresh handsOn again W args v W' := by
  have hlt := hW.lt
  have hold : ∀ p ∈ before, (fun b => decide (b < W.heap.size)) p.block = true := fun p hp => by simpa using hlt p hp
  refine ⟨ds, gs, before, [], pa, pv, hW, hres _ _ _, hargs _ hold, hvars _ hold, World.keptBut_mono (fun p hp => ⟨hp, ?_⟩) hk, fun _ => ?_⟩
  · rw [hps, List.mem_append] at hp
    exact Or.inr hp
  · obtain ⟨_, _, _, _, _, hz, hn⟩ := hW
    refine ⟨hok, _, _, ([] ++ pa) ++ pv, ⟨[] ++ pa, pv, trodAll_append (hargs _ (fun _ _ => rfl)) (hres _ _ _), hvars _ (fun _ _ => rfl), rfl, ?_, ?_⟩, ?_⟩
    · intro b off hp
      have hb : MemPlace.cell b off ∈ before := by rw [hps]; simpa using hp
      rw [hfz _ (hlt _ hb)]
      exact hz b off hb
    · intro ha
      have := hn ha
      rw [hps] at this
      simpa using this
    · intro p hp _
      rw [hps]
      simpa using hp

theorem law_calls3 {f : Nat} {fn : Func} {sp : Spec} {T : Nat} (htt : ttB P tt = true) (htys : tysOK tt fn.params.toList sp.ps = true) (hrt : fn.resultTypes = #[T]) (hT : P.underlying T = some .bool)
    {s : ChangeSpec} (hvars : s.vars = []) {W : World} (hOK : FnAt P f sp W (oldS W)) {args : Array Value} {ds gs : List (DataW H)} {before : List MemPlace} (hspec : s.fn H ds = { results := [.lit (.bool true)], args := ds })
    (hval : ∀ (j : Nat) t v, fn.params[j]? = some t → args[j]? = some v → Value.okWide P W .any 0 t v)
    (hW : DataW.Whole enc P fn.params.toList s.vars false W args.toList ds gs before)
    (hwp : ∀ tvs : List TV, tvs.map (·.t) = sp.ps → RdAll tvs ds → sp.wp tvs fun outs => outs = [⟨.bool, true⟩]) {fresh handsOn again : Bool} :
    Calls P f args W fun e W' => ∃ v, e = .returned v ∧ s.post enc P fn false fresh handsOn again W args v W' := by
  have hW' := hW
  rw [hvars] at hW
  obtain ⟨p, q, hA, hV, rfl, hfz, hnd⟩ := hW
  obtain ⟨rfl, rfl⟩ := trodVars_none hV
  obtain ⟨tvs, a1, a2, a3⟩ := args_open htt fn.params.toList sp.ps args.toList ds p htys hA (fun j T v h1 h2 => hval j T v (by simpa using h1) (by simpa using h2))
  have hc := hOK.2 tvs _ (hwp tvs (args_get a1).2.1 a2) W args.toList (fun _ _ => rfl) a1
  have hargs : args.toList.toArray = args := Array.toArray_toList
  rw [hargs] at hc
  refine hc.mono fun e W' he => ?_
  cases e with
  | panicked => exact he.elim
  | outgrown => exact he.elim
  | returned v =>
    obtain ⟨g, outs, us, F, rfl, rfl, hR⟩ := he
    cases hR with
    | cons h1 hl hd =>
      cases hl
      obtain ⟨_, _, cs, rfl, hb⟩ := h1
      simp only [RO] at hb
      subst hb
      have hv : valOf [pack Ty.bool [Value.bool true]] = .bool true := rfl
      rw [hv]
      have hspec' : s.fn H (ds ++ []) = { results := [.lit (.bool true)], args := ds } := by rw [List.append_nil]; exact hspec
      refine ⟨_, rfl, post_of_same_old (pa := p) (pv := []) hW' (fun b sp' hd' => ?_) (fun sp' hsp => ?_) (fun _ _ => ?_) rfl (g.kept _) (fun a ha => g.output.fz a trivial ha) (fun j T' r hj hr => ?_)⟩
      · rw [hrt, hspec']
        exact trodAll_cons_mk (p := []) (p' := []) (shut_bool hT true) trodAll_mk0
      · rw [hspec']
        exact a3 W' sp' g.old fun y hy => hsp y (by simpa using hy)
      · rw [hspec', hvars]; rfl
      · rw [hrt] at hj hr
        cases j with
        | zero =>
          simp [Value.resultList] at hj hr
          subst hj; subst hr
          exact okWide_bool_mk hT _
        | succ j => simp at hj

theorem law_calls2 {f : Nat} {fn : Func} {sp : Spec} {T : Nat} (htt : ttB P tt = true) (hOK : FnOK P f sp) (htys : tysOK tt fn.params.toList sp.ps = true) (hrt : fn.resultTypes = #[T]) (hT : P.underlying T = some .bool)
    {s : ChangeSpec} (hvars : s.vars = []) {W : World} {args : Array Value} {ds gs : List (DataW H)} {before : List MemPlace} (hspec : s.fn H ds = { results := [.lit (.bool true)], args := ds })
    (hval : ∀ (j : Nat) t v, fn.params[j]? = some t → args[j]? = some v → Value.okWide P W .any 0 t v)
    (hW : DataW.Whole enc P fn.params.toList s.vars false W args.toList ds gs before)
    (hwp : ∀ tvs : List TV, tvs.map (·.t) = sp.ps → RdAll tvs ds → sp.wp tvs fun outs => outs = [⟨.bool, true⟩]) {fresh handsOn again : Bool} :
    Calls P f args W fun e W' => ∃ v, e = .returned v ∧ s.post enc P fn false fresh handsOn again W args v W' :=
  law_calls3 htt htys hrt hT hvars hOK.at hspec hval hW hwp

end
end Fer

namespace Fer
open Go Go.Sort

def Ty.num : Ty → Bool
  | .list _ _ | .raw | .fn _ _ | .row _ _ | .ro _ _ | .func => false
  | .prod a b => a.num && b.num
  | _ => true

def encT : (t : Ty) → t.den → List Value
  | .int k, n => [.int k n]
  | .bool, b => [.bool b]
  | .str, s => [.string s]
  | .raw, v => [v]
  | .list _ _, _ | .fn _ _, _ | .row _ _, _ | .ro _ _, _ | .func, _ => [undef]
  | .prod a b, x => encT a x.1 ++ encT b x.2

instance (t : Ty) : Inhabited t.den := ⟨t.dflt⟩

theorem encT_len : ∀ (t : Ty) (x : t.den), (encT t x).length = t.width
  | .int _, _ | .bool, _ | .str, _ | .raw, _ | .list _ _, _ | .fn _ _, _ | .row _ _, _ | .ro _ _, _ | .func, _ => rfl
  | .prod a b, x => by simp [encT, Ty.width, encT_len a, encT_len b]
theorem own_enc {w : World} {S : Nat → Prop} : ∀ {t : Ty} {k : Nat} {x : t.den} {ct : CT} {cs : List Value} {F : Nat → Prop}, t.num = true → Own w S t k x none ct cs F → cs = encT t x ∧ ∀ n, ¬ F n
  | .int _, _, _, _, _, _, _, ⟨h1, h⟩ | .bool, _, _, _, _, _, _, ⟨h1, h⟩ | .str, _, _, _, _, _, _, ⟨h1, h⟩ => by
    rcases h with ⟨h, _⟩ | ⟨_, h⟩
    · cases h
    · exact ⟨h, h1⟩
  | .raw, _, _, _, _, _, h, _ | .list _ _, _, _, _, _, _, h, _ | .fn _ _, _, _, _, _, _, h, _ | .row _ _, _, _, _, _, _, h, _ => by simp [Ty.num] at h
  | .prod a b, k, x, ct, cs, F, h, H => by
    simp only [Ty.num, Bool.and_eq_true] at h
    rcases H with ⟨h0, _⟩ | ⟨_, H⟩
    · cases h0
    · cases ct with
      | pair c d =>
        obtain ⟨c1, c2, F1, F2, rfl, g1, g2, g3, g4⟩ := H
        rw [hsub_none] at g3 g4
        obtain ⟨rfl, e1⟩ := own_enc h.1 g3
        obtain ⟨rfl, e2⟩ := own_enc h.2 g4
        exact ⟨rfl, fun n hn => ((g1 n).1 hn).elim (e1 n) (e2 n)⟩
      | nil => exact H.elim
      | leaf => exact H.elim
      | node => exact H.elim

theorem cells_get {arr : Array Value} {o n c : Nat} {l : List Value} (h : cellsAt arr o n = l) (hl : l.length = n) (hc : c < n) : arr[o + c]? = some l[c]! := by
  have h1 : l[c]? = some l[c]! := by rw [getElem!_pos l c (by omega)]; exact List.getElem?_eq_getElem _
  rw [← h1, ← h]
  simp only [cellsAt, List.getElem?_take, if_pos hc, List.getElem?_drop, Array.getElem?_toList]

theorem toArray_at {t : Ty} (x : List t.den) {i : Nat} (h : i < x.length) : x.toArray[i]! = x.getD i t.dflt := by
  rw [getElem!_pos _ i (by simpa using h), List.getD_eq_getElem?_getD, List.getElem?_eq_getElem h]
  simp

theorem own_holds {w : World} {S : Nat → Prop} {e : Nat} {t : Ty} {k : Nat} {x : List t.den} {ct : CT} {v : Value} {F : Nat → Prop} (hn : t.num = true) (H : Own w S (.list e t) (k + 1) x none ct [v] F) (hne : x ≠ []) :
    ∃ b cap arr, v = .slice (some ⟨b, 0, none⟩) x.length cap ∧ x.length ≤ cap ∧ cap ≤ maxLen ∧ w.heap[b]? = some (.cells arr e (0, 0)) ∧ arr.size = cap * t.width ∧ (∀ n, F n ↔ n = b) ∧ HoldsK (encT t) t.width w b 0 x.toArray := by
  rcases own_inv H with ⟨_, h, _⟩ | ⟨b, cap, kids, arr, Fs, rfl, hv, q2, q3, h4, h5, g1, g2, g3, g4⟩
  · exact absurd h hne
  · have hE := fun i (hi : i < x.length) => own_enc hn (g4 i hi)
    refine ⟨b, cap, arr, by simpa using hv, q2, q3, h4, h5, fun n => ⟨fun h => ?_, fun h => (g1 n).2 (.inl h)⟩, fun j hj => ?_⟩
    · rcases (g1 n).1 h with h | ⟨i, hi, h⟩
      · exact h
      · exact absurd h ((hE i hi).2 n)
    · rw [size_flatK] at hj
      have hw := t.width_pos
      have hsz : x.toArray.size = x.length := by simp
      rw [hsz] at hj
      have hi : j / t.width < x.length := Nat.div_lt_of_lt_mul (by rw [Nat.mul_comm]; exact hj)
      have hc := Nat.mod_lt j hw
      have hg := cells_get (hE _ hi).1 (encT_len t _) hc
      have hdm : j / t.width * t.width + j % t.width = j := by rw [Nat.mul_comm]; exact Nat.div_add_mod j t.width
      rw [hdm] at hg
      constructor
      · simp only [World.cell?, h4, Nat.zero_add]
        rw [get_flatK _ _ _ _ (by rw [hsz]; exact hj), toArray_at x hi]
        simpa using hg
      · simp [World.frozen?, h4]

end Fer

namespace Fer
open Go Go.Sort Go.Proofs

theorem grew_world {w w' : World} (g : Grew w w') : ∃ q os', w' = grow (w.drewN q) os' := by
  refine ⟨w'.drawn - w.drawn, w'.heap.extract w.heap.size w'.heap.size, ?_⟩
  have hd := g.output.dr trivial
  have hh : w'.heap = w.heap ++ w'.heap.extract w.heap.size w'.heap.size := by
    have hs := g.size
    apply Array.ext_getElem?
    intro i
    by_cases hi : i < w.heap.size
    · rw [Array.getElem?_append_left hi]
      exact g.old i hi
    · rw [Array.getElem?_append_right (by omega)]
      by_cases h2 : i < w'.heap.size
      · rw [Array.getElem?_extract]
        rw [if_pos (by omega), show w.heap.size + (i - w.heap.size) = i by omega]
      · rw [Array.getElem?_eq_none (by omega), Array.getElem?_eq_none (by simp; omega)]
  have h1 := g.os
  have h2 := g.tape
  have h3 := g.output.out
  cases w'
  cases w
  simp only at hh hd h1 h2 h3
  simp only [grow, World.drewN, World.mk.injEq]
  exact ⟨hh, h2, by omega, h1, h3⟩

def SortedL {α : Type} [Inhabited α] (cf : α → α → Int) (l : List α) : Prop := ∀ i j, i < j → j < l.length → 0 ≤ cf (l.getD j default) (l.getD i default)

theorem enters_call {P : Program} {g : Nat} {gsp : Spec} (hg : FnOK P g gsp) : ∀ args w, (callFunc g args).run P w = .ok (.enter g args) w := fun args w => by
  obtain ⟨fn, hf, hnm, hbd⟩ := hg.1
  exact run_call hf hnm hbd args


def enc1 (t : Ty) (x : t.den) : Value := (encT t x)[0]!
end Fer

namespace Fer
open Go Go.Sort Go.Proofs

section
variable {α : Type} [Inhabited α]
def CmpP (P : Program) (g : Nat) (t : Ty) (enc : α → List Value) (cf : α → α → Int) (b size : Nat) (w : World) : Prop :=
  ∀ (m : Nat) (os : Array Obj) (dk : Array α), dk.size = size → ∀ x y : α,
    Calls P g #[pack t (enc x), pack t (enc y)] (sortWorldK enc t.width w b 0 m dk os) fun e w' => e = .returned (.int .i64 (cf x y)) ∧ ∃ q os', w' = grow ((sortWorldK enc t.width w b 0 m dk os).drewN q) os'
end

def SortCall (P : Program) (f g : Nat) (t : Ty) : Prop := ∀ (α : Type) [Inhabited α] (enc : α → List Value) (cf : α → α → Int) (b cap : Nat) (d : Array α) (w : World),
  (∀ x, (enc x).length = t.width) → (∀ x v, v ∈ enc x → v.oneCell' = true) → SWO (ltOf cf) → CmpP P g t enc cf b d.size w → HoldsK enc t.width w b 0 d → b < w.heap.size → d.size < 4611686018427387904 →
  Calls P f #[.slice (some ⟨b, 0, none⟩) d.size cap, .func (.func g) #[] #[]] w fun e w' => e = .returned (.tuple #[]) ∧ ∃ d' n os, PermIn 0 d.size d d' ∧ SortedIn (ltOf cf) 0 d.size d' ∧ w' = sortWorldK enc t.width w b 0 n d' os

section
variable {α : Type} [Inhabited α] {enc : α → List Value}
theorem gflat1 (d : Array α) {j : Nat} (hj : j < d.size) : (flatK enc 1 d)[j]! = (enc d[j]!)[0]! := by
  rw [get_flatK _ _ _ _ (by omega), Nat.div_one, Nat.mod_one]
theorem gput1 (d : Array α) (off : Nat) (c : Array Value) : putCells (fun x => (enc x)[0]!) off d c = putCells id off (flatK enc 1 d) c := by
  unfold putCells
  have hs : (flatK enc 1 d).size = d.size := by rw [size_flatK, Nat.mul_one]
  rw [hs]
  refine Array.ext_getElem? fun k => ?_
  simp only [Array.getElem?_mapIdx]
  cases c[k]? with
  | none => rfl
  | some v =>
    simp only [Option.map_some]
    by_cases hk : off ≤ k ∧ k < off + d.size
    · rw [if_pos hk, if_pos hk, gflat1 d (by omega)]
      rfl
    · rw [if_neg hk, if_neg hk]
theorem gsort1 (w : World) (b off n : Nat) (d : Array α) (os : Array Obj) : sortWorld (fun x => (enc x)[0]!) w b off n d os = sortWorldK enc 1 w b off n d os := by
  unfold sortWorld sortWorldK putRowK putRow
  have : putCells (fun x => (enc x)[0]!) off d = putCells id off (flatK enc 1 d) := funext fun c => gput1 d off c
  rw [this]
theorem gholds1 {w : World} {b off : Nat} {d : Array α} (H : HoldsK enc 1 w b off d) : Holds (fun x => (enc x)[0]!) w b off d := fun j hj => by
  have hs : (flatK enc 1 d).size = d.size := by rw [size_flatK, Nat.mul_one]
  have := H j (by rw [hs]; exact hj)
  rw [gflat1 d hj] at this
  exact this
end

theorem sortCall_one {P : Program} {ρ : Go.Shelf.Ren} (L : SlLaysF.n6 P ρ) {t : Ty} (hp : t.isProd = false) (h1 : t.width = 1)
    {g : Nat} {gsp : Spec} (hg : FnOK P g gsp) : SortCall P (ρ.f 6) g t := fun α _ enc cf b cap d w hl ho hO hC hH hb hs => by
  rw [h1] at hH
  have hone : ∀ x, enc x = [(enc x)[0]!] := fun x => by
    have := hl x
    rw [h1] at this
    match enc x, this with
    | [v], _ => rfl
  have hpk : ∀ x, pack t (enc x) = (enc x)[0]! := fun x => by
    have e : pack t [(enc x)[0]!] = (enc x)[0]! := by cases t <;> first | rfl | (simp [Ty.isProd] at hp; done)
    rw [← hone x] at e
    exact e
  refine Calls.mono (Any.slices_SortFunc L (fun x => (enc x)[0]!) (fun x => ho x _ (by rw [hone x]; exact List.mem_singleton.2 rfl)) cf hO g #[] b 0 cap d w (enters_call hg) (fun m os dk hk x y => by
    have := hC m os dk hk x y
    rw [h1, hpk, hpk] at this
    rw [gsort1, Array.append_empty]
    exact this) (gholds1 hH) hb hs) ?_
  rintro e w' ⟨he, d', n, os, h1', h2, h3⟩
  exact ⟨he, d', n, os, h1', h2, by rw [h3, gsort1, h1]⟩

theorem ext_all {α : Type} {a : Array α} {n : Nat} (h : a.size = n) : a.extract 0 n = a := by
  subst h
  exact Array.extract_size

def encI (t : Ty) (arr : Array Value) (n : Nat) (i : Fin n) : List Value := cellsAt arr (i.val * t.width) t.width

theorem fin_map {α : Type} (x : List α) (d : α) : (Array.ofFn fun i : Fin x.length => i).toList.map (fun i : Fin x.length => x.getD i.val d) = x := by
  apply List.ext_getElem?
  intro i
  by_cases h : i < x.length
  · rw [List.getElem?_map, List.getElem?_eq_getElem (by simpa using h), List.getElem?_eq_getElem h]
    simp [List.getD_eq_getElem?_getD]
  · rw [List.getElem?_eq_none (by simpa using h), List.getElem?_eq_none (by simpa using h)]

set_option maxHeartbeats 1000000 in
theorem sort_coreQ {P : Program} {f e : Nat} {t : Ty} (hro : t.noRo = true) {g : Nat} {cf : t.den → t.den → Int} {gsp : Spec} (hg : FnOK P g gsp) (hgps : gsp.ps = [t, t]) (hO : SWO (ltOf cf))
    (hfn : ∃ fn, P.funcs[f]? = some fn ∧ (fn.name == "runtime.NumGoroutine") = false ∧ fn.body.isNone = false)
    (hnone : ∀ (a : Option Addr) (cap : Nat) (fv : Value) (w : World), Calls P f #[.slice a 0 cap, fv] w fun e w' => e = .returned (.tuple #[]) ∧ w' = w)
    (hcall : SortCall P f g t) {sp : Spec} (hps : sp.ps = [.list e t, .raw])
    (hwp : ∀ (l : List t.den) (fv : Value) (K : List TV → Prop), sp.wp [⟨.list e t, l⟩, ⟨.raw, fv⟩] K → ∃ Q : t.den → Prop, (∀ x y K, Q x → Q y → K [⟨.int .i64, cf x y⟩] → gsp.wp [⟨t, x⟩, ⟨t, y⟩] K) ∧ fv = .func (.func g) #[] #[] ∧ l.length ≤ 4000000000000 ∧ (∀ x ∈ l, Q x) ∧ ∀ l' : List t.den, l'.Perm l → SortedL cf l' → K [⟨.list e t, l'⟩]) : FnIp P f sp := by
  refine ⟨hfn, fun e' t' ts x args K hps' hK w v0 vs ct F hO' hF hA => ?_⟩
  rw [hps] at hps'
  simp only [List.cons.injEq, Ty.list.injEq] at hps'
  obtain ⟨⟨rfl, rfl⟩, rfl⟩ := hps'
  cases hA with
  | @cons _ _ fv _ cs _ hfv hA =>
  cases hA
  obtain ⟨Q, hgw, rfl, hxl, hQ, hk⟩ := hwp x fv K hK
  obtain ⟨rfl, _⟩ := hfv
  by_cases hx : x = []
  · subst hx
    obtain ⟨a, cap, rfl⟩ : ∃ a cap, v0 = .slice a 0 cap := by
      rcases own_inv hO' with ⟨_, _, h, _⟩ | ⟨b, cap, kids, arr, Fs, _, h, _⟩
      · exact ⟨none, 0, by simpa using h⟩
      · exact ⟨_, cap, by simpa using h⟩
    refine Calls.mono (hnone a cap _ w) ?_
    rintro e' w' ⟨rfl, rfl⟩
    exact ⟨rfl, ⟨rfl, rfl, SameOut.refl _, Nat.le_refl _, fun _ _ => rfl⟩, [], ct, F, hk [] (.refl _) (fun i j _ h => by simp at h), fun n hn => ⟨fun h => h.2 hn, hF n hn⟩, own_full (t := .list e t) (show (Ty.list e t).noRo = true from hro) (Nat.le_refl _) (Nat.le_refl _) hO'⟩
  · rcases own_inv hO' with ⟨_, h, _⟩ | ⟨b, cap, kids, arr, Fs, rfl, hv, q2, q3, hb, hsz, g1, g2, g3, g4⟩
    · exact absurd h hx
    have hv : v0 = .slice (some ⟨b, 0, none⟩) x.length cap := by simpa using hv
    subst hv
    have hfb : F b := (g1 b).2 (.inl rfl)
    have hbs : b < w.heap.size := hF b hfb
    have hw0 := t.width_pos
    have hlen0 : 0 < x.length := List.length_pos_iff.2 hx
    have hfit : ∀ i, i < x.length → i * t.width + t.width ≤ arr.size := fun i hi => by
      rw [hsz, ← Nat.succ_mul]; exact Nat.mul_le_mul_right _ (by omega)
    haveI : Inhabited (Fin x.length) := ⟨⟨0, hlen0⟩⟩
    have encl : ∀ i : Fin x.length, (encI t arr x.length i).length = t.width := fun i => length_cellsAt (hfit i.val i.isLt)
    have enc1 : ∀ (i : Fin x.length) (v : Value), v ∈ encI t arr x.length i → v.oneCell' = true := fun i v hv =>
      ((g4 i.val i.isLt).freeze (S' := fun _ => True) (fun _ _ => trivial) (fun _ _ => trivial)).oneCell v hv
    let d : Array (Fin x.length) := Array.ofFn fun i => i
    have hds : d.size = x.length := by simp [d]
    have hdg : ∀ j (h : j < x.length), d[j]! = ⟨j, h⟩ := fun j h => by rw [getElem!_pos d j (by omega)]; simp [d]
    have hH : HoldsK (encI t arr x.length) t.width w b 0 d := fun j hj => by
      rw [size_flatK] at hj
      rw [hds] at hj
      have hi : j / t.width < x.length := Nat.div_lt_of_lt_mul (by rw [Nat.mul_comm]; exact hj)
      have hc := Nat.mod_lt j hw0
      have hgc := cells_get (arr := arr) (o := j / t.width * t.width) (n := t.width) (l := encI t arr x.length ⟨j / t.width, hi⟩) rfl (encl _) hc
      have hdm : j / t.width * t.width + j % t.width = j := by rw [Nat.mul_comm]; exact Nat.div_add_mod j t.width
      rw [hdm] at hgc
      constructor
      · simp only [World.cell?, hb, Nat.zero_add]
        rw [get_flatK _ _ _ _ (by rw [hds]; exact hj), hdg _ hi]
        simpa using hgc
      · simp [World.frozen?, hb]
    have hpre : ∀ (m : Nat) (dk : Array (Fin x.length)) (os : Array Obj) (c : Nat), c < w.heap.size → (sortWorldK (encI t arr x.length) t.width w b 0 m dk os).heap[c]? = (putRowK (encI t arr x.length) t.width (Sort.ahead w m) b 0 dk).heap[c]? := fun m dk os c hc => by
      have : (putRowK (encI t arr x.length) t.width (Sort.ahead w m) b 0 dk).heap.size = w.heap.size := by simp only [putRowK, putRow, mapBlock, Sort.ahead, Array.size_modify]
      simp only [sortWorldK, grow]
      rw [Array.getElem?_append_left (by rw [this]; exact hc)]
    have hoth : ∀ (m : Nat) (dk : Array (Fin x.length)) (os : Array Obj) (c : Nat), c < w.heap.size → c ≠ b → (sortWorldK (encI t arr x.length) t.width w b 0 m dk os).heap[c]? = w.heap[c]? := fun m dk os c hc hne => by
      rw [hpre m dk os c hc]
      simp only [putRowK, putRow, mapBlock, Sort.ahead, Array.getElem?_modify, if_neg (Ne.symm hne)]
    have hsize : ∀ (m : Nat) (dk : Array (Fin x.length)) (os : Array Obj), w.heap.size ≤ (sortWorldK (encI t arr x.length) t.width w b 0 m dk os).heap.size := fun m dk os => by
      simp only [sortWorldK, grow, putRowK, putRow, mapBlock, Sort.ahead, Array.size_append, Array.size_modify]; omega
    have hFs : ∀ i, i < x.length → ∀ n, Fs i n → F n ∧ n ≠ b := fun i hi n hn => ⟨(g1 n).2 (.inr ⟨i, hi, hn⟩), fun e => g2 i hi (e ▸ hn)⟩
    have hfr : ∀ (m : Nat) (dk : Array (Fin x.length)) (os : Array Obj) (i : Nat) (hi : i < x.length), Own (sortWorldK (encI t arr x.length) t.width w b 0 m dk os) (butF w F) t t.lev (x.getD i t.dflt) none (kids i) (cellsAt arr (i * t.width) t.width) (Fs i) := fun m dk os i hi =>
      (g4 i hi).frame (fun c hc => ⟨hc, hoth m dk os c hc.1 fun e => hc.2 (e ▸ hfb)⟩) fun n hn => hoth m dk os n (hF n (hFs i hi n hn).1) (hFs i hi n hn).2
    have hC : CmpP P g t (encI t arr x.length) (fun i j => cf (x.getD i.val t.dflt) (x.getD j.val t.dflt)) b d.size w := fun m os dk hdk i j => by
      have hro1 : ∀ i : Fin x.length, RO (sortWorldK (encI t arr x.length) t.width w b 0 m dk os) (oldS (sortWorldK (encI t arr x.length) t.width w b 0 m dk os)) t (x.getD i.val t.dflt) (encI t arr x.length i) := fun i =>
        (hfr m dk os i.val i.isLt).freeze (fun c hc => Nat.lt_of_lt_of_le hc.1 (hsize m dk os)) fun n hn => Nat.lt_of_lt_of_le (hF n (hFs _ i.isLt n hn).1) (hsize m dk os)
      have hq : ∀ i : Fin x.length, Q (x.getD i.val t.dflt) := fun i => hQ _ (by
        rw [List.getD_eq_getElem?_getD, List.getElem?_eq_getElem i.isLt]
        exact List.getElem_mem i.isLt)
      have hA : Args (sortWorldK (encI t arr x.length) t.width w b 0 m dk os) (oldS (sortWorldK (encI t arr x.length) t.width w b 0 m dk os)) gsp.ps [⟨t, x.getD i.val t.dflt⟩, ⟨t, x.getD j.val t.dflt⟩] [pack t (encI t arr x.length i), pack t (encI t arr x.length j)] := by
        rw [hgps]
        exact .cons (hro1 i) (.cons (hro1 j) .nil)
      have hc := hg.2 _ (fun outs => outs = [⟨.int .i64, cf (x.getD i.val t.dflt) (x.getD j.val t.dflt)⟩]) (hgw _ _ _ (hq i) (hq j) rfl) _ _ hA
      refine Calls.mono hc fun e w' h => ?_
      cases e with
      | returned v =>
        obtain ⟨hgr, outs, us, G, rfl, rfl, hR⟩ := h
        refine ⟨?_, grew_world hgr⟩
        cases hR with
        | cons h1 h2 _ =>
          cases h2
          obtain ⟨_, _, cs, rfl, h3⟩ := h1
          simp only [RO] at h3
          subst h3
          rfl
      | panicked => exact h.elim
      | outgrown => exact h.elim
    have hO2 : SWO (ltOf fun i j : Fin x.length => cf (x.getD i.val t.dflt) (x.getD j.val t.dflt)) :=
      ⟨fun a => hO.irrefl (x.getD a.val t.dflt), fun a b c => hO.trans (x.getD a.val t.dflt) (x.getD b.val t.dflt) (x.getD c.val t.dflt), fun a b c => hO.ntrans (x.getD a.val t.dflt) (x.getD b.val t.dflt) (x.getD c.val t.dflt)⟩
    have hcon := hcall (Fin x.length) (encI t arr x.length) _ b cap d w encl enc1 hO2 hC hH hbs (by rw [hds]; omega)
    rw [hds] at hcon
    refine Calls.mono hcon ?_
    rintro e' w' ⟨rfl, d', n, os, hpm, hsr, rfl⟩
    obtain ⟨hs1, _, hs2⟩ := hpm
    have hs1 : d'.size = x.length := by rw [hs1, hds]
    have hperm : d'.toList.Perm d.toList := by
      have e1 : d'.extract 0 x.length = d' := ext_all hs1
      have e2 : d.extract 0 x.length = d := ext_all hds
      rw [e1, e2] at hs2
      exact hs2
    have hnd : d.toList.Nodup := by
      rw [List.nodup_iff_pairwise_ne, List.pairwise_iff_getElem]
      intro i j hi hj hij e
      simp only [d, Array.getElem_toList, Array.getElem_ofFn, Fin.mk.injEq] at e
      omega
    have hnd' : d'.toList.Nodup := hperm.nodup_iff.2 hnd
    let X : Fin x.length → t.den := fun i => x.getD i.val t.dflt
    let x' : List t.den := d'.toList.map X
    have hx' : x'.Perm x := by
      have := hperm.map X
      rwa [show d.toList.map X = x from fin_map x t.dflt] at this
    have hxl' : x'.length = x.length := hx'.length_eq
    have hdj : ∀ j, j < x.length → ∃ i : Fin x.length, d'.toList[j]? = some i ∧ d'[j]! = i ∧ x'.getD j t.dflt = x.getD i.val t.dflt := fun j hj => by
      refine ⟨d'[j]'(by omega), ?_, getElem!_pos d' j (by omega), ?_⟩
      · rw [List.getElem?_eq_getElem (by simpa using (by omega : j < d'.size))]; simp
      · rw [List.getD_eq_getElem?_getD, List.getElem?_map, List.getElem?_eq_getElem (by simpa using (by omega : j < d'.size))]
        simp [X]
    have hsorted : SortedL cf x' := fun i j hij hj => by
      rw [hxl'] at hj
      obtain ⟨a, _, ha, hxa⟩ := hdj i (by omega)
      obtain ⟨c, _, hc, hxc⟩ := hdj j hj
      have := hsr i j (Nat.zero_le _) hij hj
      rw [ha, hc] at this
      simp only [ltOf, decide_eq_false_iff_not] at this
      have ea : x'.getD i default = x'.getD i t.dflt := rfl
      have ec : x'.getD j default = x'.getD j t.dflt := rfl
      rw [ea, ec, hxa, hxc]
      omega
    let kid' : Nat → CT := fun j => match d'.toList[j]? with | some i => kids i.val | none => .nil
    let Fs' : Nat → Nat → Prop := fun j n => match d'.toList[j]? with | some i => Fs i.val n | none => False
    have hbb : (sortWorldK (encI t arr x.length) t.width w b 0 n d' os).heap[b]? = some (.cells (putCells id 0 (flatK (encI t arr x.length) t.width d') arr) e (0, 0)) := by
      rw [hpre n d' os b hbs]
      simp only [putRowK, putRow, mapBlock, Sort.ahead, Array.getElem?_modify, if_true, hb, Option.map_some, onCells]
    have hps2 : (putCells id 0 (flatK (encI t arr x.length) t.width d') arr).size = cap * t.width := by simp [putCells, hsz]
    have hown : Own (sortWorldK (encI t arr x.length) t.width w b 0 n d' os) (butF w F) (.list e t) (t.lev + 1) x' none (.node b cap kid') [.slice (some ⟨b, 0, none⟩) x.length cap] F := by
      refine .inr ⟨by simp, by rw [hxl'], by rw [hxl']; exact q2, q3, _, hbb, hps2, Fs', fun c => ?_, fun j hj hjb => ?_, fun i j c hi hj hic hjc => ?_, fun j hj => ?_⟩
      · rw [g1 c]
        refine or_congr Iff.rfl ⟨?_, ?_⟩
        · rintro ⟨i, hi, h⟩
          have hm : (⟨i, hi⟩ : Fin x.length) ∈ d'.toList := hperm.mem_iff.2 (by simp [d])
          obtain ⟨j, hj⟩ := List.getElem?_of_mem hm
          have hjl := (List.getElem?_eq_some_iff.1 hj).1
          refine ⟨j, by rw [hxl', ← hs1]; simpa using hjl, ?_⟩
          simp only [Fs', hj]
          exact h
        · rintro ⟨j, hj, h⟩
          rw [hxl'] at hj
          obtain ⟨i, hi, _, _⟩ := hdj j hj
          simp only [Fs', hi] at h
          exact ⟨i.val, i.isLt, h⟩
      · rw [hxl'] at hj
        obtain ⟨i, hi, _, _⟩ := hdj j hj
        simp only [Fs', hi] at hjb
        exact g2 _ i.isLt hjb
      · rw [hxl'] at hi hj
        obtain ⟨a, ha, _, _⟩ := hdj i hi
        obtain ⟨a2, ha2, _, _⟩ := hdj j hj
        simp only [Fs', ha] at hic
        simp only [Fs', ha2] at hjc
        have e1 := g3 _ _ c a.isLt a2.isLt hic hjc
        have e2 : a = a2 := Fin.ext e1
        subst e2
        exact (List.getElem?_inj (by simpa using (by omega : i < d'.size)) hnd').1 (ha.trans ha2.symm)
      · rw [hxl'] at hj
        obtain ⟨i, hi, hi2, hi3⟩ := hdj j hj
        rw [hsub_none, hi3]
        have hcell : cellsAt (putCells id 0 (flatK (encI t arr x.length) t.width d') arr) (j * t.width) t.width = cellsAt arr (i.val * t.width) t.width := by
          have hle : j * t.width + t.width ≤ x.length * t.width := by
            have := Nat.mul_le_mul_right t.width (show j + 1 ≤ x.length from hj)
            rwa [Nat.add_mul, Nat.one_mul] at this
          have hle2 := Nat.mul_le_mul_right t.width q2
          refine List.ext_getElem? fun c => ?_
          by_cases hcw : c < t.width
          · have hlen := encl i
            have hlen : (cellsAt arr (i.val * t.width) t.width).length = t.width := hlen
            rw [List.getElem?_eq_getElem (l := cellsAt arr (i.val * t.width) t.width) (by omega)]
            rw [show cellsAt (putCells id 0 (flatK (encI t arr x.length) t.width d') arr) (j * t.width) t.width = ((putCells id 0 (flatK (encI t arr x.length) t.width d') arr).toList.drop (j * t.width)).take t.width from rfl]
            simp only [List.getElem?_take, if_pos hcw, List.getElem?_drop, Array.getElem?_toList]
            simp only [putCells, Array.getElem?_mapIdx]
            rw [Array.getElem?_eq_getElem (by omega)]
            simp only [Option.map_some, Nat.zero_le, true_and, Nat.zero_add, size_flatK, Nat.sub_zero, id_eq]
            rw [if_pos (by rw [hs1]; omega), get_flatK _ _ _ _ (by rw [hs1]; omega)]
            have e1 : (j * t.width + c) / t.width = j := by
              rw [Nat.mul_comm, Nat.mul_add_div hw0, Nat.div_eq_of_lt hcw]; rfl
            have e2 : (j * t.width + c) % t.width = c := by
              rw [Nat.mul_comm, Nat.mul_add_mod, Nat.mod_eq_of_lt hcw]
            rw [e1, e2, hi2]
            exact congrArg some (getElem!_pos (cellsAt arr (i.val * t.width) t.width) c (by omega))
          · have l1 : (cellsAt (putCells id 0 (flatK (encI t arr x.length) t.width d') arr) (j * t.width) t.width).length = t.width := length_cellsAt (by rw [hps2]; omega)
            have l2 : (cellsAt arr (i.val * t.width) t.width).length = t.width := encl i
            rw [List.getElem?_eq_none (by omega), List.getElem?_eq_none (by omega)]
        rw [hcell]
        have hkid : kid' j = kids i.val := by simp only [kid', hi]
        have hFs2 : Fs' j = Fs i.val := by funext c; simp only [Fs', hi]
        rw [hkid, hFs2]
        exact hfr n d' os i.val i.isLt
    refine ⟨rfl, ⟨rfl, rfl, ⟨rfl, fun a _ ha => ?_, hsize n d' os, fun _ => Nat.le_add_right _ _⟩, hsize n d' os, fun m hm => hoth n d' os m hm.1 fun e => hm.2 (e ▸ hfb)⟩, x', .node b cap kid', F, hk x' hx' hsorted, fun m hm => ⟨fun h => h.2 hm, Nat.lt_of_lt_of_le (hF m hm) (hsize n d' os)⟩, own_full (t := .list e t) (show (Ty.list e t).noRo = true from hro) (Nat.le_refl _) (Nat.le_refl _) hown⟩
    have h1 : (sortWorldK (encI t arr x.length) t.width w b 0 n d' os).frozen? a = (putRowK (encI t arr x.length) t.width (Sort.ahead w n) b 0 d').frozen? a := by
      unfold World.frozen?
      rw [hpre n d' os a.block ha]
    rw [h1]
    exact (frozen?_putRow id _ b 0 _ a).trans rfl

end Fer
