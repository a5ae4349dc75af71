/- State-level: what is to be written to is made an owned root; appending. Over any program. -/
import Derived.Test.YtbahdhedegpbbaaFerLa
namespace Fer
open Go

def XS.also (s : XS) (r q : Nat) : XS := { s with pins := pinAlso r q s.pins }

def RT.sub (rt : RT) (p : List Nat) (el : EL) : RT := ⟨el.e, el.t, dep p rt.ty (rt.k + 1) - 1, el.l, none⟩

def own1 (s : XS) (e : Nat) (t : Ty) (x : AV) : Option (Prop × XS × Nat) :=
  match x with
  | .dat .raw v => match v with
    | .slice none 0 0 => some (True, s.addRoot (nilRT e t), s.nxt)
    | _ => none
  | .ref q [] => match s.root q with
    | some rt => if rt.e = e ∧ rt.t = t ∧ rt.h = none then some (True, s, q) else none
    | none => none
  | .ref q (i :: p) => match s.root q with
    | some rt => match elAt rt (i :: p) with
      | some el => if rt.h = none ∧ el.e = e ∧ el.t = t then
          some (okNode rt (i :: p), ((s.also q s.nxt).setRoot q (rt.cut (i :: p))).addRoot (rt.sub (i :: p) el), s.nxt) else none
      | none => none
    | none => none
  | _ => none

def tchOf : AV → List Nat
  | .ref q _ => [q] | .sub q _ _ _ => [q] | .ptr q _ => [q]
  | _ => []

section
variable {P : Program} {tt : List (Nat × TE)} {w0 : World} {S0 : Nat → Prop} {N : Nat} {dr : Bool} {pc : Pins} {s : XS} {a : Act} {w w' : World} {S : Nat → Prop} {pl : Nat → PL}

theorem RelAt.also (R : RelAt w0 S0 N dr pc s a w S pl) (r q : Nat) : RelAt w0 S0 N dr pc (s.also r q) a w S pl := R.pinned fun _ h => mem_pinAlso h

theorem own1_env {e : Nat} {t : Ty} {x : AV} {q : Prop} {s1 : XS} {r : Nat} (h : own1 s e t x = some (q, s1, r)) : s1.env = s.env := by
  unfold own1 at h
  split at h
  · split at h
    · cases h; rfl
    · cases h
  · split at h
    · split at h
      · cases h; rfl
      · cases h
    · cases h
  · split at h
    · split at h
      · split at h
        · cases h; rfl
        · cases h
      · cases h
    · cases h
  · cases h

theorem own1_ok (R : RelAt w0 S0 N dr pc s a w S pl) {e : Nat} {t : Ty} {x : AV} {v : Value} (hx : AVR w S s.rts pl x v) {q : Prop} {s1 : XS} {r : Nat} (h : own1 s e t x = some (q, s1, r)) (hq : q) :
    ∃ pl1 rt, RelAt w0 S0 N dr pc s1 a w S pl1 ∧ s1.root r = some rt ∧ rt.e = e ∧ rt.t = t ∧ rt.h = none ∧ Own w S rt.ty (rt.k + 1) rt.x none (pl1 r).ct [v] (pl1 r).F ∧
      ∀ n, (pl1 r).F n → ∃ r' rt', r' ∈ tchOf x ∧ s.root r' = some rt' ∧ (pl r').F n := by
  unfold own1 at h
  split at h
  · rename_i v'
    split at h
    · simp only [Option.some.injEq, Prod.mk.injEq] at h
      obtain ⟨_, rfl, rfl⟩ := h
      obtain ⟨rfl, _⟩ := AVR.raw hx
      refine ⟨_, nilRT e t, R.nilRoot e t, by simp [XS.root, XS.addRoot, lk], rfl, rfl, rfl, ?_, ?_⟩
      · simp only [if_true]; exact own_nil
      · simp only [if_true]; exact fun n h => h.elim
    · cases h
  · rename_i q'
    cases hr : s.root q' with
    | none => rw [hr] at h; cases h
    | some rt =>
      rw [hr] at h
      simp only at h
      split at h
      · rename_i hc
        simp only [Option.some.injEq, Prod.mk.injEq] at h
        obtain ⟨_, rfl, rfl⟩ := h
        obtain ⟨hv, H⟩ := R.own _ rt hr
        rw [hc.2.2] at H
        have hvv : v = hv := by
          have h1 : v = hdr (atCT [] rt.ty (pl q').ct) (rt.at []).len := hx rt hr
          rw [h1]; exact (H.hdr (by simp)).1.symm
        subst hvv
        exact ⟨pl, rt, R, hr, hc.1, hc.2.1, hc.2.2, H, fun n hn => ⟨q', rt, by simp [tchOf], hr, hn⟩⟩
      · cases h
  · rename_i q' i p
    cases hr : s.root q' with
    | none => rw [hr] at h; cases h
    | some rt =>
      rw [hr] at h
      simp only at h
      cases hel : elAt rt (i :: p) with
      | none => rw [hel] at h; cases h
      | some el =>
        rw [hel] at h
        simp only at h
        split at h
        · rename_i hc
          simp only [Option.some.injEq, Prod.mk.injEq] at h
          obtain ⟨rfl, rfl, rfl⟩ := h
          have hat := elAt_eq hel
          have hr' : (s.also q' s.nxt).root q' = some rt := hr
          obtain ⟨b, o, cs, F', pl1, e1, e2, e3, R1, hct, _, hF⟩ := (R.also q' s.nxt).punch hr' hc.1 hq.1
          obtain ⟨k, hk⟩ : ∃ k, dep (i :: p) rt.ty (rt.k + 1) = k + 1 := ⟨_, (Nat.succ_pred_eq_of_pos hq.2).symm⟩
          rw [hat] at e3
          obtain ⟨v', rfl, _⟩ := pack_one (t := .list el.e el.t) rfl e3.length
          have hv' : v' = v := by
            have h1 : v = hdr (atCT (i :: p) rt.ty (pl q').ct) (rt.at (i :: p)).len := hx rt hr
            rw [h1, hat]
            rw [hk] at e3
            exact (e3.hdr (by simp)).1
          subst hv'
          have hlt : q' < s.nxt := R.ids q' rt hr
          have hsub : Own w S (rt.sub (i :: p) el).ty ((rt.sub (i :: p) el).k + 1) (rt.sub (i :: p) el).x none (atCT (i :: p) rt.ty (pl q').ct) [v'] F' := by
            have : (rt.sub (i :: p) el).k + 1 = dep (i :: p) rt.ty (rt.k + 1) := by simp only [RT.sub]; omega
            rw [this]; exact e3
          have R2 := R1.addRoot (Grew.refl w) (rt := rt.sub (i :: p) el) (ct := atCT (i :: p) rt.ty (pl q').ct) (F := F') (hv := v') hsub (fun n hn => ⟨(hF n hn).2.1, .inr ⟨(hF n hn).2.2.1, (hF n hn).2.2.2.1, fun hd j hj => ?_⟩⟩)
          · refine ⟨_, rt.sub (i :: p) el, R2, by simp [XS.root, XS.addRoot, XS.setRoot, XS.also, lk], hc.2.1, hc.2.2, rfl, ?_, ?_⟩
            · have : (s.also q' s.nxt).nxt = s.nxt := rfl
              simp only [XS.setRoot, XS.also, if_true]; exact hsub
            · simp only [XS.setRoot, XS.also, if_true]
              intro n hn
              exact ⟨q', rt, by simp [tchOf], hr, (hF n hn).1⟩
          · obtain ⟨q1, h1, _, h3⟩ := R.pins hd j n hj
            have := h3 q' rt hr (hF n hn).1
            subst this
            exact mem_pinAlso_new h1
        · cases h
  · cases h

/-! ### Appending -/

structure MF where
  pre : Prop
  fact : Prop
  av : AV
  st : XS
  tch : List Nat

/-- What an operation that turns memory comes to. -/
def MFok (w0 : World) (S0 : Nat → Prop) (N : Nat) (dr : Bool) (pc : Pins) (s : XS) (a : Act) (w : World) (pl : Nat → PL) (mf : MF) (run : Result Value) : Prop :=
  ∃ v w' S' pl', run = .ok v w' ∧ RelAt w0 S0 N dr pc mf.st a w' S' pl' ∧ AVR w' S' mf.st.rts pl' mf.av v ∧ mf.av.lt mf.st.nxt ∧ mf.fact ∧
    ∀ n, n < w.heap.size → (∀ r rt, r ∈ mf.tch → s.root r = some rt → ¬ (pl r).F n) → w'.heap[n]? = w.heap[n]?

/-- The state behind an append to root r: it is gone, the new one is there. -/
def XS.redo (s : XS) (r : Nat) (rt : RT) : XS := ((s.also r s.nxt).kill r).addRoot rt

/-- Root r's memory turns into a new root's. -/
theorem RelAt.redo (R : RelAt w0 S0 N dr pc s a w S pl) {r : Nat} {rt rt' : RT} (hr : s.root r = some rt) {ct' : CT} {v' : Value} {F' : Nat → Prop}
    (H : Own w' S rt'.ty (rt'.k + 1) rt'.x rt'.h ct' [v'] F') (hF : ∀ n, F' n → ((pl r).F n) ∨ (w.heap.size ≤ n ∧ n < w'.heap.size))
    (hos : w'.os = w.os) (htape : w'.tape = w.tape) (hout : SameOut w w') (hsz : w.heap.size ≤ w'.heap.size) (hold : ∀ n, n < w.heap.size → ¬ (pl r).F n → w'.heap[n]? = w.heap[n]?) :
    RelAt w0 S0 N dr pc (s.redo r rt') a w' S (fun q => if q = s.nxt then ⟨ct', F'⟩ else pl q) := by
  have R1 := ((R.also r s.nxt).kill r)
  have hk : ∀ r2 rt2, ((s.also r s.nxt).kill r).root r2 = some rt2 → r2 ≠ r ∧ s.root r2 = some rt2 := fun r2 rt2 h => lk_rm_some h
  have R2 := R1.moved hos htape hout hsz (fun n hn h => hold n hn fun hF' => by
    rcases h with h | ⟨r2, rt2, h2, h3⟩
    · exact (R.Flt r rt n hr hF').2 h
    · exact (hk r2 rt2 h2).1 (R.disj r2 r rt2 rt n (hk r2 rt2 h2).2 hr h3 hF'))
  exact R2.addRoot (Grew.refl w') (rt := rt') H fun n hn => by
    rcases hF n hn with h | h
    · refine ⟨Nat.lt_of_lt_of_le (R.Flt r rt n hr h).1 hsz, .inr ⟨(R.Flt r rt n hr h).2, fun r2 rt2 h2 h3 => (hk r2 rt2 h2).1 (R.disj r2 r rt2 rt n (hk r2 rt2 h2).2 hr h3 h), fun hd j hj => ?_⟩⟩
      obtain ⟨q1, h1, _, h3⟩ := R.pins hd j n hj
      have := h3 r rt hr h
      subst this
      exact mem_pinAlso_new h1
    · refine ⟨h.2, ?_⟩
      by_cases hlt : n < w'.heap.size
      · refine .inr ⟨fun hS => by have := R.lt n hS; omega, fun r2 rt2 h2 h3 => by have := (R.Flt r2 rt2 n (hk r2 rt2 h2).2 h3).1; omega, fun hd j hj => ?_⟩
        obtain ⟨q1, h1, h2, h3⟩ := R.pins hd j n hj
        omega
      · exact absurd h.2 hlt

/-- The state behind an append of root q's rows to root r: both are gone, the new one is there. -/
def XS.redo2 (s : XS) (r q : Nat) (rt : RT) : XS := ((((s.also r s.nxt).also q s.nxt).kill r).kill q).addRoot rt

/-- Two roots' memory turns into a new root's. -/
theorem RelAt.redo2 (R : RelAt w0 S0 N dr pc s a w S pl) {r q : Nat} {rt qt rt' : RT} (hr : s.root r = some rt) (hq : s.root q = some qt) {ct' : CT} {v' : Value} {F' : Nat → Prop}
    (H : Own w' S rt'.ty (rt'.k + 1) rt'.x rt'.h ct' [v'] F') (hF : ∀ n, F' n → ((pl r).F n ∨ (pl q).F n) ∨ (w.heap.size ≤ n ∧ n < w'.heap.size))
    (hos : w'.os = w.os) (htape : w'.tape = w.tape) (hout : SameOut w w') (hsz : w.heap.size ≤ w'.heap.size) (hold : ∀ n, n < w.heap.size → ¬ (pl r).F n → w'.heap[n]? = w.heap[n]?) :
    RelAt w0 S0 N dr pc (s.redo2 r q rt') a w' S (fun p => if p = s.nxt then ⟨ct', F'⟩ else pl p) := by
  have R1 := (((R.also r s.nxt).also q s.nxt).kill r).kill q
  have hk : ∀ r2 rt2, ((((s.also r s.nxt).also q s.nxt).kill r).kill q).root r2 = some rt2 → r2 ≠ r ∧ r2 ≠ q ∧ s.root r2 = some rt2 := fun r2 rt2 h => by
    obtain ⟨h1, h2⟩ := lk_rm_some h
    obtain ⟨h3, h4⟩ := lk_rm_some h2
    exact ⟨h3, h1, h4⟩
  have R2 := R1.moved hos htape hout hsz (fun n hn h => hold n hn fun hF' => by
    rcases h with h | ⟨r2, rt2, h2, h3⟩
    · exact (R.Flt r rt n hr hF').2 h
    · exact (hk r2 rt2 h2).1 (R.disj r2 r rt2 rt n (hk r2 rt2 h2).2.2 hr h3 hF'))
  exact R2.addRoot (Grew.refl w') (rt := rt') H fun n hn => by
    rcases hF n hn with h | h
    · have hlt : n < w.heap.size ∧ ¬ S n := h.elim (fun h => R.Flt r rt n hr h) fun h => R.Flt q qt n hq h
      refine ⟨Nat.lt_of_lt_of_le hlt.1 hsz, .inr ⟨hlt.2, fun r2 rt2 h2 h3 => ?_, fun hd j hj => ?_⟩⟩
      · obtain ⟨g1, g2, g3⟩ := hk r2 rt2 h2
        rcases h with h | h
        · exact g1 (R.disj r2 r rt2 rt n g3 hr h3 h)
        · exact g2 (R.disj r2 q rt2 qt n g3 hq h3 h)
      · obtain ⟨q1, h1, _, h3⟩ := R.pins hd j n hj
        rcases h with h | h
        · have := h3 r rt hr h
          subst this
          exact mem_pinAlso (mem_pinAlso_new h1)
        · have := h3 q qt hq h
          subst this
          exact mem_pinAlso_new (mem_pinAlso h1)
    · refine ⟨h.2, ?_⟩
      by_cases hlt : n < w'.heap.size
      · refine .inr ⟨fun hS => by have := R.lt n hS; omega, fun r2 rt2 h2 h3 => by have := (R.Flt r2 rt2 n (hk r2 rt2 h2).2.2 h3).1; omega, fun hd j hj => ?_⟩
        obtain ⟨q1, h1, h2, h3⟩ := R.pins hd j n hj
        omega
      · exact absurd h.2 hlt

/-- Base and source of an append of elements that stand: the state behind, and what is asked. -/
def appAV (tt : List (Nat × TE)) (s : XS) (T : Nat) (x y : Option AV) : Option MF :=
  match lk tt T, x with
  | some (.slice e t b), some x => match own1 s e t x with
    | some (p1, s1, r) => match s1.root r, y with
      | some rt, some y => match srcAV s1 y with
        | some (p2, el) => match castL rt.t t rt.x, castL el.t t el.l with
          | some l, some m =>
            if t.flat = true ∨ rt.k = 0 ∨ l = [] then
              some ⟨p1 ∧ p2 ∧ (l.length + m.length) * b ≤ 140737488355328 ∧ l.length + m.length ≤ 9223372036854775807, True, .ref s1.nxt [], s1.redo r ⟨e, t, if t.flat = true then rt.k else 0, l ++ m, none⟩, tchOf x⟩
            else none
          | _, _ => none
        | none => match y with
          | .ref q [] => match s1.root q with
            | some qt => if qt.e = e ∧ qt.h = none ∧ qt.k = rt.k ∧ q ≠ r then match castL rt.t t rt.x, castL qt.t t qt.x with
              | some l, some m => some ⟨p1 ∧ (l.length + m.length) * b ≤ 140737488355328 ∧ l.length + m.length ≤ 9223372036854775807, True, .ref s1.nxt [], s1.redo2 r q ⟨e, t, rt.k, l ++ m, none⟩, tchOf x⟩
              | _, _ => none
              else none
            | none => none
          | _ => none
      | _, _ => none
    | none => none
  | _, _ => none

theorem appAV_ok (htt : ttB P tt = true) (R : RelAt w0 S0 N dr pc s a w S pl) {T ty : Nat} {x y : Option AV} {vx vy : Value} {mf : MF} (hx : ∀ u, x = some u → AVR w S s.rts pl u vx)
    (hy : ∀ u s1 pl1, y = some u → s1.env = s.env → RelAt w0 S0 N dr pc s1 a w S pl1 → AVR w S s1.rts pl1 u vy) (h : appAV tt s T x y = some mf) (hpre : mf.pre) :
    MFok w0 S0 N dr pc s a w pl mf ((Builtin.append_ #[T, T] ty #[vx, vy]).run P w) := by
  unfold appAV at h
  split at h
  · rename_i e t b x' hte
    have hx := hx x' rfl
    split at h
    · rename_i p1 s1 r hown
      split at h
      · rename_i rt y' hr
        split at h
        · rename_i p2 el hsrc
          split at h
          · rename_i l m hl hm
            split at h
            · rename_i hk
              cases h
              obtain ⟨hp1, hp2, hb, hlen⟩ := hpre
              obtain ⟨pl1, rt1, R1, hr1, he, ht, hh, H, htch⟩ := own1_ok R hx hown hp1
              rw [hr] at hr1
              cases hr1
              obtain ⟨e0, t0, k0, x0, h0⟩ := rt
              simp only at he ht hh hl hk H
              subst he ht hh
              simp only [castL_self, Option.some.injEq] at hl
              subst hl
              obtain ⟨el_e, el_t, el_l⟩ := el
              simp only at hm
              obtain ⟨rfl, rfl⟩ := castL_eq hm
              have hy := hy y' s1 pl1 rfl (own1_env hown) R1
              have hsr := srcAV_ok R1 hy hsrc hp2
              obtain ⟨hT, hinf, ⟨inf, hi, hsz, hby⟩, _, _⟩ := slice_te (ttB_get htt hte)
              obtain ⟨inf', z, hi', hsz', hz, hzl, _⟩ := hinf.info
              rw [hi] at hi'; cases hi'
              have H' : Own w S (.list e0 el_t) ((if el_t.flat = true then k0 else 0) + 1) x0 none (pl1 r).ct [vx] (pl1 r).F := by
                rcases hk with hk | hk | hk
                · rw [if_pos hk]; exact H
                · subst hk; split <;> exact H
                · subst hk; exact own_relabel _ H
              obtain ⟨ad, c, rfl, had, hml, hnews⟩ := hsr
              have touch : ∀ n, n < w.heap.size → (∀ r' rt', r' ∈ tchOf x' → s.root r' = some rt' → ¬ (pl r').F n) → ¬ (pl1 r).F n := by
                intro n hn h hF
                obtain ⟨r', rt', q1, q2, q3⟩ := htch n hF
                exact h r' rt' q1 q2 q3
              cases ad with
              | none =>
                have hm0 := had rfl
                simp only at hm0
                subst hm0
                obtain ⟨xs, hrow⟩ := own_rowOf H
                refine ⟨_, w, S, _, run_append_none hT hi hrow, R1.redo hr (rt' := ⟨e0, el_t, if el_t.flat = true then k0 else 0, x0 ++ [], none⟩) (ct' := (pl1 r).ct) (v' := vx) (F' := (pl1 r).F) ?_ (fun n hn => .inl hn) rfl rfl (SameOut.refl w) (Nat.le_refl _) (fun _ _ _ => rfl), ?_, ?_, trivial, fun _ _ _ => rfl⟩
                · simp only [List.append_nil]; exact H'
                · intro rt2 hrt2
                  have : rt2 = ⟨e0, el_t, if el_t.flat = true then k0 else 0, x0 ++ [], none⟩ := by
                    simp only [XS.redo, XS.addRoot, XS.kill, XS.also, lk, if_true, Option.some.injEq] at hrt2; exact hrt2.symm
                  subst this
                  simp only [if_true]
                  have := (H'.hdr (by simp)).1
                  rw [this]
                  simp [RT.at, TV.len, RT.ty, atCT]
                · exact AV.lt_ref (Nat.lt_succ_self _)
              | some ad =>
                obtain ⟨news, hnl, hnc, hnr⟩ := hnews ad rfl
                simp only at hnl hnr hml
                have hst : el_t.flat = true ∨ (if el_t.flat = true then k0 else 0) = 0 := by
                  by_cases hf : el_t.flat = true
                  · exact .inl hf
                  · rw [if_neg hf]; exact .inr rfl
                obtain ⟨v', w', ct', F', hrun, HO, hF', hos, htape, hout, hsize, hold⟩ := own_append (P := P) (ty := ty) H' hT hi hz hsz hby hzl ad c news (y := m) (kids2 := fun _ => CT.of el_t) (F2 := fun _ => noF) hnl hnc
                  (fun i hi => (hnr i hi).own hst) (fun _ _ _ _ _ h => h.elim) (fun _ _ _ h => h.elim) (fun n hn => (R1.Flt r _ n hr hn).1) (fun n hn => ⟨R1.lt n hn, fun h => (R1.Flt r _ n hr h).2 hn⟩)
                  (src_one hnl hnr) hb hlen
                have hF'' : ∀ n, F' n → ((pl1 r).F n) ∨ (w.heap.size ≤ n ∧ n < w'.heap.size) := fun n hn => by
                  rcases hF' n hn with (h | ⟨i, _, h⟩) | h
                  · exact .inl h
                  · exact h.elim
                  · exact .inr h
                refine ⟨v', w', S, _, hrun, R1.redo hr (rt' := ⟨e0, el_t, if el_t.flat = true then k0 else 0, x0 ++ m, none⟩) HO hF'' hos htape hout hsize hold, ?_, ?_, trivial, fun n hn h => hold n hn (touch n hn h)⟩
                · intro rt2 hrt2
                  have : rt2 = ⟨e0, el_t, if el_t.flat = true then k0 else 0, x0 ++ m, none⟩ := by
                    simp only [XS.redo, XS.addRoot, XS.kill, XS.also, lk, if_true, Option.some.injEq] at hrt2; exact hrt2.symm
                  subst this
                  simp only [if_true]
                  have := (HO.hdr (by simp)).1
                  rw [this]
                  simp [RT.at, TV.len, RT.ty, atCT]
                · exact AV.lt_ref (Nat.lt_succ_self _)
            · cases h
          · cases h
        · split at h
          · rename_i q hsn
            cases hq : s1.root q with
            | none => rw [hq] at h; cases h
            | some qt =>
              rw [hq] at h
              simp only at h
              split at h
              · rename_i hc
                split at h
                · rename_i l m hl hm
                  cases h
                  obtain ⟨hp1, hb, hlen⟩ := hpre
                  obtain ⟨pl1, rt1, R1, hr1, he, ht, hh, H, htch⟩ := own1_ok R hx hown hp1
                  rw [hr] at hr1
                  cases hr1
                  obtain ⟨e0, t0, k0, x0, h0⟩ := rt
                  obtain ⟨e2, t2, k2, x2, h2⟩ := qt
                  simp only at he ht hh hl H hc
                  obtain ⟨hc1, hc2, hc3, hc4⟩ := hc
                  subst he ht hh hc1 hc2 hc3
                  simp only [castL_self, Option.some.injEq] at hl
                  subst hl
                  simp only at hm
                  obtain ⟨rfl, rfl⟩ := castL_eq hm
                  have hy := hy _ s1 pl1 rfl (own1_env hown) R1
                  obtain ⟨hv, H2⟩ := R1.own _ _ hq
                  have hvv : vy = hv := by
                    have h1 : vy = hdr (atCT [] (RT.ty ⟨e2, t2, k2, m, none⟩) (pl1 q).ct) (RT.at ⟨e2, t2, k2, m, none⟩ []).len := hy _ hq
                    rw [h1]; exact (H2.hdr (by simp)).1.symm
                  subst hvv
                  obtain ⟨hT, hinf, ⟨inf, hi, hsz, hby⟩, _, _⟩ := slice_te (ttB_get htt hte)
                  obtain ⟨inf', z, hi', hsz', hz, hzl, _⟩ := hinf.info
                  rw [hi] at hi'; cases hi'
                  have touch : ∀ n, n < w.heap.size → (∀ r' rt', r' ∈ tchOf x' → s.root r' = some rt' → ¬ (pl r').F n) → ¬ (pl1 r).F n := by
                    intro n hn h hF
                    obtain ⟨r', rt', q1, q2, q3⟩ := htch n hF
                    exact h r' rt' q1 q2 q3
                  obtain ⟨v', w', ct', F', hrun, HO, hF', hos, htape, hout, hsize, hold⟩ := own_cat (P := P) (ty := ty) H H2 hT hi hz hsz hby hzl
                    (fun n h1 h2 => hc4 (R1.disj _ _ _ _ n hq hr h1 h2)) (fun n hn => (R1.Flt r _ n hr hn).1) (fun n hn => (R1.Flt q _ n hq hn).1) (fun n hn => ⟨R1.lt n hn, fun h => (R1.Flt r _ n hr h).2 hn⟩) hb hlen
                  refine ⟨v', w', S, _, hrun, R1.redo2 hr hq (rt' := ⟨e2, t2, k2, x0 ++ m, none⟩) HO hF' hos htape hout hsize hold, ?_, ?_, trivial, fun n hn h => hold n hn (touch n hn h)⟩
                  · intro rt2 hrt2
                    have : rt2 = ⟨e2, t2, k2, x0 ++ m, none⟩ := by
                      simp only [XS.redo2, XS.addRoot, XS.kill, XS.also, lk, if_true, Option.some.injEq] at hrt2; exact hrt2.symm
                    subst this
                    simp only [if_true]
                    have := (HO.hdr (by simp)).1
                    rw [this]
                    simp [RT.at, TV.len, RT.ty, atCT]
                  · exact AV.lt_ref (Nat.lt_succ_self _)
                · cases h
              · cases h
          · cases h
      · cases h
    · cases h
  · cases h

end
end Fer
