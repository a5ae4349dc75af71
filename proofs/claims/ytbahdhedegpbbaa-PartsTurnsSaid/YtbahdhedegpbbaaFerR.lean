/- The abstract machine is sound: one operation, a region; contracts. Over any program. -/
import Derived.Test.YtbahdhedegpbbaaFerQ
namespace Fer
open Go

def noS : Nat → Prop := fun _ => False
def oldS (w : World) : Nat → Prop := fun b => b < w.heap.size

/-- Arguments, as values that are data in memory that stands. -/
inductive Args (w : World) (S : Nat → Prop) : List Ty → List TV → List Value → Prop
  | nil : Args w S [] [] []
  | cons {t ts v vs u us} (h : RO w S t v u) (hl : Args w S ts vs us) : Args w S (t :: ts) (⟨t, v⟩ :: vs) (pack t u :: us)

/-- A result: lists in new blocks, that nobody else has. -/
def Ret1 (T : Nat → Prop) (w' : World) (v : TV) (u : Value) (F : Nat → Prop) : Prop :=
  (∀ n, F n → ¬ T n ∧ n < w'.heap.size) ∧
  match v with
  | ⟨.list e t, l⟩ => ∃ ct, Own w' noS (.list e t) (t.lev + 1) l none ct [u] F
  | ⟨t, x⟩ => (∀ n, ¬ F n) ∧ ∃ cs, u = pack t cs ∧ RO w' noS t x cs

inductive Rets (T : Nat → Prop) (w' : World) : List TV → List Value → (Nat → Prop) → Prop
  | nil : Rets T w' [] [] noF
  | cons {v vs u us F G} (h : Ret1 T w' v u F) (hl : Rets T w' vs us G) (hd : ∀ n, F n → ¬ G n) : Rets T w' (v :: vs) (u :: us) (fun n => F n ∨ G n)

def valOf : List Value → Value
  | [v] => v
  | l => .tuple l.toArray

/-- A function keeps its contract. -/
def FnOK (P : Program) (f : Nat) (sp : Spec) : Prop :=
  (∃ fn, P.funcs[f]? = some fn ∧ (fn.name == "runtime.NumGoroutine") = false ∧ fn.body.isNone = false) ∧
  ∀ (args : List TV) (K : List TV → Prop), sp.wp args K → ∀ (w : World) (vs : List Value), Args w (oldS w) sp.ps args vs →
    Calls P f vs.toArray w fun e w' => match e with
      | .returned v => Grew w w' ∧ ∃ outs us F, K outs ∧ v = valOf us ∧ Rets (oldS w) w' outs us F
      | _ => False

/-- All blocks but those that are given away. -/
def butF (w : World) (F : Nat → Prop) : Nat → Prop := fun n => n < w.heap.size ∧ ¬ F n

structure Turned (T : Nat → Prop) (w w' : World) : Prop where
  os : w'.os = w.os
  tape : w'.tape = w.tape
  output : SameOut w w'
  size : w.heap.size ≤ w'.heap.size
  old : ∀ n, T n → w'.heap[n]? = w.heap[n]?

/-- A function to which its first argument, a list, is given away keeps its contract. -/
def FnMv (P : Program) (f : Nat) (sp : Spec) : Prop :=
  (∃ fn, P.funcs[f]? = some fn ∧ (fn.name == "runtime.NumGoroutine") = false ∧ fn.body.isNone = false) ∧
  ∀ (e : Nat) (t : Ty) (ts : List Ty) (x : List t.den) (args : List TV) (K : List TV → Prop), sp.ps = .list e t :: ts → sp.wp (⟨.list e t, x⟩ :: args) K → ∀ (w : World) (v0 : Value) (vs : List Value) (ct : CT) (F : Nat → Prop),
    Own w (butF w F) (.list e t) (t.lev + 1) x none ct [v0] F → (∀ n, F n → n < w.heap.size) → Args w (butF w F) ts args vs →
    Calls P f (v0 :: vs).toArray w fun e w' => match e with
      | .returned v => Turned (butF w F) w w' ∧ ∃ outs us G, K outs ∧ v = valOf us ∧ Rets (butF w F) w' outs us G
      | _ => False

def CtxOK (P : Program) (C : Ctx) : Prop := ttB P C.tt = true ∧ (∀ f sp, C.fn f = some sp → FnOK P f sp) ∧ ∀ f sp, C.mv f = some sp → FnMv P f sp

section
variable {P : Program} {C : Ctx} {w0 : World} {S0 : Nat → Prop} {N : Nat} {dr : Bool} {pc : Pins} {s : XS} {a : Act} {w w' : World} {S : Nat → Prop} {pl : Nat → PL}

theorem nilAt_some {tt : List (Nat × TE)} {o : Oper} {e : Nat} {t : Ty} (h : nilAt tt o = some (e, t)) : o.op = .assign (.const (.slice none 0 0)) ∨ o.op = .move (.const (.slice none 0 0)) := by
  unfold nilAt at h
  split at h
  · rename_i ho; exact .inl ho
  · rename_i ho; exact .inr ho
  · cases h

theorem kept_of (R : RelAt w0 S0 N dr pc s a w S pl) {o : Oper} {l : List Nat} (ht : tchOK dr s o l = true) (hold : ∀ n, n < w.heap.size → (∀ r rt, r ∈ l → s.root r = some rt → ¬ (pl r).F n) → w'.heap[n]? = w.heap[n]?) :
    dr = true → kept o pc w w' := by
  intro hd i b hp hw
  obtain ⟨q, h1, h2, h3⟩ := R.pins hd i b hp
  refine hold b h2 fun r rt hr hrt hF => ?_
  have e := h3 r rt hrt hF
  subst e
  simp only [tchOK, hd, Bool.not_true, Bool.false_or, List.all_eq_true] at ht
  have := ht _ h1
  simp only [Bool.or_eq_true, Bool.not_eq_true', List.contains_eq_mem, decide_eq_false_iff_not] at this
  rcases this with h | h
  · exact h hr
  · rw [hw] at h; cases h

/-- From an operation that turned memory. -/
theorem Out.mem (R : RelAt w0 S0 N dr pc s a w S pl) {o : Oper} {i : Nat} {K : XS → Prop} {mf : MF} {run : Result Value} (h0 : okind o.op ≠ 0) (h1 : okind o.op ≠ 1) (hd : ∀ t, o.dst = some t → t < N)
    (hrun : ∀ v w', run = .ok v w' → (execOp a.eval o).run P w = .ok (.value v) w' ∨ ((execOp a.eval o).run P w = .ok .skip w' ∧ v = undef))
    (ht : tchOK dr s o mf.tch = true) (hm : MFok w0 S0 N dr pc s a w pl mf run) (hK : mf.fact → K (mf.st.put o.dst mf.av)) :
    Out P dr o i pc a w (fun pc' a' w' => ∃ s', K s' ∧ Rel w0 S0 N dr pc' s' a' w') := by
  obtain ⟨v, w', S', pl', e1, R', e2, e3, e4, e5⟩ := hm
  have hk := kept_of R ht e5
  have fin : ∃ s', K s' ∧ Rel w0 S0 N dr pc s' (a.put o.dst v) w' := ⟨_, hK e4, S', pl', R'.put hd e2 e3⟩
  have : o.wp P a w (fun a' w' => (dr = true → kept o pc w w') ∧ ∃ s', K s' ∧ Rel w0 S0 N dr pc s' a' w') noQ := by
    unfold Oper.wp
    rcases hrun v w' e1 with h | ⟨h, rfl⟩
    · rw [h]; exact ⟨hk, fin⟩
    · rw [h]; exact ⟨hk, fin⟩
  unfold Out
  split
  · rename_i e; exact absurd e h0
  · rename_i e; exact absurd e h1
  · exact this

theorem exec_unit {o : Oper} {ρ : Operand → Value} {x : Sem Unit} (ho : execOp ρ o = (do x; pure .skip)) {v : Value} {w' : World} (h : (match x.run P w with | .ok _ w' => .ok undef w' | .halt e w' => .halt e w') = Result.ok v w') :
    (execOp ρ o).run P w = .ok .skip w' ∧ v = undef := by
  rw [ho]
  cases hx : x.run P w with
  | ok u w1 =>
    rw [hx] at h
    simp only [Result.ok.injEq] at h
    obtain ⟨rfl, rfl⟩ := h
    simp [hx]
  | halt e w1 => rw [hx] at h; cases h

theorem exec_val {o : Oper} {ρ : Operand → Value} {x : Sem Value} (ho : execOp ρ o = (do pure (.value (← x)))) {v : Value} {w' : World} (h : x.run P w = .ok v w') : (execOp ρ o).run P w = .ok (.value v) w' := by
  rw [ho]; simp [h]

theorem xmem_ok (htt : ttB P C.tt = true) (R : RelAt w0 S0 N dr pc s a w S pl) {o : Oper} {i : Nat} {K : XS → Prop} {mf : MF} (hd : ∀ t, o.dst = some t → t < N) (h : xmem C.tt s o = some mf) (hpre : mf.pre)
    (ht : tchOK dr s o mf.tch = true) (hK : mf.fact → K (mf.st.put o.dst mf.av)) : Out P dr o i pc a w (fun pc' a' w' => ∃ s', K s' ∧ Rel w0 S0 N dr pc' s' a' w') := by
  obtain ⟨dst, op, type, pos, after, guard⟩ := o
  cases op <;> simp only [xmem] at h <;> try cases h
  case alloc T =>
    exact Out.mem R (by simp [okind]) (by simp [okind]) hd (fun v w' h => .inl (exec_val rfl h)) ht (alAV_ok htt R h) hK
  case store T x y =>
    exact Out.mem R (by simp [okind]) (by simp [okind]) hd (fun v w' h => .inr (exec_unit rfl h)) ht (stAV_ok htt R (fun u hu => (R.ev hu).1) (fun u hu => (R.ev hu).1) h hpre) hK
  case makeSlice T l c =>
    exact Out.mem R (by simp [okind]) (by simp [okind]) hd (fun v w' h => .inl (exec_val rfl h)) ht (mkAV_ok htt R (fun u hu => (R.ev hu).1) (fun u hu => (R.ev hu).1) h hpre) hK
  case buildSlice T len parts =>
    exact Out.mem R (by simp [okind]) (by simp [okind]) hd (fun v w' h => .inl (exec_val rfl h)) ht (bsAV_ok htt R h) hK
  case call c =>
    obtain ⟨callee, args, argTypes⟩ := c
    split at h
    · rename_i _ _ _ x y T T' h1 h2 h3
      simp only at h1 h2 h3
      subst h1
      split at h
      · rename_i e
        subst e
        have ha : args = #[x, y] := by rw [← Array.toArray_toList (xs := args), h2]
        have hat : argTypes = #[T, T] := by rw [← Array.toArray_toList (xs := argTypes), h3]
        subst ha hat
        refine Out.mem R (by simp [okind]) (by simp [okind]) hd (fun v w' h => .inl ?_) ht (appAV_ok (ty := type) htt R (vx := a.eval x) (vy := a.eval y) (fun u hu => (R.ev hu).1) (fun u s1 pl1 hu henv R1 => ?_) h hpre) hK
        · unfold execOp
          simp only [resolve, invoke, builtin, Sem.run_bind, Sem.run_pure, Result.andThen_ok, List.map_toArray, List.map_cons, List.map_nil, h]
        · have : s1.ev y = some u := by
            rw [← hu]
            cases y <;> simp only [XS.ev, XS.get, henv]
          exact (R1.ev this).1
      · cases h
    · rename_i _ _ _ x y T T' h1 h2 h3
      simp only at h1 h2 h3
      subst h1
      have ha : args = #[x, y] := by rw [← Array.toArray_toList (xs := args), h2]
      have hat : argTypes = #[T, T'] := by rw [← Array.toArray_toList (xs := argTypes), h3]
      subst ha hat
      refine Out.mem R (by simp [okind]) (by simp [okind]) hd (fun v w' h => .inl ?_) ht (cpAV_ok (T' := T') (ty := type) htt R (vx := a.eval x) (vy := a.eval y) (fun u hu => (R.ev hu).1) (fun u hu => (R.ev hu).1) h hpre) hK
      unfold execOp
      simp only [resolve, invoke, builtin, Sem.run_bind, Sem.run_pure, Result.andThen_ok, List.map_toArray, List.map_cons, List.map_nil, h]
    · cases h

/-- What is owned throughout is owned, whatever stands. -/
theorem own_full' {w : World} {S S' : Nat → Prop} : ∀ {t : Ty} {k k' : Nat} {x : t.den} {ct : CT} {cs : List Value} {F : Nat → Prop}, t.lev ≤ k → t.lev ≤ k' → Own w S t k x none ct cs F → Own w S' t k' x none ct cs F
  | .int _, _, _, _, _, _, _, _, _, H | .bool, _, _, _, _, _, _, _, _, H | .str, _, _, _, _, _, _, _, _, H | .raw, _, _, _, _, _, _, _, _, H => H
  | .list e t, k, k', l, ct, cs, F, h, h', H => by
    simp only [Ty.lev] at h h'
    obtain ⟨k, rfl⟩ : ∃ j, k = j + 1 := ⟨k - 1, by omega⟩
    obtain ⟨k', rfl⟩ : ∃ j, k' = j + 1 := ⟨k' - 1, by omega⟩
    rcases own_inv H with ⟨rfl, rfl, hv, hF⟩ | ⟨b, cap, kids, arr, Fs, rfl, hv, q2, q3, h4, h5', g1, g2, g3, g4⟩
    · exact .inr ⟨by simp, rfl, hv, hF⟩
    · exact .inr ⟨by simp, hv, q2, q3, arr, h4, h5', Fs, g1, g2, g3, fun i hi => by simpa using own_full' (by omega) (by omega) (g4 i hi)⟩
  | .prod a b, k, k', x, ct, cs, F, h, h', H => by
    simp only [Ty.lev] at h h'
    rcases H with H | ⟨h0, H⟩
    · exact .inl H
    · cases ct with
      | pair c d =>
        obtain ⟨c1, c2, F1, F2, h1, g1, g2, g3, g4⟩ := H
        exact .inr ⟨h0, c1, c2, F1, F2, h1, g1, g2, own_full' (by omega) (by omega) g3, own_full' (by omega) (by omega) g4⟩
      | nil => exact H.elim
      | leaf => exact H.elim
      | node => exact H.elim

/-! ### Calls -/

theorem argAV_S {T : Nat → Prop} (R : RelAt w0 S0 N dr pc s a w S pl) (hS0 : ∀ n, S n → T n) (hT : ∀ r rt n, s.root r = some rt → (pl r).F n → T n) {t : Ty} {av : AV} {v : Value} (hv : AVR w S s.rts pl av v) {p : Prop} {tv : TV} (h : argAV s t av = some (p, tv)) (hp : p) :
    ∃ x u, tv = ⟨t, x⟩ ∧ v = pack t u ∧ RO w T t x u := by
  have hS : ∀ b, S b → T b ∧ w.heap[b]? = w.heap[b]? := fun b hb => ⟨hS0 b hb, rfl⟩
  have dat : ∀ av, (datOf t av).map (fun v => ((True : Prop), (⟨t, v⟩ : TV))) = some (p, tv) → AVR w S s.rts pl av v → ∃ x u, tv = ⟨t, x⟩ ∧ v = pack t u ∧ RO w T t x u := by
    intro av h hv
    cases hd : datOf t av with
    | none => rw [hd] at h; cases h
    | some x =>
      rw [hd] at h
      simp only [Option.map_some, Option.some.injEq, Prod.mk.injEq] at h
      obtain ⟨cs, h1, h2⟩ := datOf_ok hd hv
      exact ⟨x, cs, h.2.symm, h1, h2.frame hS⟩
  cases av with
  | ref r q =>
    simp only [argAV] at h
    cases hr : s.root r with
    | none => rw [hr] at h; cases h
    | some rt =>
      rw [hr] at h
      simp only at h
      cases hel : elAt rt q with
      | none => rw [hel] at h; cases h
      | some el =>
        rw [hel] at h
        simp only at h
        split at h
        · rename_i hc
          simp only [Option.some.injEq, Prod.mk.injEq] at h
          obtain ⟨rfl, rfl⟩ := h
          obtain ⟨hh, rfl⟩ := hc
          obtain ⟨k, v', F', hk, H, hv', hF'⟩ := R.nodeL hr hh hel hp
          have : v = v' := by rw [hv']; exact hv rt hr
          subst this
          exact ⟨el.l, [v], rfl, rfl, H.freeze (fun b hb => hS0 b hb) fun b hb => hT r rt b hr (hF' b hb)⟩
        · cases h
  | dat t' x => exact dat _ h hv
  | sub => simp [argAV, datOf] at h
  | ptr => simp [argAV, datOf] at h
  | rptr => simp [argAV, datOf] at h
  | clo f c =>
    cases t <;> cases c <;> simp only [argAV, Option.some.injEq, Prod.mk.injEq, reduceCtorEq] at h
    obtain ⟨rfl, rfl⟩ := h
    obtain ⟨vs, rfl, h1, _⟩ := hv
    have : vs = [] := List.length_eq_zero_iff.1 h1
    subst this
    exact ⟨_, [_], rfl, rfl, rfl, rfl⟩
  | tup => simp [argAV, datOf] at h
  | agg => simp [argAV, datOf] at h
  | junk => simp [argAV, datOf] at h

theorem argAV_ok (R : RelAt w0 S0 N dr pc s a w S pl) {t : Ty} {av : AV} {v : Value} (hv : AVR w S s.rts pl av v) {p : Prop} {tv : TV} (h : argAV s t av = some (p, tv)) (hp : p) :
    ∃ x u, tv = ⟨t, x⟩ ∧ v = pack t u ∧ RO w (oldS w) t x u :=
  argAV_S R (fun b hb => R.lt b hb) (fun r rt n hr hn => (R.Flt r rt n hr hn).1) hv h hp

theorem argsAV_ok (R : RelAt w0 S0 N dr pc s a w S pl) : ∀ (ts : List Ty) (xs : List Operand) (p : Prop) (l : List TV), argsAV s ts xs = some (p, l) → p → Args w (oldS w) ts l (xs.map a.eval)
  | [], [], p, l, h, _ => by
    simp only [argsAV, Option.some.injEq, Prod.mk.injEq] at h
    obtain ⟨_, rfl⟩ := h
    exact .nil
  | t :: ts, x :: xs, p, l, h, hp => by
    simp only [argsAV] at h
    cases hx : s.ev x with
    | none => rw [hx] at h; simp at h
    | some av =>
      rw [hx] at h
      simp only [Option.bind_some] at h
      cases ha : argAV s t av with
      | none => rw [ha] at h; simp at h
      | some pv =>
        obtain ⟨p1, tv⟩ := pv
        rw [ha] at h
        cases hl : argsAV s ts xs with
        | none => rw [hl] at h; simp at h
        | some ql =>
          obtain ⟨q, l'⟩ := ql
          rw [hl] at h
          simp only [Option.some.injEq, Prod.mk.injEq] at h
          obtain ⟨rfl, rfl⟩ := h
          obtain ⟨y, u, rfl, e1, e2⟩ := argAV_ok R (R.ev hx).1 ha hp.1
          simp only [List.map_cons]
          rw [e1]
          exact .cons e2 (argsAV_ok R ts xs q l' hl hp.2)
  | [], _ :: _, _, _, h, _ => by simp [argsAV] at h
  | _ :: _, [], _, _, h, _ => by simp [argsAV] at h

theorem retAV_ok {T : Nat → Prop} {v : TV} {u : Value} {F : Nat → Prop} (R : RelAt w0 S0 N dr pc s a w' S pl) (h : Ret1 T w' v u F) (hS : ∀ n, S n → T n)
    (hF : ∀ r rt n, s.root r = some rt → (pl r).F n → ¬ F n) (hp : dr = true → ∀ i n, pc i n → T n) :
    ∃ pl2, RelAt w0 S0 N dr pc (retAV s v).1 a w' S pl2 ∧ BVR w' S (retAV s v).1.rts pl2 (retAV s v).2 u ∧ (∀ r ∈ (retAV s v).2.ids, r < (retAV s v).1.nxt) ∧ s.nxt ≤ (retAV s v).1.nxt ∧
      (∀ r, r < s.nxt → lk (retAV s v).1.rts r = lk s.rts r ∧ pl2 r = pl r) ∧ (∀ r rt n, (retAV s v).1.root r = some rt → (pl2 r).F n → F n ∨ ∃ r rt, s.root r = some rt ∧ (pl r).F n) := by
  obtain ⟨t, x⟩ := v
  obtain ⟨h1, h2⟩ := h
  have plain : (∀ n, ¬ F n) ∧ (∃ cs, u = pack t cs ∧ RO w' noS t x cs) → ∃ pl2, RelAt w0 S0 N dr pc s a w' S pl2 ∧ BVR w' S s.rts pl2 (.dat t x) u ∧ (∀ r ∈ (AV.dat t x).ids, r < s.nxt) ∧ s.nxt ≤ s.nxt ∧
      (∀ r, r < s.nxt → lk s.rts r = lk s.rts r ∧ pl2 r = pl r) ∧ (∀ r rt n, s.root r = some rt → (pl2 r).F n → F n ∨ ∃ r rt, s.root r = some rt ∧ (pl r).F n) := by
    rintro ⟨_, cs, e1, e2⟩
    exact ⟨pl, R, ⟨cs, e1, e2.frame fun _ h => h.elim⟩, by simp [AV.ids], Nat.le_refl _, fun _ _ => ⟨rfl, rfl⟩, fun r rt n h3 h4 => .inr ⟨r, rt, h3, h4⟩⟩
  cases t with
  | list e t =>
    obtain ⟨ct, H⟩ := h2
    have H' : Own w' S (.list e t) (t.lev + 1) x none ct [u] F := H.frame (fun _ h => h.elim) fun _ _ => rfl
    refine ⟨_, R.addRoot (Grew.refl w') (rt := ⟨e, t, t.lev, x, none⟩) H' (fun n hn => ⟨(h1 n hn).2, .inr ⟨fun hs => ?_, fun r2 rt2 h2 h3 => hF r2 rt2 n h2 h3 hn, fun hd i hi => ?_⟩⟩), ?_, ?_, Nat.le_succ _, ?_, ?_⟩
    · exact (h1 n hn).1 (hS n hs)
    · exact absurd (hp hd i n hi) (h1 n hn).1
    · intro rt2 hrt2
      have : rt2 = ⟨e, t, t.lev, x, none⟩ := by
        simp only [retAV, XS.addRoot, lk, if_true, Option.some.injEq] at hrt2; exact hrt2.symm
      subst this
      simp only [if_true]
      have := (H'.hdr (by simp)).1
      rw [this]
      simp [RT.at, TV.len, atCT]
    · simp [retAV, AV.ids, XS.addRoot]
    · intro r hr
      refine ⟨?_, ?_⟩
      · show lk ((s.nxt, _) :: s.rts) r = _
        simp only [lk]; rw [if_neg (by omega)]
      · show (if r = s.nxt then _ else pl r) = _
        rw [if_neg (by omega)]
    · intro r rt n h3 h4
      simp only [retAV, XS.root, XS.addRoot, lk] at h3
      by_cases e1 : s.nxt = r
      · subst e1
        simp only [if_true] at h4
        exact .inl h4
      · rw [if_neg e1] at h3
        simp only [if_neg (fun e => e1 e.symm : ¬ r = s.nxt)] at h4
        exact .inr ⟨r, rt, h3, h4⟩
  | int | bool | str | raw | prod => exact plain h2

theorem retsAV_ok {T : Nat → Prop} (hS : ∀ n, S n → T n) (hp : dr = true → ∀ i n, pc i n → T n) {outs : List TV} {us : List Value} {F : Nat → Prop} (h : Rets T w' outs us F) :
    ∀ {s : XS} {pl : Nat → PL}, RelAt w0 S0 N dr pc s a w' S pl → (∀ r rt n, s.root r = some rt → (pl r).F n → ¬ F n) →
    ∃ pl2, RelAt w0 S0 N dr pc (retsAV s outs).1 a w' S pl2 ∧ BVRs w' S (retsAV s outs).1.rts pl2 (retsAV s outs).2 us ∧ (∀ av ∈ (retsAV s outs).2, ∀ r ∈ av.ids, r < (retsAV s outs).1.nxt) ∧ s.nxt ≤ (retsAV s outs).1.nxt ∧
      (∀ r, r < s.nxt → lk (retsAV s outs).1.rts r = lk s.rts r ∧ pl2 r = pl r) := by
  induction h with
  | nil => exact fun {s pl} R _ => ⟨pl, R, .nil, by simp [retsAV], Nat.le_refl _, fun _ _ => ⟨rfl, rfl⟩⟩
  | cons h1 hl hd ih =>
    intro s pl R hF
    obtain ⟨pl1, R1, b1, l1, n1, k1, f1⟩ := retAV_ok R h1 hS (fun r rt n h2 h3 h4 => hF r rt n h2 h3 (.inl h4)) hp
    obtain ⟨pl2, R2, b2, l2, n2, k2⟩ := ih R1 (fun r rt n h2 h3 h4 => by
      rcases f1 r rt n h2 h3 with h | ⟨r', rt', h5, h6⟩
      · exact hd n h h4
      · exact hF r' rt' n h5 h6 (.inr h4))
    refine ⟨pl2, R2, .cons ?_ b2, ?_, Nat.le_trans n1 n2, fun r hr => ⟨(k2 r (by omega)).1.trans (k1 r hr).1, (k2 r (by omega)).2.trans (k1 r hr).2⟩⟩
    · exact b1.frame (n := (retAV s _).1.nxt) (fun b hb => ⟨hb, rfl⟩) (fun r hr => .inr ⟨(k2 r hr).1, (k2 r hr).2⟩) l1
    · intro av hav r hr
      simp only [retsAV, List.mem_cons] at hav
      rcases hav with rfl | hav
      · exact Nat.lt_of_lt_of_le (l1 r hr) n2
      · exact l2 av hav r hr

theorem retAV_plain (s : XS) (v : TV) (rts : List (Nat × RT)) {u : Value} (h : BVR w S rts pl (retAV s v).2 u) (n : Nat) (hl : ∀ r ∈ (retAV s v).2.ids, r < n) : AVR w S rts pl (retAV s v).2 u ∧ (retAV s v).2.lt n := by
  obtain ⟨t, x⟩ := v
  cases t <;> exact ⟨h, hl⟩

theorem rets_new {T : Nat → Prop} {outs : List TV} {us : List Value} {F : Nat → Prop} (h : Rets T w' outs us F) : ∀ n, F n → ¬ T n := by
  induction h with
  | nil => exact fun _ h => h.elim
  | cons h1 _ _ ih => exact fun n hn => hn.elim (fun h => (h1.1 n h).1) (ih n)

theorem retsPut_at {T : Nat → Prop} (R1 : RelAt w0 S0 N dr pc s a w' S pl) (hS : ∀ n, S n → T n) (hT : ∀ r rt n, s.root r = some rt → (pl r).F n → T n) (hp : dr = true → ∀ i n, pc i n → T n)
    {outs : List TV} {us : List Value} {F : Nat → Prop} (h : Rets T w' outs us F) {d : Option Nat} (hd : ∀ t, d = some t → t < N) :
    Rel w0 S0 N dr pc (retsPut s d outs) (a.put d (valOf us)) w' := by
  have hF : ∀ r rt n, s.root r = some rt → (pl r).F n → ¬ F n := fun r rt n h2 h3 h4 => rets_new h n h4 (hT r rt n h2 h3)
  obtain ⟨pl2, R2, b2, l2, n2, k2⟩ := retsAV_ok hS hp h R1 hF
  have tup : ∀ l, l = outs → (∀ v, l ≠ [v]) → valOf us = .tuple us.toArray → Rel w0 S0 N dr pc ((retsAV s l).1.put d (.tup (retsAV s l).2)) (a.put d (valOf us)) w' := by
    rintro l rfl _ hv
    exact ⟨S, pl2, R2.put hd ⟨us, hv, b2⟩ l2⟩
  cases h with
  | nil => exact tup [] rfl (by simp) rfl
  | cons h1 hl hdd =>
    rename_i v vs u us F G
    cases hl with
    | nil =>
      cases b2 with
      | cons hb _ =>
        obtain ⟨q1, q2⟩ := retAV_plain s v _ hb _ (l2 _ (by simp [retsAV]))
        exact ⟨S, pl2, R2.put hd q1 q2⟩
    | cons h2 hl2 hd2 => exact tup _ rfl (by simp) rfl

theorem retsPut_ok (R : RelAt w0 S0 N dr pc s a w S pl) (g : Grew w w') {outs : List TV} {us : List Value} {F : Nat → Prop} (h : Rets (oldS w) w' outs us F) {d : Option Nat} (hd : ∀ t, d = some t → t < N) :
    Rel w0 S0 N dr pc (retsPut s d outs) (a.put d (valOf us)) w' :=
  retsPut_at (T := oldS w) (R.grown g) (fun n hn => R.lt n hn) (fun r rt n h2 h3 => (R.Flt r rt n h2 h3).1) (fun hd i n hi => by obtain ⟨_, _, h2, _⟩ := R.pins hd i n hi; exact h2) h hd

theorem run_call {f : Nat} {fn : Func} (hf : P.funcs[f]? = some fn) (hn : (fn.name == "runtime.NumGoroutine") = false) (hb : fn.body.isNone = false) (args : Array Value) :
    (callFunc f args).run P w = .ok (.enter f args) w := by
  have hn' : fn.name ≠ "runtime.NumGoroutine" := by simpa using hn
  have hb' : fn.body ≠ none := by intro e; simp [e] at hb
  simp [callFunc, hf, hn', hb']

theorem xcall_ok (hC : CtxOK P C) (R : RelAt w0 S0 N dr pc s a w S pl) {o : Oper} {i f : Nat} {args : Array Operand} {ats : Array TypeId} {K : XS → Prop} (hd : ∀ t, o.dst = some t → t < N) {y : Operand} (hy : a.eval y = .func (.func f) #[] #[]) (ho : o.op = .call { callee := .value y, args, argTypes := ats }) {sp : Spec} (hs : C.fn f = some sp)
    {p : Prop} {l : List TV} (ha : argsAV s sp.ps args.toList = some (p, l)) (hp : p) (hK : sp.wp l fun outs => K (retsPut s o.dst outs)) :
    Out P dr o i pc a w (fun pc' a' w' => ∃ s', K s' ∧ Rel w0 S0 N dr pc' s' a' w') := by
  obtain ⟨⟨fn, hf, hn, hb⟩, hcall⟩ := hC.2.1 f sp hs
  have hA := argsAV_ok R sp.ps args.toList p l ha hp
  have hrun : (execOp a.eval o).run P w = .ok (.enter f (args.toList.map a.eval).toArray) w := by
    unfold execOp
    rw [ho]
    have e : (args.toList.map a.eval).toArray = args.map a.eval := by rw [← Array.toList_map, Array.toArray_toList]
    rw [e]
    have := run_call (P := P) (w := w) hf hn hb (args.map a.eval)
    simp only [resolve, invoke, hy, Deferred.ofValue, Sem.run_bind, Sem.run_pure, Result.andThen_ok, Array.empty_append, Array.append_empty]
    exact this
  have main : o.wp P a w (fun a' w' => (dr = true → kept o pc w w') ∧ ∃ s', K s' ∧ Rel w0 S0 N dr pc s' a' w') noQ := by
    unfold Oper.wp
    rw [hrun]
    refine Calls.mono (hcall l _ hK w _ hA) fun e w' h => ?_
    cases e with
    | returned v =>
      obtain ⟨g, outs, us, F, h1, rfl, h2⟩ := h
      exact ⟨fun hdr i b hb _ => g.old b (by obtain ⟨_, _, h2, _⟩ := R.pins hdr i b hb; exact h2), _, h1, retsPut_ok R g h2 hd⟩
    | panicked => exact h.elim
    | outgrown => exact h.elim
  unfold Out
  have hk : okind o.op = 2 := by rw [ho]; rfl
  rw [hk]
  exact main

theorem calleeOf_ok (R : RelAt w0 S0 N dr pc s a w S pl) {t f : Nat} (h : calleeOf (s.get t) = some f) : a.eval (.tmp t) = .func (.func f) #[] #[] := by
  unfold calleeOf at h
  split at h
  · rename_i f' fst cap hg
    split at h
    · rename_i hc
      cases h
      have hv := (R.ev (x := .tmp t) hg).1
      obtain ⟨e, _⟩ := AVR.raw hv
      rw [e, Array.eq_empty_of_size_eq_zero hc.1, Array.eq_empty_of_size_eq_zero hc.2]
    · cases h
  · rename_i f' hg
    cases h
    obtain ⟨vs, e, h1, _⟩ := (R.ev (x := .tmp t) hg).1
    have : vs = [] := List.length_eq_zero_iff.1 h1
    subst this
    exact e
  · cases h

theorem argsAV_S {T : Nat → Prop} (R : RelAt w0 S0 N dr pc s a w S pl) (hS : ∀ n, S n → T n) (hT : ∀ r rt n, s.root r = some rt → (pl r).F n → T n) : ∀ (ts : List Ty) (xs : List Operand) (p : Prop) (l : List TV), argsAV s ts xs = some (p, l) → p → Args w T ts l (xs.map a.eval)
  | [], [], p, l, h, _ => by
    simp only [argsAV, Option.some.injEq, Prod.mk.injEq] at h
    obtain ⟨_, rfl⟩ := h
    exact .nil
  | t :: ts, x :: xs, p, l, h, hp => by
    simp only [argsAV] at h
    cases hx : s.ev x with
    | none => rw [hx] at h; simp at h
    | some av =>
      rw [hx] at h
      simp only [Option.bind_some] at h
      cases ha : argAV s t av with
      | none => rw [ha] at h; simp at h
      | some pv =>
        obtain ⟨p1, tv⟩ := pv
        rw [ha] at h
        cases hl : argsAV s ts xs with
        | none => rw [hl] at h; simp at h
        | some ql =>
          obtain ⟨q, l'⟩ := ql
          rw [hl] at h
          simp only [Option.some.injEq, Prod.mk.injEq] at h
          obtain ⟨rfl, rfl⟩ := h
          obtain ⟨y, u, rfl, e1, e2⟩ := argAV_S R hS hT (R.ev hx).1 ha hp.1
          simp only [List.map_cons]
          rw [e1]
          exact .cons e2 (argsAV_S R hS hT ts xs q l' hl hp.2)
  | [], _ :: _, _, _, h, _ => by simp [argsAV] at h
  | _ :: _, [], _, _, h, _ => by simp [argsAV] at h

theorem xmv_ok (hC : CtxOK P C) (R : RelAt w0 S0 N false pc s a w S pl) {o : Oper} {i f : Nat} {args : Array Operand} {ats : Array TypeId} {K : XS → Prop} (hd : ∀ t, o.dst = some t → t < N) (ho : o.op = .call { callee := .value (.func f), args, argTypes := ats }) {sp : Spec} (hs : C.mv f = some sp)
    {x : Operand} {xs : List Operand} (hargs : args.toList = x :: xs) {r : Nat} (hx : s.ev x = some (.ref r [])) {rt : RT} (hr : s.root r = some rt) (hh : rt.h = none) (hk : rt.t.lev ≤ rt.k) {ts : List Ty} (hps : sp.ps = rt.ty :: ts)
    {p : Prop} {l : List TV} (ha : argsAV (s.kill r) ts xs = some (p, l)) (hp : p) (hK : sp.wp (⟨rt.ty, rt.x⟩ :: l) fun outs => K (retsPut (s.kill r) o.dst outs)) :
    Out P false o i pc a w (fun pc' a' w' => ∃ s', K s' ∧ Rel w0 S0 N false pc' s' a' w') := by
  obtain ⟨⟨fn, hf, hn, hb⟩, hcall⟩ := hC.2.2 f sp hs
  have hk2 : ∀ r2 rt2, (s.kill r).root r2 = some rt2 → r2 ≠ r ∧ s.root r2 = some rt2 := fun r2 rt2 h => lk_rm_some h
  have RK := R.kill r
  obtain ⟨hv, H⟩ := R.own r rt hr
  have hv0 : a.eval x = hv := by
    have h1 : a.eval x = hdr (atCT [] rt.ty (pl r).ct) (rt.at []).len := (R.ev hx).1 rt hr
    rw [h1]; exact (H.hdr (by rw [hh]; simp)).1.symm
  have hFlt : ∀ n, (pl r).F n → n < w.heap.size := fun n hn => (R.Flt r rt n hr hn).1
  have hS : ∀ n, S n → butF w (pl r).F n := fun n hn => ⟨R.lt n hn, fun h => (R.Flt r rt n hr h).2 hn⟩
  have hT : ∀ r2 rt2 n, (s.kill r).root r2 = some rt2 → (pl r2).F n → butF w (pl r).F n := fun r2 rt2 n h2 h3 => ⟨(R.Flt r2 rt2 n (hk2 r2 rt2 h2).2 h3).1, fun h => (hk2 r2 rt2 h2).1 (R.disj r2 r rt2 rt n (hk2 r2 rt2 h2).2 hr h3 h)⟩
  have hO : Own w (butF w (pl r).F) rt.ty (rt.t.lev + 1) rt.x none (pl r).ct [a.eval x] (pl r).F := by
    rw [hv0]
    rw [hh] at H
    exact own_full' (by simp only [Ty.lev]; omega) (by simp only [Ty.lev]; omega) H
  have hA := argsAV_S RK hS hT ts xs p l ha hp
  have hrun : (execOp a.eval o).run P w = .ok (.enter f (a.eval x :: xs.map a.eval).toArray) w := by
    unfold execOp
    rw [ho]
    have e : (a.eval x :: xs.map a.eval).toArray = args.map a.eval := by rw [← List.map_cons, ← hargs, ← Array.toList_map, Array.toArray_toList]
    rw [e]
    have := run_call (P := P) (w := w) hf hn hb (args.map a.eval)
    simp only [resolve, invoke, Deferred.ofValue, Act.eval, Sem.run_bind, Sem.run_pure, Result.andThen_ok, Array.empty_append, Array.append_empty]
    exact this
  have main : o.wp P a w (fun a' w' => (false = true → kept o pc w w') ∧ ∃ s', K s' ∧ Rel w0 S0 N false pc s' a' w') noQ := by
    unfold Oper.wp
    rw [hrun]
    refine Calls.mono (hcall rt.e rt.t ts rt.x l _ hps hK w _ _ _ _ hO hFlt hA) fun e w' h => ?_
    cases e with
    | returned v =>
      obtain ⟨g, outs, us, G, h1, rfl, h2⟩ := h
      have R1 : RelAt w0 S0 N false pc (s.kill r) a w' S pl := RK.moved g.os g.tape g.output g.size fun n hn h => g.old n (by
        rcases h with h | ⟨r2, rt2, h3, h4⟩
        · exact hS n h
        · exact hT r2 rt2 n h3 h4)
      exact ⟨(fun h => by cases h), _, h1, retsPut_at R1 hS hT (fun h => by cases h) h2 hd⟩
    | panicked => exact h.elim
    | outgrown => exact h.elim
  unfold Out
  have hk : okind o.op = 2 := by rw [ho]; rfl
  rw [hk]
  exact main

end
end Fer
