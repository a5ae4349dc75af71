/- Functions keep their contracts: what there is to show. Over any program. -/
import Derived.Test.YtbahdhedegpbbaaFerT
namespace Fer
open Go

theorem RO.flat {w w' : World} {S S' : Nat → Prop} : ∀ {t : Ty} {x : t.den} {cs : List Value}, t.flat = true → RO w S t x cs → RO w' S' t x cs
  | .int _, _, _, _, h | .bool, _, _, _, h | .str, _, _, _, h | .raw, _, _, _, h => h
  | .list _ _, _, _, h, _ => by simp [Ty.flat] at h
  | .prod a b, x, cs, hf, h => by
    simp only [Ty.flat, Bool.and_eq_true] at hf
    obtain ⟨c1, c2, rfl, h1, h2⟩ := h
    exact ⟨c1, c2, rfl, h1.flat hf.1, h2.flat hf.2⟩

/-- What is owned throughout is owned, whatever stands. -/
theorem own_full {w : World} {S S' : Nat → Prop} : ∀ {t : Ty} {k k' : Nat} {x : t.den} {ct : CT} {cs : List Value} {F : Nat → Prop}, t.lev ≤ k → t.lev ≤ k' → Own w S t k x none ct cs F → Own w S' t k' x none ct cs F
  | .int _, _, _, _, _, _, _, _, _, H | .bool, _, _, _, _, _, _, _, _, H | .str, _, _, _, _, _, _, _, _, H | .raw, _, _, _, _, _, _, _, _, H => H
  | .list e t, k, k', l, ct, cs, F, h, h', H => by
    simp only [Ty.lev] at h h'
    obtain ⟨k, rfl⟩ : ∃ j, k = j + 1 := ⟨k - 1, by omega⟩
    obtain ⟨k', rfl⟩ : ∃ j, k' = j + 1 := ⟨k' - 1, by omega⟩
    rcases own_inv H with ⟨rfl, rfl, hv, hF⟩ | ⟨b, cap, kids, arr, Fs, rfl, hv, q2, q3, h4, h5', g1, g2, g3, g4⟩
    · exact .inr ⟨by simp, rfl, hv, hF⟩
    · exact .inr ⟨by simp, hv, q2, q3, arr, h4, h5', Fs, g1, g2, g3, fun i hi => by simpa using own_full (by omega) (by omega) (g4 i hi)⟩
  | .prod a b, k, k', x, ct, cs, F, h, h', H => by
    simp only [Ty.lev] at h h'
    rcases H with H | ⟨h0, H⟩
    · exact .inl H
    · cases ct with
      | pair c d =>
        obtain ⟨c1, c2, F1, F2, h1, g1, g2, g3, g4⟩ := H
        exact .inr ⟨h0, c1, c2, F1, F2, h1, g1, g2, own_full (by omega) (by omega) g3, own_full (by omega) (by omega) g4⟩
      | nil => exact H.elim
      | leaf => exact H.elim
      | node => exact H.elim

def outOf (s : XS) (t : Nat) : Option (Option Nat × TV) :=
  match s.get t with
  | some (.dat ty x) => if ty.flat = true then some (none, ⟨ty, x⟩) else none
  | some (.ref r []) => match s.root r with
    | some rt => if rt.h = none ∧ (rt.t.lev ≤ rt.k ∨ rt.x = []) then some (some r, ⟨rt.ty, rt.x⟩) else none
    | none => none
  | _ => none

def outsOf (s : XS) : List Nat → Option (List Nat × List TV)
  | [] => some ([], [])
  | t :: l => match outOf s t, outsOf s l with
    | some (none, v), some (rs, vs) => some (rs, v :: vs)
    | some (some r, v), some (rs, vs) => if rs.contains r = true then none else some (r :: rs, v :: vs)
    | _, _ => none

/-- What a body is to come to: results that the contract's end takes. -/
def retK (slots : List Nat) (K : List TV → Prop) : Exit → XS → Prop
  | .ret, s | .normal, s => match outsOf s slots with
    | some (_, vs) => K vs
    | none => False
  | _, _ => False

def env0 : Nat → List TV → List (Nat × AV)
  | _, [] => []
  | n, v :: l => (n, .dat v.t v.x) :: env0 (n + 1) l

def XS.init (args : List TV) : XS := ⟨env0 0 args, [], 0, []⟩

section
variable {P : Program} {C : Ctx} {w0 : World} {S0 : Nat → Prop} {N : Nat} {s : XS} {a : Act} {w w' : World} {S : Nat → Prop} {pl : Nat → PL}

theorem outsOf_ok (R : RelAt w0 S0 N false noPins s a w S pl) : ∀ (ts : List Nat) (rs : List Nat) (vs : List TV), outsOf s ts = some (rs, vs) →
    ∃ F, Rets S0 w vs (ts.map fun t => a.tmps.getD t undef) F ∧ ∀ n, F n → ∃ r rt, r ∈ rs ∧ s.root r = some rt ∧ (pl r).F n
  | [], rs, vs, h => by
    simp only [outsOf, Option.some.injEq, Prod.mk.injEq] at h
    obtain ⟨rfl, rfl⟩ := h
    exact ⟨noF, .nil, fun _ h => h.elim⟩
  | t :: ts, rs, vs, h => by
    simp only [outsOf] at h
    split at h
    · rename_i v rs' vs' h1 h2
      simp only [Option.some.injEq, Prod.mk.injEq] at h
      obtain ⟨rfl, rfl⟩ := h
      obtain ⟨F, hR, hF⟩ := outsOf_ok R ts _ _ h2
      refine ⟨_, .cons (F := noF) ?_ hR (fun _ h => h.elim), fun n hn => hn.elim (fun h => h.elim) (hF n)⟩
      unfold outOf at h1
      split at h1
      · rename_i ty x hg
        split at h1
        · rename_i hfl
          simp only [Option.some.injEq, Prod.mk.injEq, true_and] at h1
          subst h1
          obtain ⟨cs, e1, e2⟩ := (R.env t _ hg).1
          refine ⟨fun _ h => h.elim, ?_⟩
          cases ty with
          | list => simp [Ty.flat] at hfl
          | _ => exact ⟨fun _ h => h, cs, e1, e2.flat hfl⟩
        · cases h1
      · split at h1
        · split at h1
          · simp at h1
          · cases h1
        · cases h1
      · cases h1
    · rename_i r v rs' vs' h1 h2
      split at h
      · cases h
      · rename_i hnc
        simp only [Option.some.injEq, Prod.mk.injEq] at h
        obtain ⟨rfl, rfl⟩ := h
        obtain ⟨F, hR, hF⟩ := outsOf_ok R ts _ _ h2
        unfold outOf at h1
        split at h1
        · split at h1
          · simp at h1
          · cases h1
        · rename_i r' hg
          cases hr : s.root r' with
          | none => rw [hr] at h1; cases h1
          | some rt =>
            rw [hr] at h1
            simp only at h1
            split at h1
            · rename_i hc
              simp only [Option.some.injEq, Prod.mk.injEq] at h1
              obtain ⟨rfl, rfl⟩ := h1
              obtain ⟨hv, H⟩ := R.own r' rt hr
              rw [hc.1] at H
              have hvv : a.tmps.getD t undef = hv := by
                have h1 : a.tmps.getD t undef = hdr (atCT [] rt.ty (pl r').ct) (rt.at []).len := (R.env t _ hg).1 rt hr
                rw [h1]; exact (H.hdr (by simp)).1.symm
              have hO : Own w noS rt.ty (rt.t.lev + 1) rt.x none (pl r').ct [hv] (pl r').F := by
                rcases hc.2 with hk | hx
                · exact own_full (by simp only [Ty.lev]; omega) (by simp only [Ty.lev]; omega) H
                · obtain ⟨e, t, k, x, hh⟩ := rt
                  simp only at hx
                  subst hx
                  have H1 := own_relabel t.lev H
                  exact own_full (by simp only [Ty.lev]; omega) (by simp only [Ty.lev]; omega) H1
              refine ⟨_, .cons (F := (pl r').F) ⟨fun n hn => ⟨?_, (R.Flt r' rt n hr hn).1⟩, (pl r').ct, ?_⟩ hR (fun n hn hn' => ?_), fun n hn => ?_⟩
              · exact fun hlt => (R.Flt r' rt n hr hn).2 (R.base n hlt)
              · show Own w noS rt.ty (rt.t.lev + 1) rt.x none (pl r').ct [a.tmps.getD t undef] (pl r').F
                rw [hvv]; exact hO
              · obtain ⟨r2, rt2, q1, q2, q3⟩ := hF n hn'
                have := R.disj r' r2 rt rt2 n hr q2 hn q3
                subst this
                exact hnc (by simpa using q1)
              · rcases hn with hn | hn
                · exact ⟨r', rt, by simp, hr, hn⟩
                · obtain ⟨r2, rt2, q1, q2, q3⟩ := hF n hn
                  exact ⟨r2, rt2, by simp [q1], q2, q3⟩
            · cases h1
        · cases h1
    · cases h

theorem run_results {fn : Func} {ts : List Nat} (h : fn.results.toList = ts.map ResultVar.tmp) (tmps : Array Value) : (results fn tmps).run P w = .ok (valOf (ts.map fun t => tmps.getD t undef)) w := by
  have hm : ∀ ts : List Nat, (List.mapM (fun r : ResultVar => (match r with | .tmp t => pure (tmps.getD t undef) | .cell a t => do loadVar t (← asAddr (tmps.getD a undef)) : Sem Value)) (ts.map ResultVar.tmp)).run P w = .ok (ts.map fun t => tmps.getD t undef) w := by
    intro ts
    induction ts with
    | nil => simp
    | cons t ts ih =>
      rw [List.map_cons, List.mapM_cons, Sem.run_bind]
      simp only [Sem.run_pure, Result.andThen_ok, Sem.run_bind, ih, List.map_cons]
  have hr : fn.results = (ts.map ResultVar.tmp).toArray := by rw [← h, Array.toArray_toList]
  unfold results
  rw [hr]
  rw [List.mapM_toArray, Sem.run_bind, Sem.run_map]
  erw [hm ts]
  match ts with
  | [] => rfl
  | [t] => rfl
  | t :: t' :: ts => simp [valOf]

theorem env0_get : ∀ {l : List TV} {n i : Nat} {av : AV}, lk (env0 n l) i = some av → ∃ v, l[i - n]? = some v ∧ n ≤ i ∧ av = .dat v.t v.x
  | [], _, _, _, h => by cases h
  | v :: l, n, i, av, h => by
    simp only [env0, lk] at h
    by_cases e : n = i
    · subst e
      simp only [if_true, Option.some.injEq] at h
      subst h
      exact ⟨v, by simp, Nat.le_refl _, rfl⟩
    · rw [if_neg e] at h
      obtain ⟨v', h1, h2, h3⟩ := env0_get h
      exact ⟨v', by rw [show i - n = (i - (n + 1)) + 1 by omega]; simpa using h1, by omega, h3⟩

theorem args_get {ts : List Ty} {vs : List TV} {us : List Value} (h : Args w S ts vs us) : us.length = vs.length ∧ vs.map (·.t) = ts ∧ ∀ (i : Nat) (v : TV), vs[i]? = some v → ∃ u cs, us[i]? = some u ∧ u = pack v.t cs ∧ RO w S v.t v.x cs := by
  induction h with
  | nil => exact ⟨rfl, rfl, by simp⟩
  | cons h _ ih =>
    refine ⟨by simp [ih.1], by simp [ih.2.1], fun i v hv => ?_⟩
    cases i with
    | zero =>
      simp only [List.getElem?_cons_zero, Option.some.injEq] at hv
      subst hv
      exact ⟨_, _, by simp, rfl, h⟩
    | succ i =>
      simp only [List.getElem?_cons_succ] at hv ⊢
      exact ih.2.2 i v hv

/-- What there is to show of a function. -/
theorem FnOK_of (f : Nat) (fn : Func) (c : Code) (slots : List Nat) (sp : Spec) (hf : P.funcs[f]? = some fn) (hb : fn.body = some c) (hn : (fn.name == "runtime.NumGoroutine") = false) (hres : fn.results.toList = slots.map ResultVar.tmp)
    (hnt : fn.ntmps = C.n) (hps : sp.ps.length ≤ fn.ntmps)
    (h : ∀ (args : List TV) (K : List TV → Prop), args.map (·.t) = sp.ps → sp.wp args K → ∀ w0 : World, XW P C w0 (oldS w0) c (retK slots K) (XS.init args)) : FnOK P f sp := by
  refine ⟨⟨fn, hf, hn, by rw [hb]; rfl⟩, fun args K hK w vs hA => ?_⟩
  obtain ⟨l1, hts, hget⟩ := args_get hA
  have l2 : sp.ps.length = args.length := by rw [← hts]; simp
  refine calls_of_wp hf hb (Go.wp_mono (h args K hts hK w _ w ⟨oldS w, fun _ => ⟨.leaf, noF⟩, ?_⟩) fun e a' w' hh => ?_)
  · refine { defers := rfl, size := ?_, os := rfl, tape := rfl, output := SameOut.refl w, grow := Nat.le_refl _, stay := fun _ _ => rfl, base := fun _ h => h, lt := fun _ h => h, own := (fun _ _ h => by cases h), Flt := (fun _ _ _ h => by cases h), disj := (fun _ _ _ _ _ h => by cases h), ids := (fun _ _ h => by cases h), env := fun i av hi => ?_, pins := (fun h => by cases h) }
    · simp [l1, ← hnt]; omega
    · obtain ⟨v, h1, _, rfl⟩ := env0_get hi
      simp only [Nat.sub_zero] at h1
      obtain ⟨u, cs, h2, h3, h4⟩ := hget i v h1
      refine ⟨⟨cs, ?_, h4⟩, AV.lt_dat⟩
      have hlt : i < vs.length := (List.getElem?_eq_some_iff.1 h2).1
      rw [← h3]
      simp only [Array.getD_eq_getD_getElem?]
      rw [Array.getElem?_append_left (by simpa using hlt)]
      simp [h2]
  · obtain ⟨s', h1, S, pl, R⟩ := hh
    have g : Grew w w' := ⟨R.os, R.tape, R.output, R.grow, R.stay⟩
    have fin : (match outsOf s' slots with | some (_, vs) => K vs | none => False) → a'.defers = [] ∧ ∃ v, (results fn a'.tmps).run P w' = .ok v w' ∧ Grew w w' ∧ ∃ outs us F, K outs ∧ v = valOf us ∧ Rets (oldS w) w' outs us F := by
      intro h1
      cases ho : outsOf s' slots with
      | none => rw [ho] at h1; exact h1.elim
      | some p =>
        obtain ⟨rs, vs'⟩ := p
        rw [ho] at h1
        obtain ⟨F, hR, _⟩ := outsOf_ok R slots rs vs' ho
        exact ⟨R.defers, _, run_results hres a'.tmps, g, vs', _, F, h1, rfl, hR⟩
    cases e with
    | normal => exact fin h1
    | ret => exact fin h1
    | exit => exact h1.elim
    | goto => exact h1.elim
    | panic => exact h1.elim
    | outgrown => exact h1.elim

/-- The state at the head of a function to which its first argument is given away. -/
def XS.initMv (e : Nat) (t : Ty) (x : List t.den) (args : List TV) : XS := ⟨(0, .ref 0 []) :: env0 1 args, [(0, ⟨e, t, t.lev, x, none⟩)], 1, []⟩

theorem FnMv_of (f : Nat) (fn : Func) (c : Code) (slots : List Nat) (sp : Spec) (hf : P.funcs[f]? = some fn) (hb : fn.body = some c) (hn : (fn.name == "runtime.NumGoroutine") = false) (hres : fn.results.toList = slots.map ResultVar.tmp)
    (hnt : fn.ntmps = C.n) (hps : sp.ps.length ≤ fn.ntmps)
    (h : ∀ (e : Nat) (t : Ty) (ts : List Ty) (x : List t.den) (args : List TV) (K : List TV → Prop), sp.ps = .list e t :: ts → args.map (·.t) = ts → sp.wp (⟨.list e t, x⟩ :: args) K → ∀ (w0 : World) (S0 : Nat → Prop), XW P C w0 S0 c (retK slots K) (XS.initMv e t x args)) : FnMv P f sp := by
  refine ⟨⟨fn, hf, hn, by rw [hb]; rfl⟩, fun e t ts x args K hsp hK w v0 vs ct F hO hF hA => ?_⟩
  obtain ⟨l1, hts, hget⟩ := args_get hA
  have l2 : ts.length = args.length := by rw [← hts]; simp
  have l3 : sp.ps.length = args.length + 1 := by rw [hsp]; simp [l2]
  refine calls_of_wp hf hb (Go.wp_mono (h e t ts x args K hsp hts hK w (butF w F) _ w ⟨butF w F, fun _ => ⟨ct, F⟩, ?_⟩) fun ex a' w' hh => ?_)
  · have hr0 : ∀ r rt, (XS.initMv e t x args).root r = some rt → r = 0 ∧ rt = ⟨e, t, t.lev, x, none⟩ := fun r rt h => by
      simp only [XS.initMv, XS.root, lk] at h
      split at h
      · rename_i e0; subst e0; cases h; exact ⟨rfl, rfl⟩
      · cases h
    refine { defers := rfl, size := ?_, os := rfl, tape := rfl, output := SameOut.refl w, grow := Nat.le_refl _, stay := fun _ _ => rfl, base := fun _ h => h, lt := fun _ h => h.1, own := fun r rt h => ?_, Flt := fun r rt b h hb => ⟨hF b hb, fun h' => h'.2 hb⟩, disj := fun r r' rt rt' b h h' _ _ => ((hr0 r rt h).1).trans (hr0 r' rt' h').1.symm, ids := fun r rt h => ?_, env := fun i av hi => ?_, pins := (fun h => by cases h) }
    · simp only [Array.size_append, List.size_toArray, List.length_cons, Array.size_replicate]; omega
    · obtain ⟨rfl, rfl⟩ := hr0 r rt h
      exact ⟨v0, hO⟩
    · obtain ⟨rfl, _⟩ := hr0 r rt h
      exact Nat.lt_succ_self 0
    · simp only [XS.initMv, XS.get, lk] at hi
      split at hi
      · rename_i e0
        subst e0
        cases hi
        refine ⟨fun rt h => ?_, AV.lt_ref (Nat.lt_succ_self _)⟩
        obtain ⟨_, rfl⟩ := hr0 0 rt h
        have e1 : v0 = Fer.hdr ct x.length := (hO.hdr (by simp)).1
        simp only [Array.getD_eq_getD_getElem?]
        rw [Array.getElem?_append_left (by simp)]
        simpa [atCT, RT.at, TV.len] using e1
      · rename_i e0
        obtain ⟨v, h1, h2, rfl⟩ := env0_get hi
        obtain ⟨u, cs, h3, h4, h5⟩ := hget (i - 1) v h1
        refine ⟨⟨cs, ?_, h5⟩, AV.lt_dat⟩
        have hlt : i - 1 < vs.length := (List.getElem?_eq_some_iff.1 h3).1
        rw [← h4]
        simp only [Array.getD_eq_getD_getElem?]
        rw [Array.getElem?_append_left (by simp; omega)]
        obtain ⟨j, rfl⟩ : ∃ j, i = j + 1 := ⟨i - 1, by omega⟩
        simp only [Nat.add_sub_cancel] at h3
        simp [h3]
  · obtain ⟨s', h1, S, pl, R⟩ := hh
    have g : Turned (butF w F) w w' := ⟨R.os, R.tape, R.output, R.grow, R.stay⟩
    have fin : (match outsOf s' slots with | some (_, vs) => K vs | none => False) → a'.defers = [] ∧ ∃ v, (results fn a'.tmps).run P w' = .ok v w' ∧ Turned (butF w F) w w' ∧ ∃ outs us G, K outs ∧ v = valOf us ∧ Rets (butF w F) w' outs us G := by
      intro h1
      cases ho : outsOf s' slots with
      | none => rw [ho] at h1; exact h1.elim
      | some p =>
        obtain ⟨rs, vs'⟩ := p
        rw [ho] at h1
        obtain ⟨G, hR, _⟩ := outsOf_ok R slots rs vs' ho
        exact ⟨R.defers, _, run_results hres a'.tmps, g, vs', _, G, h1, rfl, hR⟩
    cases ex with
    | normal => exact fin h1
    | ret => exact fin h1
    | exit => exact h1.elim
    | goto => exact h1.elim
    | panic => exact h1.elim
    | outgrown => exact h1.elim

end
end Fer
