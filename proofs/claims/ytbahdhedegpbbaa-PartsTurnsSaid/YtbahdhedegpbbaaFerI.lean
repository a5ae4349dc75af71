/- Loads; stores; holes. Over any program. -/
import Derived.Test.YtbahdhedegpbbaaFerH
import Derived.Deep.MidRow
namespace Fer
open Go

section
variable {P : Program} {tt : List (Nat × TE)} {w0 : World} {S0 : Nat → Prop} {N : Nat} {dr : Bool} {pc : Pins} {s : XS} {a : Act} {w w' : World} {S : Nat → Prop} {pl : Nat → PL}

theorem pack_one {t : Ty} (ht : t.isProd = false) {cs : List Value} (hl : cs.length = t.width) : ∃ v, cs = [v] ∧ pack t cs = v := by
  have h1 : cs.length = 1 := by cases t <;> first | (simp [Ty.isProd] at ht; done) | simpa [Ty.width] using hl
  obtain ⟨v, rfl⟩ := List.length_eq_one_iff.1 h1
  exact ⟨v, rfl, by cases t <;> first | (simp [Ty.isProd] at ht; done) | rfl⟩

theorem pack_cells {t : Ty} {cs : List Value} (hl : cs.length = t.width) (h1 : ∀ u ∈ cs, u.oneCell' = true) : (pack t cs).cells.toList = cs := by
  by_cases ht : t.isProd = true
  · cases t <;> simp [Ty.isProd] at ht
    rfl
  · obtain ⟨v, rfl, h⟩ := pack_one (by simpa using ht) hl
    rw [h]
    have := h1 v (by simp)
    cases v <;> first | rfl | (simp [Value.oneCell'] at this; done)

/-- A type's data: where the table has it. -/
structure TOK (P : Program) (T : Nat) (t : Ty) : Prop where
  size : ∃ inf z, P.info? T = some inf ∧ inf.size = t.width ∧ inf.zero = some z ∧ z.cells.toList.length = t.width ∧ ∀ w S, RO w S t t.dflt z.cells.toList
  agg : ∃ d, P.underlying T = some d ∧ (t.isProd = true → d.isRow = true) ∧ (t.isProd = false → d.isRow = false)

theorem aggB_row {T : Nat} {d : TypeDesc} (h : P.underlying T = some d) : aggB P T = d.isRow := by
  unfold aggB; rw [h]; cases d <;> rfl

theorem te_ok {T : Nat} {te : TE} {t : Ty} (h : teB P T te = true) (ht : te.ty = some t) : TOK P T t := by
  obtain ⟨d, hd⟩ := te_under h
  have hag := aggB_row hd
  cases te with
  | basic t' =>
    simp only [TE.ty, Option.some.injEq] at ht; subst ht
    simp only [teB, Bool.and_eq_true, beq_iff_eq] at h
    obtain ⟨⟨⟨h1, h2⟩, h3⟩, h4⟩ := h
    exact ⟨(infoB_ok h1).info, d, hd, fun e => by simp [e] at h3, fun _ => by rw [← hag]; exact h2⟩
  | slice e t' b =>
    simp only [TE.ty, Option.some.injEq] at ht; subst ht
    simp only [teB, Bool.and_eq_true] at h
    obtain ⟨⟨⟨⟨h1, h2⟩, h3⟩, h4⟩, h5⟩ := h
    refine ⟨(infoB_ok h5).info, d, hd, fun e => by simp [Ty.isProd] at e, fun _ => ?_⟩
    rw [hd] at h2
    cases d <;> first | rfl | (simp at h2; done)
  | arr n e t' => simp [TE.ty] at ht
  | struct ts =>
    simp only [teB, Bool.and_eq_true, decide_eq_true_eq] at h
    obtain ⟨⟨h1, h2⟩, h3⟩ := h
    simp only [TE.ty, h1, if_true, Option.some.injEq] at ht
    subst ht
    have hp : (prodOf ts).isProd = true := by
      match ts, h1 with
      | a :: b :: l, _ => rfl
    refine ⟨(infoB_ok h3).info, d, hd, fun _ => ?_, fun e => by rw [hp] at e; cases e⟩
    rw [hd] at h2
    cases d <;> first | rfl | (simp at h2; done)
  | pair e t' =>
    simp only [TE.ty, Option.some.injEq] at ht; subst ht
    obtain ⟨h1, _, _, h4⟩ := pair_te h
    rw [hd] at h1
    cases h1
    exact ⟨(infoB_ok h4).info, _, hd, fun _ => rfl, fun e => by cases e⟩

theorem Loc.range {b o : Nat} {cs : List Value} (h : Loc w b o cs) : w.rangeAt b o cs := by
  obtain ⟨arr, E, h1, h2, h3⟩ := h
  intro j v hv
  have hj : j < cs.length := (List.getElem?_eq_some_iff.1 hv).1
  simp only [World.cell?, h1]
  rw [← h3] at hv
  simp only [cellsAt, List.getElem?_take, List.getElem?_drop] at hv
  rw [if_pos hj] at hv
  simpa using hv

theorem Loc.frame {b o : Nat} {cs : List Value} (h : Loc w b o cs) (hb : w'.heap[b]? = w.heap[b]?) : Loc w' b o cs := by
  obtain ⟨arr, E, h1, h2, h3⟩ := h; exact ⟨arr, E, hb.trans h1, h2, h3⟩

/-- A load, of what lies there. -/
theorem run_load_range {T : Nat} {t : Ty} (hT : TOK P T t) {b o : Nat} {cs : List Value} (hc : w.rangeAt b o cs) (hl : cs.length = t.width) :
    (Instr.loadAt T (.pointer (some ⟨b, o, none⟩))).run P w = .ok (pack t cs) w := by
  obtain ⟨inf, z, hi, hs, _⟩ := hT.size
  obtain ⟨d, hd, h1, h2⟩ := hT.agg
  by_cases ht : t.isProd = true
  · have e : pack t cs = .agg cs.toArray := by cases t <;> first | (simp [Ty.isProd] at ht; done) | rfl
    rw [e]
    exact run_loadAt_mid w b o T cs d hc hd (h1 ht) (by rw [hi]; simp [hs, hl])
  · have ht : t.isProd = false := by simpa using ht
    obtain ⟨v, rfl, e⟩ := pack_one ht hl
    rw [e]
    have hv := hc 0 v rfl
    simp only [Nat.add_zero] at hv
    have hr := h2 ht
    have hagg : (isAgg T).run P w = .ok false w := by
      unfold isAgg
      rw [Sem.run_bind, run_underlying hd w]
      cases d <;> first | (simp [TypeDesc.isRow] at hr; done) | simp
    simp only [Instr.loadAt, Instr.sureAddr, Sem.run_bind, Sem.run_pure, Result.andThen_ok, loadVar, hagg]
    simp [run_load, hv]

theorem addr_base {i : Nat} {p : List Nat} {e : Nat} {t : Ty} {ct : CT} (h : ∃ b cap kids, ct = .node b cap kids) (x y : Nat × Nat) :
    addrOf (i :: p) (.list e t) ct x = addrOf (i :: p) (.list e t) ct y := by
  obtain ⟨b, cap, kids, rfl⟩ := h; rfl

/-- The place that a name of a place means. -/
theorem RelAt.place (R : RelAt w0 S0 N dr pc s a w S pl) {r : Nat} {rt : RT} (hr : s.root r = some rt) {i : Nat} {p : List Nat} (hok : okS (i :: p) rt.ty rt.x (rt.k + 1)) (hc : hclear (i :: p) rt.h = true) :
    ∃ b o cs F' h', addrP (pl r) rt (i :: p) = .pointer (some ⟨b, o, none⟩) ∧ Loc w b o cs ∧
      Own w S (rt.at (i :: p)).t (dep (i :: p) rt.ty (rt.k + 1)) (rt.at (i :: p)).x h' (atCT (i :: p) rt.ty (pl r).ct) cs F' ∧ (∀ n, F' n → (pl r).F n) ∧ h' ≠ some [] ∧ (rt.h = none → h' = none) ∧ (pl r).F b := by
  obtain ⟨hv, H⟩ := R.own r rt hr
  have hnode : ∃ b cap kids, (pl r).ct = .node b cap kids := by
    have hne : rt.h ≠ some [] := by intro e; rw [e] at hc; simp [hclear] at hc
    rcases H with H | ⟨_, H⟩
    · exact absurd H.1 hne
    · generalize (pl r).ct = c at *
      cases c with
      | nil => rw [H.1] at hok; simp [okS] at hok
      | leaf => exact H.elim
      | pair => exact H.elim
      | node b cap kids => exact ⟨_, _, _, rfl⟩
  have hb := addr_base (i := i) (p := p) (e := rt.e) (t := rt.t) hnode
  obtain ⟨cs', F', h', e1, e2, e3, e4, e5, e6⟩ := nodeAt (i :: p) rt.ty (rt.k + 1) rt.x rt.h (pl r).ct [hv] (pl r).F ((addrOf (i :: p) rt.ty (pl r).ct (0, 0)).1 + 1) 0 H hok hc (.inl ⟨_, _, _, _, rfl, rfl⟩)
  have hb' : addrOf (i :: p) rt.ty (pl r).ct ((addrOf (i :: p) rt.ty (pl r).ct (0, 0)).1 + 1, 0) = addrOf (i :: p) rt.ty (pl r).ct (0, 0) := hb _ _
  rw [hb'] at e1 e6
  refine ⟨_, _, cs', F', h', rfl, e1, e2, e3, e4, e5, ?_⟩
  rcases e6 with e6 | e6
  · omega
  · exact e6

/-- Owned with no slices of its own: stable. -/
theorem Own.stable {t : Ty} {k : Nat} {x : t.den} {ct : CT} {cs : List Value} {F : Nat → Prop} (h : t.flat = true ∨ k = 0) (H : Own w S t k x none ct cs F) :
    RO w S t x cs ∧ ∀ n, ¬ F n := by
  have hF : ∀ n, ¬ F n := by
    induction t generalizing ct cs F with
    | int | bool | str | raw => exact H.1
    | list e t _ =>
      rcases h with h | rfl
      · simp [Ty.flat] at h
      · rcases H with H | ⟨_, H⟩
        · simp at H
        · exact H.2.2
    | prod a b iha ihb =>
      rcases H with H | ⟨_, H⟩
      · exact H.2.2
      · cases ct with
        | pair c d =>
          obtain ⟨c1, c2, F1, F2, h1, g1, g2, g3, g4⟩ := H
          intro n hn
          have ha : a.flat = true ∨ k = 0 := by rcases h with h | h; simp [Ty.flat] at h; exact .inl h.1; exact .inr h
          have hb : b.flat = true ∨ k = 0 := by rcases h with h | h; simp [Ty.flat] at h; exact .inl h.2; exact .inr h
          rcases (g1 n).1 hn with h1 | h1
          · exact iha (by simpa using ha) (by simpa using g3) n h1
          · exact ihb (by simpa using hb) (by simpa using g4) n h1
        | nil => exact H.elim
        | leaf => exact H.elim
        | node => exact H.elim
  exact ⟨H.freeze (fun b hb => hb) fun b hb => absurd hb (hF b), hF⟩

theorem Own.unhole {t : Ty} {k : Nat} {x : t.den} {h : Option (List Nat)} {ct : CT} {cs : List Value} {F : Nat → Prop} (ht : t.flat = true) (hh : h = none) (H : Own w S t k x h ct cs F) : RO w S t x cs := by
  subst hh; exact (H.stable (.inl ht)).1

/-! ### Loads -/

def qOf : AV → Option Nat
  | .ptr r _ => some r
  | _ => none

def ldPtr (t' : Ty) (rt : RT) (r : Nat) (p : List Nat) : Option PF :=
  if (rt.at p).t = t' ∧ hclear p rt.h = true then
    if t'.flat = true then (if rt.h = none then some (PF.of (okS p rt.ty rt.x (rt.k + 1)) (.dat (rt.at p).t (rt.at p).x)) else none)
    else if dep p rt.ty (rt.k + 1) = 0 then (if rt.h = none then some (PF.of (okS p rt.ty rt.x (rt.k + 1)) (.dat (rt.at p).t (rt.at p).x)) else none)
    else match t' with
      | .list _ _ => some (PF.of (okS p rt.ty rt.x (rt.k + 1)) (.ref r p))
      | _ => none
  else none

def ldAV (tt : List (Nat × TE)) (s : XS) (T : Nat) (x : AV) : Option PF :=
  match (lk tt T).bind TE.ty with
  | some t' => match x with
    | .rptr t y => if t = t' then some (PF.of True (.dat t y)) else none
    | .ptr r (i :: p) => match s.root r with
      | some rt => ldPtr t' rt r (i :: p)
      | none => none
    | _ => none
  | none => none

theorem tt_ok (htt : ttB P tt = true) {T : Nat} {t : Ty} (h : (lk tt T).bind TE.ty = some t) : TOK P T t := by
  cases hl : lk tt T with
  | none => rw [hl] at h; cases h
  | some te => rw [hl] at h; exact te_ok (ttB_get htt hl) h

theorem cells_range {b o : Nat} {arr : Array Value} {E : Nat} {fr : Nat × Nat} {n : Nat} (h : w.heap[b]? = some (.cells arr E fr)) (hn : o + n ≤ arr.size) : w.rangeAt b o (cellsAt arr o n) := by
  intro j v hv
  have hj : j < n := by have := (List.getElem?_eq_some_iff.1 hv).1; rw [length_cellsAt hn] at this; exact this
  simp only [World.cell?, h]
  simp only [cellsAt, List.getElem?_take, List.getElem?_drop] at hv
  rw [if_pos hj] at hv
  simpa using hv

theorem range_frame {b o : Nat} {cs : List Value} (h : w.rangeAt b o cs) (hb : w'.heap[b]? = w.heap[b]?) : w'.rangeAt b o cs := by
  intro j v hv
  have := h j v hv
  simp only [World.cell?] at this ⊢
  rw [hb]; exact this

theorem ldAV_ok (htt : ttB P tt = true) (R : RelAt w0 S0 N dr pc s a w S pl) {T : Nat} {x : AV} {vx : Value} {pf : PF} (hx : AVR w S s.rts pl x vx) (hl : x.lt s.nxt)
    (h : ldAV tt s T x = some pf) (hpre : pf.pre) :
    ∃ v b, (∀ w', w'.heap[b]? = w.heap[b]? → (Instr.loadAt T vx).run P w' = .ok v w') ∧ AVR w S s.rts pl pf.av v ∧ pf.av.lt s.nxt ∧ b < w.heap.size ∧
      ∀ r rt, s.root r = some rt → (pl r).F b → qOf x = some r := by
  unfold ldAV at h
  cases ht : (lk tt T).bind TE.ty with
  | none => rw [ht] at h; cases h
  | some t' =>
    rw [ht] at h
    have hT := tt_ok htt ht
    cases x with
    | rptr t y =>
      simp only at h
      split at h
      · rename_i e; subst e
        cases h
        obtain ⟨b, o, arr, E, fr, rfl, h2, h3, h4, h5⟩ := hx
        refine ⟨_, b, fun w' hw' => run_load_range hT (range_frame (cells_range h3 h4) hw') (length_cellsAt h4), ⟨_, rfl, h5⟩, AV.lt_dat, R.lt b h2, fun r rt hr hF => absurd h2 (R.Flt r rt b hr hF).2⟩
      · cases h
    | ptr r p =>
      cases p with
      | nil => cases h
      | cons i p =>
        simp only at h
        cases hr : s.root r with
        | none => rw [hr] at h; cases h
        | some rt =>
          rw [hr] at h
          simp only [ldPtr] at h
          split at h
          · rename_i hc
            obtain ⟨hc1, hc2⟩ := hc
            have hvx : vx = addrP (pl r) rt (i :: p) := hx rt hr
            have hrlt : r < s.nxt := R.ids r rt hr
            have main : ∀ (hok : okS (i :: p) rt.ty rt.x (rt.k + 1)) (av : AV), (∀ b o cs F' h', Loc w b o cs → Own w S (rt.at (i :: p)).t (dep (i :: p) rt.ty (rt.k + 1)) (rt.at (i :: p)).x h' (atCT (i :: p) rt.ty (pl r).ct) cs F' →
                h' ≠ some [] → (rt.h = none → h' = none) → AVR w S s.rts pl av (pack t' cs) ∧ av.lt s.nxt) →
                ∃ v b, (∀ w', w'.heap[b]? = w.heap[b]? → (Instr.loadAt T vx).run P w' = .ok v w') ∧ AVR w S s.rts pl av v ∧ av.lt s.nxt ∧ b < w.heap.size ∧
                  ∀ r' rt', s.root r' = some rt' → (pl r').F b → qOf (.ptr r (i :: p)) = some r' := by
              intro hok av hav
              obtain ⟨b, o, cs, F', h', e1, e2, e3, e4, e5, e6, e7⟩ := R.place hr hok hc2
              obtain ⟨q1, q2⟩ := hav b o cs F' h' e2 e3 e5 e6
              rw [hvx, e1]
              refine ⟨_, b, fun w' hw' => run_load_range hT (range_frame e2.range hw') ?_, q1, q2, (R.Flt r rt b hr e7).1, fun r' rt' hr' hF => ?_⟩
              · rw [← hc1]; exact e3.length
              · simp only [qOf, Option.some.injEq]
                exact R.disj r r' rt rt' b hr hr' e7 hF
            split at h
            · rename_i hflat
              split at h
              · rename_i hh
                cases h
                refine main hpre _ fun b o cs F' h' e2 e3 e5 e6 => ⟨⟨cs, by rw [hc1], ?_⟩, AV.lt_dat⟩
                exact e3.unhole (by rw [hc1]; exact hflat) (e6 hh)
              · cases h
            · split at h
              · rename_i hdep
                split at h
                · rename_i hh
                  cases h
                  refine main hpre _ fun b o cs F' h' e2 e3 e5 e6 => ⟨⟨cs, by rw [hc1], ?_⟩, AV.lt_dat⟩
                  rw [e6 hh] at e3
                  exact (e3.stable (.inr hdep)).1
                · cases h
              · rename_i hdep
                split at h
                · rename_i e t hfl
                  cases h
                  refine main hpre _ fun b o cs F' h' e2 e3 e5 e6 => ⟨fun rt1 hrt1 => ?_, AV.lt_ref hrlt⟩
                  have : rt1 = rt := by have := hr.symm.trans (show s.root r = some rt1 from hrt1); exact (Option.some.inj this).symm
                  subst this
                  obtain ⟨k, hk⟩ : ∃ k, dep (i :: p) rt1.ty (rt1.k + 1) = k + 1 := ⟨_, (Nat.succ_pred_eq_of_pos (Nat.pos_of_ne_zero hdep)).symm⟩
                  rw [hk] at e3
                  generalize rt1.at (i :: p) = tv at *
                  obtain ⟨tv, x⟩ := tv
                  simp only at hc1
                  subst hc1
                  obtain ⟨v, rfl, hv⟩ := pack_one (t := .list e t) rfl (cs := cs) (by have := e3.length; exact this)
                  rw [hv]
                  exact (e3.hdr e5).1
                · cases h
          · cases h
    | dat => cases h
    | ref => cases h
    | sub => cases h
    | clo => cases h
    | tup => cases h
    | agg => cases h
    | junk => cases h

end
end Fer
