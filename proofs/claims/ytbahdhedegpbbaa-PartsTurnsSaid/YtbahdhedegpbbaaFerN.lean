/- State-level: stores. Over any program. -/
import Derived.Test.YtbahdhedegpbbaaFerM
namespace Fer
open Go

theorem rm_rm {α : Type} (j : Nat) : ∀ l : List (Nat × α), rm (rm l j) j = rm l j
  | [] => rfl
  | (i, x) :: l => by
    simp only [rm]
    by_cases h : i = j
    · rw [if_pos h]; exact rm_rm j l
    · rw [if_neg h]; simp only [rm]; rw [if_neg h, rm_rm j l]

def XS.wrote (s : XS) (r : Nat) (rt : RT) (p : List Nat) (y : TV) : XS := { s.setRoot r (rt.wr p y) with env := cutEnv r (safeR rt.ty p) (safeP rt.ty p) s.env }

section
variable {P : Program} {tt : List (Nat × TE)} {w0 : World} {S0 : Nat → Prop} {N : Nat} {dr : Bool} {pc : Pins} {s : XS} {a : Act} {w w' : World} {S : Nat → Prop} {pl : Nat → PL}

theorem RelAt.write (R : RelAt w0 S0 N dr pc s a w S pl) {r : Nat} {rt : RT} (hr : s.root r = some rt) {i : Nat} {p : List Nat} (hh : rt.h = none ∨ rt.h = some (i :: p)) (hok : okS (i :: p) rt.ty rt.x (rt.k + 1))
    {y : TV} {ct' : CT} {cs' : List Value} {F' : Nat → Prop} (Hy : Own w S y.t (dep (i :: p) rt.ty (rt.k + 1)) y.x none ct' cs' F') (hyt : y.t = (rt.at (i :: p)).t)
    (hF' : ∀ b, F' b → b < w.heap.size ∧ ¬ S b ∧ (∀ r2 rt2, s.root r2 = some rt2 → ¬ (pl r2).F b) ∧ (dr = true → ∀ i, pc i b → (i, some r) ∈ s.pins)) :
    ∃ b o arr E, addrP (pl r) rt (i :: p) = .pointer (some ⟨b, o, none⟩) ∧ w.heap[b]? = some (.cells arr E (0, 0)) ∧ o + cs'.length ≤ arr.size ∧ (pl r).F b ∧
      ∃ pl', RelAt w0 S0 N dr pc (s.wrote r rt (i :: p) y) a (w.setRow b (spl arr o cs')) S pl' := by
  rcases hh with hh | hh
  · obtain ⟨b1, o1, cs1, F1, pl1, e1, e2, e3, R1, hct, hsub, hF⟩ := R.punch hr hh hok
    have hr1 : (s.setRoot r (rt.cut (i :: p))).root r = some (rt.cut (i :: p)) := by simp [XS.root, XS.setRoot, lk]
    obtain ⟨b, o, arr, E, q1, q2, q3, q4, pl', R2⟩ := R1.fill hr1 (i := i) (p := p) rfl hok Hy hyt (fun n hn => by
      obtain ⟨g1, g2, g3, g4⟩ := hF' n hn
      refine ⟨g1, g2, fun r2 rt2 h2 h3 => ?_, g4⟩
      simp only [XS.root, XS.setRoot, lk] at h2
      by_cases e : r = r2
      · subst e; exact g3 r rt hr (hsub _ n h3)
      · rw [if_neg e] at h2; exact g3 r2 rt2 (lk_rm_some h2).2 (hsub _ n h3))
    have hadr : addrP (pl1 r) (rt.cut (i :: p)) (i :: p) = addrP (pl r) rt (i :: p) := by
      simp only [addrP, hct]; rfl
    refine ⟨b, o, arr, E, hadr ▸ q1, q2, q3, hsub _ b q4, pl', ?_⟩
    have est : ({ (s.setRoot r (rt.cut (i :: p))).setRoot r ((rt.cut (i :: p)).wr (i :: p) y) with env := cutEnv r (safeR (rt.cut (i :: p)).ty (i :: p)) (safeP (rt.cut (i :: p)).ty (i :: p)) (s.setRoot r (rt.cut (i :: p))).env } : XS) = s.wrote r rt (i :: p) y := by
      simp only [XS.setRoot, XS.wrote, rm, if_true, rm_rm]; rfl
    rw [est] at R2
    exact R2
  · exact R.fill hr hh hok Hy hyt hF'

/-- A store: of what, the state behind. -/
def stAV (tt : List (Nat × TE)) (s : XS) (T : Nat) (x y : Option AV) : Option MF :=
  match (lk tt T).bind TE.ty, x, y with
  | some t', some (.ptr r (i :: p)), some y => match s.root r with
    | some rt =>
      if (rt.at (i :: p)).t = t' ∧ (rt.h = none ∨ rt.h = some (i :: p)) then
        match y with
        | .dat .raw v => match t', v with
          | .list e t, .slice none 0 0 => if dep (i :: p) rt.ty (rt.k + 1) ≠ 0 then some ⟨okS (i :: p) rt.ty rt.x (rt.k + 1), True, .junk, s.wrote r rt (i :: p) ⟨.list e t, []⟩, [r]⟩ else none
          | _, _ => none
        | .dat t v => if t = t' ∧ (t.flat = true ∨ dep (i :: p) rt.ty (rt.k + 1) = 0) then some ⟨okS (i :: p) rt.ty rt.x (rt.k + 1), True, .junk, s.wrote r rt (i :: p) ⟨t, v⟩, [r]⟩ else none
        | .ref q [] => if q = r then none else match s.root q with
          | some qt => if qt.h = none ∧ qt.ty = t' ∧ dep (i :: p) rt.ty (rt.k + 1) = qt.k + 1 then
              some ⟨okS (i :: p) rt.ty rt.x (rt.k + 1), True, .junk, ((s.also q r).kill q).wrote r rt (i :: p) ⟨qt.ty, qt.x⟩, [r]⟩ else none
          | none => none
        | _ => none
      else none
    | none => none
  | _, _, _ => none

theorem stAV_ok (htt : ttB P tt = true) (R : RelAt w0 S0 N dr pc s a w S pl) {T : Nat} {x y : Option AV} {vx vy : Value} {mf : MF} (hx : ∀ u, x = some u → AVR w S s.rts pl u vx)
    (hy : ∀ u, y = some u → AVR w S s.rts pl u vy) (h : stAV tt s T x y = some mf) (hpre : mf.pre) :
    MFok w0 S0 N dr pc s a w pl mf (match (Instr.storeAt T vx vy).run P w with | .ok _ w' => .ok undef w' | .halt e w' => .halt e w') := by
  unfold stAV at h
  split at h
  · rename_i t' r i p y' hte
    have hT := tt_ok htt hte
    split at h
    · rename_i rt hr
      have hvx : vx = addrP (pl r) rt (i :: p) := hx _ rfl rt hr
      split at h
      · rename_i hc
        have go : ∀ (s1 : XS) (pl1 : Nat → PL) (R1 : RelAt w0 S0 N dr pc s1 a w S pl1) (hr1 : s1.root r = some rt) (hpl : pl1 r = pl r) (y : TV) (ct' : CT) (cs' : List Value) (F' : Nat → Prop), okS (i :: p) rt.ty rt.x (rt.k + 1) →
            Own w S y.t (dep (i :: p) rt.ty (rt.k + 1)) y.x none ct' cs' F' → y.t = t' → vy.cells.toList = cs' → (∀ u ∈ cs', u.oneCell' = true) →
            (∀ b, F' b → b < w.heap.size ∧ ¬ S b ∧ (∀ r2 rt2, s1.root r2 = some rt2 → ¬ (pl1 r2).F b) ∧ (dr = true → ∀ i, pc i b → (i, some r) ∈ s1.pins)) →
            MFok w0 S0 N dr pc s a w pl ⟨okS (i :: p) rt.ty rt.x (rt.k + 1), True, .junk, s1.wrote r rt (i :: p) y, [r]⟩ (match (Instr.storeAt T vx vy).run P w with | .ok _ w' => .ok undef w' | .halt e w' => .halt e w') := by
          intro s1 pl1 R1 hr1 hpl y ct' cs' F' hok Hy hyt hcells hone hF'
          obtain ⟨b, o, arr, E, q1, q2, q3, q4, pl', R2⟩ := R1.write hr1 hc.2 hok Hy (hyt.trans hc.1.symm) hF'
          have hrun : (Instr.storeAt T vx vy).run P w = .ok () (w.setRow b (spl arr o cs')) := by
            rw [hvx, ← hpl, q1]
            exact run_store_at hT q2 hcells (by rw [Hy.length, hyt]) q3 hone
          rw [hrun]
          refine ⟨undef, _, S, pl', rfl, R2, trivial, fun r hr => by simp [AV.ids] at hr, trivial, fun n hn h => setRow_other w b n _ fun e => ?_⟩
          subst e
          exact h r rt (by simp) hr (hpl ▸ q4)
        split at h
        · split at h
          · rename_i e t
            split at h
            · rename_i hd
              cases h
              obtain ⟨rfl, _⟩ := AVR.raw (hy _ rfl)
              obtain ⟨k, hk⟩ : ∃ k, dep (i :: p) rt.ty (rt.k + 1) = k + 1 := ⟨_, (Nat.succ_pred_eq_of_pos (Nat.pos_of_ne_zero hd)).symm⟩
              exact go s pl R hr rfl ⟨.list e t, []⟩ .nil [.slice none 0 0] noF hpre (by rw [hk]; exact own_nil) rfl rfl (by simp [Value.oneCell']) fun _ h => h.elim
            · cases h
          · cases h
        · rename_i t v _
          split at h
          · rename_i hd
            cases h
            obtain ⟨cs, rfl, hro⟩ := hy _ rfl
            exact go s pl R hr rfl ⟨t, v⟩ (CT.of t) cs noF hpre (hro.own hd.2) hd.1 (pack_cells hro.length hro.oneCell) hro.oneCell fun _ h => h.elim
          · cases h
        · rename_i q
          split at h
          · cases h
          · rename_i hqr
            split at h
            · rename_i qt hq
              split at h
              · rename_i hd
                cases h
                obtain ⟨hv, H⟩ := R.own q qt hq
                rw [hd.1] at H
                have hvv : vy = hv := by
                  have h1 : vy = hdr (atCT [] qt.ty (pl q).ct) (qt.at []).len := hy _ rfl qt hq
                  rw [h1]; exact (H.hdr (by simp)).1.symm
                subst hvv
                have hk : ∀ r2 rt2, ((s.also q r).kill q).root r2 = some rt2 → r2 ≠ q ∧ s.root r2 = some rt2 := fun r2 rt2 h => lk_rm_some h
                have hslice : ∃ ad l c, vy = .slice ad l c := by
                  have := (H.hdr (by simp)).1
                  rw [this]
                  cases (pl q).ct <;> exact ⟨_, _, _, rfl⟩
                obtain ⟨ad, l, c, rfl⟩ := hslice
                refine go ((s.also q r).kill q) pl ((R.also q r).kill q) (by simp only [XS.root, XS.kill, XS.also]; rw [lk_rm_ne (fun e => hqr e.symm)]; exact hr) rfl ⟨qt.ty, qt.x⟩ (pl q).ct [.slice ad l c] (pl q).F hpre (by rw [hd.2.2]; exact H) hd.2.1 rfl (by simp [Value.oneCell'])
                  fun n hn => ⟨(R.Flt q qt n hq hn).1, (R.Flt q qt n hq hn).2, fun r2 rt2 h2 h3 => (hk r2 rt2 h2).1 (R.disj r2 q rt2 qt n (hk r2 rt2 h2).2 hq h3 hn), fun hdd j hj => ?_⟩
                obtain ⟨q1, h1, _, h3⟩ := R.pins hdd j n hj
                have := h3 q qt hq hn
                subst this
                exact mem_pinAlso_new h1
              · cases h
            · cases h
        · cases h
      · cases h
    · cases h
  · cases h

end
end Fer
