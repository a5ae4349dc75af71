/- Slice literals, boxes, structs out of parts. Over any program. -/
import Derived.Test.YtbahdhedegpbbaaFerO
namespace Fer
open Go

def XS.took (s : XS) (q : Nat) (rt : RT) : XS := ((s.also q s.nxt).kill q).addRoot rt

def isNil : AV → Bool
  | .dat .raw (.slice none 0 0) => true
  | _ => false

def bsAV (tt : List (Nat × TE)) (s : XS) (T len : Nat) (parts : List (Nat × Operand)) : Option MF :=
  match lk tt T with
  | some (.slice e t _) =>
    if len = 0 then (if parts.length = 0 then some ⟨True, True, .ref s.nxt [], s.addRoot ⟨e, t, t.lev, [], none⟩, []⟩ else none)
    else if parts.length = len ∧ len * t.width ≤ 16777216 then
      match t, parts.map (fun x => (x.1, s.ev x.2)) with
      | .list e' t', [(0, some (.ref q []))] => match s.root q with
        | some qt => if qt.h = none ∧ qt.e = e' ∧ qt.t = t' then some ⟨True, True, .ref s.nxt [], s.took q ⟨e, qt.ty, qt.k + 1, [qt.x], none⟩, []⟩ else none
        | none => none
      | .list e' t', [(0, some (.dat .raw v))] => if isNil (.dat .raw v) = true then some ⟨True, True, .ref s.nxt [], s.addRoot ⟨e, .list e' t', (Ty.list e' t').lev, [[]], none⟩, []⟩ else none
      | t, _ => match datsOf s t 0 parts with
        | some l => some ⟨True, True, .ref s.nxt [], s.addRoot ⟨e, t, 0, l, none⟩, []⟩
        | none => none
    else none
  | _ => none

section
variable {P : Program} {tt : List (Nat × TE)} {w0 : World} {S0 : Nat → Prop} {N : Nat} {dr : Bool} {pc : Pins} {s : XS} {a : Act} {w w' : World} {S : Nat → Prop} {pl : Nat → PL}

theorem datOf_ok {t : Ty} {av : AV} {rts : List (Nat × RT)} {v : Value} {x : t.den} (h : datOf t av = some x) (hv : AVR w S rts pl av v) : ∃ cs, v = pack t cs ∧ RO w S t x cs := by
  unfold datOf at h
  split at h
  · rename_i t' v' 
    split at h
    · rename_i u
      split at h
      · rename_i e t' _
        cases h
        obtain ⟨rfl, _⟩ := AVR.raw hv
        exact ⟨[.slice none 0 0], rfl, none, 0, rfl, Nat.le_refl _, Nat.zero_le _, fun h => absurd rfl h⟩
      · cases h
    · obtain ⟨rfl, rfl⟩ := castV_eq h
      exact hv
  · cases h

theorem datsOf_ok (R : RelAt w0 S0 N dr pc s a w S pl) {t : Ty} : ∀ (parts : List (Nat × Operand)) (n : Nat) (l : List t.den), datsOf s t n parts = some l →
    ∃ vs : List Value, (parts.map fun x => (x.1, a.eval x.2)) = (vs.zipIdx n).map (fun x => (x.2, x.1)) ∧ vs.length = l.length ∧
      ∀ i v, vs[i]? = some v → v.cells.toList.length = t.width ∧ RO w S t (l.getD i t.dflt) v.cells.toList
  | [], n, l, h => by
    simp only [datsOf, Option.some.injEq] at h
    subst h
    exact ⟨[], rfl, rfl, by simp⟩
  | (i, x) :: parts, n, l, h => by
    simp only [datsOf] at h
    split at h
    · rename_i e
      subst e
      obtain ⟨u, m, h1, h2, h3⟩ := opt2_some h
      cases hd : datOf t u with
      | none => rw [hd] at h3; cases h3
      | some y =>
        rw [hd] at h3
        simp only [Option.map_some, Option.some.injEq] at h3
        subst h3
        obtain ⟨vs, e1, e2, e3⟩ := datsOf_ok R parts (i + 1) m h2
        obtain ⟨cs, hcs, hro⟩ := datOf_ok hd (R.ev h1).1
        have hc : (a.eval x).cells.toList = cs := by rw [hcs]; exact pack_cells hro.length hro.oneCell
        refine ⟨a.eval x :: vs, by simp [e1, List.zipIdx_cons], by simp [e2], fun j v hj => ?_⟩
        cases j with
        | zero =>
          simp only [List.getElem?_cons_zero, Option.some.injEq] at hj
          subst hj
          rw [hc]; exact ⟨hro.length, hro⟩
        | succ j =>
          simp only [List.getElem?_cons_succ] at hj
          exact e3 j v hj
    · cases h

theorem flat_chunk {vs : List Value} {n i : Nat} {v : Value} (hn : 0 < n) (h : ∀ v ∈ vs, v.cells.size = n) (hi : vs[i]? = some v) :
    cellsAt (vs.flatMap fun v => v.cells.toList).toArray (i * n) n = v.cells.toList := by
  have hvs : v.cells.size = n := h v (List.mem_of_getElem? hi)
  apply List.ext_getElem?
  intro j
  simp only [cellsAt, List.getElem?_take, List.getElem?_drop]
  by_cases hj : j < n
  · rw [if_pos hj, Great.flat_get hn vs h]
    have h1 : (i * n + j) / n = i := by rw [Nat.add_comm, Nat.add_mul_div_right _ _ hn, Nat.div_eq_of_lt hj]; simp
    have h2 : (i * n + j) % n = j := by rw [Nat.add_comm, Nat.add_mul_mod_self_right, Nat.mod_eq_of_lt hj]
    rw [h1, h2, hi]
    simp
  · rw [if_neg hj, List.getElem?_eq_none (by simpa [hvs] using hj)]

theorem flat_size {n : Nat} : ∀ {vs : List Value}, (∀ v ∈ vs, v.cells.size = n) → (vs.flatMap fun v => v.cells.toList).length = vs.length * n
  | [], _ => by simp
  | v :: vs, h => by
    have h1 : v.cells.toList.length = n := by simpa using h v (by simp)
    rw [List.flatMap_cons, List.length_append, flat_size fun u hu => h u (by simp [hu]), h1, List.length_cons, Nat.add_mul, Nat.one_mul, Nat.add_comm]

theorem run_bs {T e : Nat} {t : Ty} {b len : Nat} (hB : teB P T (.slice e t b) = true) (h0 : len ≠ 0) (hle : len * t.width ≤ 16777216) {parts : Array (Nat × Value)} {vs : List Value} (hp : parts.toList = (vs.zipIdx 0).map fun x => (x.2, x.1))
    (hl : vs.length = len) (hs : ∀ v ∈ vs, v.cells.size = t.width) :
    (Instr.buildSlice T len parts).run P w = .ok (.slice (some ⟨w.heap.size, 0, none⟩) len len) (w.alloc (.cells (vs.flatMap fun v => v.cells.toList).toArray e)) := by
  obtain ⟨hT, hinf, ⟨inf, hi, hsz, hby⟩, _, _⟩ := slice_te hB
  obtain ⟨inf', z, hi', hsz', hz, hzl, _⟩ := hinf.info
  rw [hi] at hi'; cases hi'
  have hpos := t.width_pos
  refine run_buildSlice w T e len parts _ inf z hT hi hz (by rw [hsz]; omega) (by rw [hsz]; exact Nat.mul_ne_zero h0 (by omega)) ?_
  rw [hp, hsz]
  exact Great.fill_whole hpos vs _ hs (by simp [hl])

theorem run_bs0 {T e : Nat} {t : Ty} {b : Nat} (hB : teB P T (.slice e t b) = true) :
    (Instr.buildSlice T 0 #[]).run P w = .ok (.slice (some ⟨w.heap.size, 0, none⟩) 0 0) (w.alloc (.cells #[] e)) := by
  obtain ⟨hT, hinf, ⟨inf, hi, hsz, hby⟩, _, _⟩ := slice_te hB
  have e0 : Array.map (fun x : Nat => (default : Value)) (Array.range 0) = #[] := by simp
  simp [Instr.buildSlice, run_underlying hT, Go.sizeOf, typeInfo, hi, Instr.fill, newRow, e0]

/-- Root q goes into a new block. -/
theorem RelAt.tookRow (R : RelAt w0 S0 N dr pc s a w S pl) {q : Nat} {qt : RT} (hq : s.root q = some qt) (hh : qt.h = none) {v : Value} (hv : AVR w S s.rts pl (.ref q []) v) (E : Nat) :
    ∃ pl', RelAt w0 S0 N dr pc (s.took q ⟨E, qt.ty, qt.k + 1, [qt.x], none⟩) a (w.alloc (.cells v.cells E)) S pl' ∧ v.cells.size = 1 ∧
      AVR (w.alloc (.cells v.cells E)) S (s.took q ⟨E, qt.ty, qt.k + 1, [qt.x], none⟩).rts pl' (.ref s.nxt []) (.slice (some ⟨w.heap.size, 0, none⟩) 1 1) ∧
      AVR (w.alloc (.cells v.cells E)) S (s.took q ⟨E, qt.ty, qt.k + 1, [qt.x], none⟩).rts pl' (.ptr s.nxt [0]) (.pointer (some ⟨w.heap.size, 0, none⟩)) := by
  obtain ⟨hv', H⟩ := R.own q qt hq
  rw [hh] at H
  have hvv : v = hv' := by
    have h1 : v = hdr (atCT [] qt.ty (pl q).ct) (qt.at []).len := hv qt hq
    rw [h1]; exact (H.hdr (by simp)).1.symm
  subst hvv
  have hk : ∀ r2 rt2, ((s.also q s.nxt).kill q).root r2 = some rt2 → r2 ≠ q ∧ s.root r2 = some rt2 := fun r2 rt2 h => lk_rm_some h
  have hslice : ∃ ad l c, v = .slice ad l c := by
    have := (H.hdr (by simp)).1
    rw [this]
    cases (pl q).ct <;> exact ⟨_, _, _, rfl⟩
  obtain ⟨ad, l, c, rfl⟩ := hslice
  obtain ⟨pl', R', r1, r2⟩ := ((R.also q s.nxt).kill q).newRow (E := E) (t := qt.ty) (k := qt.k + 1) (l := [qt.x]) (cells := (Value.slice ad l c).cells) (cap := 1) (kids := fun _ => (pl q).ct) (Fs := fun _ => (pl q).F)
    (by rfl) (Nat.le_refl 1) (by simp [maxLen]) (fun i hi => by
      have hi' : i = 0 := Nat.lt_one_iff.1 hi
      subst hi'
      exact H) (fun i j n hi hj _ _ => (Nat.lt_one_iff.1 hi).trans (Nat.lt_one_iff.1 hj).symm)
    (fun i n hi hn => ⟨(R.Flt q qt n hq hn).1, (R.Flt q qt n hq hn).2, fun r2 rt2 h2 h3 => (hk r2 rt2 h2).1 (R.disj r2 q rt2 qt n (hk r2 rt2 h2).2 hq h3 hn), fun hdd j hj => by
      obtain ⟨q1, h1, _, h3⟩ := R.pins hdd j n hj
      have := h3 q qt hq hn
      subst this
      exact mem_pinAlso_new h1⟩)
  exact ⟨pl', R', rfl, r1, r2⟩

theorem bsAV_ok (htt : ttB P tt = true) (R : RelAt w0 S0 N dr pc s a w S pl) {T len : Nat} {parts : Array (Nat × Operand)} {mf : MF} (h : bsAV tt s T len parts.toList = some mf) :
    MFok w0 S0 N dr pc s a w pl mf ((Instr.buildSlice T len (parts.map fun (i, x) => (i, a.eval x))).run P w) := by
  have hmap : (parts.map fun (i, x) => (i, a.eval x)).toList = parts.toList.map fun x => (x.1, a.eval x.2) := by simp
  unfold bsAV at h
  split at h
  · rename_i e t b hte
    have hB := ttB_get htt hte
    split at h
    · rename_i h0
      subst h0
      split at h
      · rename_i hp
        cases h
        have hnil : (parts.map fun (i, x) => (i, a.eval x)) = #[] := by
          have : parts = #[] := Array.eq_empty_of_size_eq_zero hp
          subst this; simp
        obtain ⟨pl', R', r1, _⟩ := R.newRow (E := e) (t := t) (k := t.lev) (l := []) (cells := #[]) (cap := 0) (kids := fun _ => .leaf) (Fs := fun _ => noF) (by simp) (by simp) (by simp) (by simp) (by simp) (by simp)
        rw [hnil]
        exact ⟨_, _, S, pl', run_bs0 hB, R', r1, AV.lt_ref (Nat.lt_succ_self _), trivial, fun n hn _ => (Grew.alloc w _ _).old n hn⟩
      · cases h
    · rename_i h0
      split at h
      · rename_i hlen
        have gen : ∀ (vs : List Value) (l : List t.den) (k : Nat) (kids : Nat → CT), parts.toList.map (fun x => (x.1, a.eval x.2)) = (vs.zipIdx 0).map (fun x => (x.2, x.1)) → vs.length = l.length → (∀ v ∈ vs, v.cells.size = t.width) →
            (∀ i v, vs[i]? = some v → Own w S t k (l.getD i t.dflt) none (kids i) v.cells.toList noF) →
            MFok w0 S0 N dr pc s a w pl ⟨True, True, .ref s.nxt [], s.addRoot ⟨e, t, k, l, none⟩, []⟩ ((Instr.buildSlice T len (parts.map fun (i, x) => (i, a.eval x))).run P w) := by
          intro vs l k kids e1 e2 e4 e3
          have hvl : vs.length = len := by
            have := congrArg List.length e1
            simp only [List.length_map, List.length_zipIdx] at this
            rw [← this]; exact hlen.1
          have hr := run_bs (P := P) (w := w) hB h0 hlen.2 (parts := parts.map fun (i, x) => (i, a.eval x)) (vs := vs) (by rw [hmap, e1]) hvl e4
          have hlm : len ≤ maxLen := by
            have : len * 1 ≤ len * t.width := Nat.mul_le_mul_left _ t.width_pos
            simp only [maxLen]; omega
          obtain ⟨pl', R', r1, _⟩ := R.newRow (E := e) (t := t) (k := k) (l := l) (cells := (vs.flatMap fun v => v.cells.toList).toArray) (cap := len) (kids := kids) (Fs := fun _ => noF)
            (by rw [← hvl]; simpa using flat_size e4) (by omega) hlm
            (fun i hi => by
              have hi' : i < vs.length := by omega
              have hv : vs[i]? = some vs[i] := List.getElem?_eq_getElem hi'
              rw [flat_chunk t.width_pos e4 hv]
              exact e3 i _ hv) (fun _ _ _ _ _ h => h.elim) (fun _ _ _ h => h.elim)
          refine ⟨_, _, S, pl', hr, R', ?_, AV.lt_ref (Nat.lt_succ_self _), trivial, fun n hn _ => (Grew.alloc w _ _).old n hn⟩
          rw [← e2, hvl] at r1
          exact r1
        have gen0 : ∀ l : List t.den, datsOf s t 0 parts.toList = some l → MFok w0 S0 N dr pc s a w pl ⟨True, True, .ref s.nxt [], s.addRoot ⟨e, t, 0, l, none⟩, []⟩ ((Instr.buildSlice T len (parts.map fun (i, x) => (i, a.eval x))).run P w) := by
          intro l hl
          obtain ⟨vs, e1, e2, e3⟩ := datsOf_ok R parts.toList 0 l hl
          exact gen vs l 0 (fun _ => CT.of t) e1 e2 (fun v hv => by obtain ⟨i, hi⟩ := List.mem_iff_getElem?.1 hv; simpa using (e3 i v hi).1) fun i v hi => (e3 i v hi).2.own (.inr rfl)
        have one : ∀ (n : Nat) (u : AV), parts.toList.map (fun x => (x.1, s.ev x.2)) = [(n, some u)] → ∃ x, parts.toList = [(n, x)] ∧ s.ev x = some u := by
          intro n u hm
          cases hpp : parts.toList with
          | nil => rw [hpp] at hm; simp at hm
          | cons y rest =>
            obtain ⟨n', x⟩ := y
            rw [hpp] at hm
            simp only [List.map_cons, List.cons.injEq, Prod.mk.injEq, List.map_eq_nil_iff] at hm
            obtain ⟨⟨rfl, h2⟩, rfl⟩ := hm
            exact ⟨x, rfl, h2⟩
        split at h
        · rename_i e' t' q hm
          obtain ⟨x, hp, hx⟩ := one _ _ hm
          split at h
          · rename_i qt hq
            split at h
            · rename_i hc
              cases h
              obtain ⟨rfl, rfl⟩ := hc.2
              have hlen1 : len = 1 := by rw [← hlen.1, hp]; rfl
              subst hlen1
              obtain ⟨pl', R', hsz, r1, _⟩ := R.tookRow hq hc.1 (R.ev hx).1 e
              have hr := run_bs (P := P) (w := w) hB h0 hlen.2 (parts := parts.map fun (i, x) => (i, a.eval x)) (vs := [a.eval x]) (by rw [hmap, hp]; rfl) rfl (by simpa [Ty.width] using hsz)
              have hcells : (List.flatMap (fun v : Value => v.cells.toList) [a.eval x]).toArray = (a.eval x).cells := by simp
              rw [hcells] at hr
              exact ⟨_, _, S, pl', hr, R', r1, AV.lt_ref (Nat.lt_succ_self _), trivial, fun n hn _ => (Grew.alloc w _ _).old n hn⟩
            · cases h
          · cases h
        · rename_i e' t' v hm
          obtain ⟨x, hp, hx⟩ := one _ _ hm
          split at h
          · rename_i hnil
            cases h
            obtain ⟨hav, _⟩ := AVR.raw (R.ev hx).1
            have hv : v = .slice none 0 0 := by
              unfold isNil at hnil
              split at hnil
              · rename_i h; simp at h; exact h
              · cases hnil
            subst hv
            refine gen [a.eval x] [[]] _ (fun _ => .nil) (by rw [hp]; rfl) rfl (by rw [hav]; simp [Value.cells, Ty.width]) fun i v hi => ?_
            cases i with
            | zero =>
              simp only [List.getElem?_cons_zero, Option.some.injEq] at hi
              subst hi
              rw [hav]
              exact own_nil
            | succ i => simp at hi
          · cases h
        · split at h
          · rename_i l hl
            cases h
            exact gen0 l hl
          · cases h
      · cases h
  · cases h

end
end Fer
