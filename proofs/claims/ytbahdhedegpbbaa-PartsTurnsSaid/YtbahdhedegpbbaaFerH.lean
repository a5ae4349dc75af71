/- Roots: a new one, one gone, one turned. Over any program. -/
import Derived.Test.YtbahdhedegpbbaaFerG
namespace Fer
open Go

/-- Nothing that was there has turned. -/
structure Grew (w w' : World) : Prop where
  os : w'.os = w.os
  tape : w'.tape = w.tape
  output : SameOut w w'
  size : w.heap.size ≤ w'.heap.size
  old : ∀ b, b < w.heap.size → w'.heap[b]? = w.heap[b]?

theorem Grew.refl (w : World) : Grew w w := ⟨rfl, rfl, SameOut.refl w, Nat.le_refl _, fun _ _ => rfl⟩
theorem Grew.trans {a b c : World} (h : Grew a b) (k : Grew b c) : Grew a c :=
  ⟨k.os.trans h.os, k.tape.trans h.tape, k.output.trans h.output, Nat.le_trans h.size k.size, fun n hn => (k.old n (Nat.lt_of_lt_of_le hn h.size)).trans (h.old n hn)⟩
theorem Grew.alloc (w : World) (c : Array Value) (t : Nat) : Grew w (w.alloc (.cells c t)) :=
  ⟨rfl, rfl, ⟨rfl, fun a => RowKit.frozen?_alloc_cells w c t a⟩, by simp, fun b hb => RowKit.Below.heap_alloc w _ b hb⟩
theorem Grew.drew (w : World) : Grew w w.drew := ⟨rfl, rfl, ⟨rfl, fun _ => rfl⟩, Nat.le_refl _, fun _ _ => rfl⟩

def XS.addRoot (s : XS) (rt : RT) : XS := { s with rts := (s.nxt, rt) :: s.rts, nxt := s.nxt + 1 }
def XS.kill (s : XS) (r : Nat) : XS := { s with rts := rm s.rts r }
def XS.setRoot (s : XS) (r : Nat) (rt : RT) : XS := { s with rts := (r, rt) :: rm s.rts r }

section
variable {w0 : World} {S0 : Nat → Prop} {N : Nat} {dr : Bool} {pc : Pins} {s : XS} {a : Act} {w w' : World} {S : Nat → Prop} {pl : Nat → PL}

theorem AV.lt_mono {av : AV} {n m : Nat} (h : av.lt n) (hnm : n ≤ m) : av.lt m := by
  cases av with
  | tup l => exact fun a ha r hr => Nat.lt_of_lt_of_le (h a ha r hr) hnm
  | agg l => exact fun a ha r hr => Nat.lt_of_lt_of_le (h a ha r hr) hnm
  | _ => exact fun r hr => Nat.lt_of_lt_of_le (h r hr) hnm

/-- Memory has grown. -/
theorem RelAt.grown (R : RelAt w0 S0 N dr pc s a w S pl) (g : Grew w w') : RelAt w0 S0 N dr pc s a w' S pl where
  defers := R.defers
  size := R.size
  os := g.os.trans R.os
  tape := g.tape.trans R.tape
  output := g.output.trans R.output
  grow := Nat.le_trans R.grow g.size
  stay := fun b hb => (g.old b (R.lt b (R.base b hb))).trans (R.stay b hb)
  base := R.base
  lt := fun b hb => Nat.lt_of_lt_of_le (R.lt b hb) g.size
  own := fun r rt hr => by
    obtain ⟨hv, H⟩ := R.own r rt hr
    exact ⟨hv, H.frame (fun b hb => ⟨hb, g.old b (R.lt b hb)⟩) fun b hb => g.old b (R.Flt r rt b hr hb).1⟩
  Flt := fun r rt b hr hb => ⟨Nat.lt_of_lt_of_le (R.Flt r rt b hr hb).1 g.size, (R.Flt r rt b hr hb).2⟩
  disj := R.disj
  ids := R.ids
  env := fun i av h => ⟨(R.env i av h).1.frame (n := s.nxt) (fun b hb => ⟨hb, g.old b (R.lt b hb)⟩) (fun _ _ => .inr ⟨rfl, rfl⟩) (R.env i av h).2, (R.env i av h).2⟩
  pins := fun hd i b hp => by
    obtain ⟨q, h1, h2, h3⟩ := R.pins hd i b hp
    exact ⟨q, h1, Nat.lt_of_lt_of_le h2 g.size, h3⟩

/-- A new root, in new memory (or in none). -/
theorem RelAt.addRoot (R : RelAt w0 S0 N dr pc s a w S pl) (g : Grew w w') {rt : RT} {ct : CT} {F : Nat → Prop} {hv : Value}
    (H : Own w' S rt.ty (rt.k + 1) rt.x rt.h ct [hv] F)
    (hF : ∀ b, F b → b < w'.heap.size ∧ (w.heap.size ≤ b ∨ (¬ S b ∧ (∀ r2 rt2, s.root r2 = some rt2 → ¬ (pl r2).F b) ∧ (dr = true → ∀ i, pc i b → (i, some s.nxt) ∈ s.pins)))) :
    RelAt w0 S0 N dr pc (s.addRoot rt) a w' S (fun r => if r = s.nxt then ⟨ct, F⟩ else pl r) := by
  have G := R.grown g
  have hne : ∀ r rt', s.root r = some rt' → r ≠ s.nxt := fun r rt' h => Nat.ne_of_lt (R.ids r rt' h)
  have hroot : ∀ r rt', (s.addRoot rt).root r = some rt' → (r = s.nxt ∧ rt' = rt) ∨ (r ≠ s.nxt ∧ s.root r = some rt') := by
    intro r rt' h
    simp only [XS.root, XS.addRoot, lk] at h
    by_cases hr : s.nxt = r
    · rw [if_pos hr] at h; exact .inl ⟨hr.symm, (Option.some.inj h).symm⟩
    · rw [if_neg hr] at h; exact .inr ⟨fun e => hr e.symm, h⟩
  refine { defers := G.defers, size := G.size, os := G.os, tape := G.tape, output := G.output, grow := G.grow, stay := G.stay, base := G.base, lt := G.lt, own := ?_, Flt := ?_, disj := ?_, ids := ?_, env := ?_, pins := ?_ }
  · intro r rt' h
    rcases hroot r rt' h with ⟨rfl, rfl⟩ | ⟨h1, h2⟩
    · simp only [if_true]; exact ⟨hv, H⟩
    · simp only [if_neg h1]; exact G.own r rt' h2
  · intro r rt' b h hb
    rcases hroot r rt' h with ⟨rfl, rfl⟩ | ⟨h1, h2⟩
    · simp only [if_true] at hb
      refine ⟨(hF b hb).1, fun hS => ?_⟩
      rcases (hF b hb).2 with h' | h'
      · have := R.lt b hS; omega
      · exact h'.1 hS
    · simp only [if_neg h1] at hb; exact G.Flt r rt' b h2 hb
  · intro r r' rt1 rt2 b h h' hb hb'
    rcases hroot r rt1 h with ⟨rfl, rfl⟩ | ⟨h1, h2⟩
    · rcases hroot r' rt2 h' with ⟨rfl, rfl⟩ | ⟨h3, h4⟩
      · rfl
      · simp only [if_true] at hb
        simp only [if_neg h3] at hb'
        rcases (hF b hb).2 with q | q
        · have := (R.Flt r' rt2 b h4 hb').1
          omega
        · exact absurd hb' (q.2.1 r' rt2 h4)
    · rcases hroot r' rt2 h' with ⟨rfl, rfl⟩ | ⟨h3, h4⟩
      · simp only [if_true] at hb'
        simp only [if_neg h1] at hb
        rcases (hF b hb').2 with q | q
        · have := (R.Flt r rt1 b h2 hb).1
          omega
        · exact absurd hb (q.2.1 r rt1 h2)
      · simp only [if_neg h1] at hb
        simp only [if_neg h3] at hb'
        exact R.disj r r' rt1 rt2 b h2 h4 hb hb'
  · intro r rt' h
    rcases hroot r rt' h with ⟨rfl, rfl⟩ | ⟨h1, h2⟩
    · exact Nat.lt_succ_self _
    · exact Nat.lt_succ_of_lt (R.ids r rt' h2)
  · intro i av h
    obtain ⟨h1, h2⟩ := G.env i av h
    refine ⟨h1.frame (n := s.nxt) (fun b hb => ⟨hb, rfl⟩) (fun r hr => .inr ⟨?_, ?_⟩) h2, AV.lt_mono h2 (Nat.le_succ _)⟩
    · show lk ((s.nxt, rt) :: s.rts) r = _
      simp only [lk]; rw [if_neg (by omega)]
    · simp only [if_neg (Nat.ne_of_lt hr)]
  · intro hd i b hp
    obtain ⟨q, h1, h2, h3⟩ := R.pins hd i b hp
    by_cases hFb : F b
    · rcases (hF b hFb).2 with q1 | q1
      · omega
      · refine ⟨some s.nxt, q1.2.2 hd i hp, (hF b hFb).1, fun r rt' h hb => ?_⟩
        rcases hroot r rt' h with ⟨rfl, rfl⟩ | ⟨h4, h5⟩
        · rfl
        · simp only [if_neg h4] at hb; exact absurd hb (q1.2.1 r rt' h5)
    refine ⟨q, h1, Nat.lt_of_lt_of_le h2 g.size, fun r rt' h hb => ?_⟩
    rcases hroot r rt' h with ⟨rfl, rfl⟩ | ⟨h4, h5⟩
    · simp only [if_true] at hb; exact absurd hb hFb
    · simp only [if_neg h4] at hb; exact h3 r rt' h5 hb

/-- A root is let go. -/
theorem RelAt.kill (R : RelAt w0 S0 N dr pc s a w S pl) (r0 : Nat) : RelAt w0 S0 N dr pc (s.kill r0) a w S pl := by
  have hroot : ∀ r rt', (s.kill r0).root r = some rt' → r ≠ r0 ∧ s.root r = some rt' := fun r rt' h => lk_rm_some h
  refine { defers := R.defers, size := R.size, os := R.os, tape := R.tape, output := R.output, grow := R.grow, stay := R.stay, base := R.base, lt := R.lt, own := ?_, Flt := ?_, disj := ?_, ids := ?_, env := ?_, pins := ?_ }
  · exact fun r rt' h => R.own r rt' (hroot r rt' h).2
  · exact fun r rt' b h => R.Flt r rt' b (hroot r rt' h).2
  · exact fun r r' rt1 rt2 b h h' => R.disj r r' rt1 rt2 b (hroot _ _ h).2 (hroot _ _ h').2
  · exact fun r rt' h => R.ids r rt' (hroot r rt' h).2
  · intro i av h
    obtain ⟨h1, h2⟩ := R.env i av h
    refine ⟨h1.frame (n := s.nxt) (fun b hb => ⟨hb, rfl⟩) (fun r hr => ?_) h2, h2⟩
    by_cases e : r = r0
    · subst e; exact .inl (lk_rm_same _ _)
    · exact .inr ⟨lk_rm_ne e _, rfl⟩
  · intro hd i b hp
    obtain ⟨q, h1, h2, h3⟩ := R.pins hd i b hp
    exact ⟨q, h1, h2, fun r rt' h hb => h3 r rt' (hroot r rt' h).2 hb⟩

/-- More is stable. -/
theorem RelAt.widen (R : RelAt w0 S0 N dr pc s a w S pl) {S' : Nat → Prop} (hS : ∀ b, S b → S' b) (hlt : ∀ b, S' b → b < w.heap.size)
    (hF : ∀ r rt b, s.root r = some rt → (pl r).F b → ¬ S' b) : RelAt w0 S0 N dr pc s a w S' pl := by
  refine { defers := R.defers, size := R.size, os := R.os, tape := R.tape, output := R.output, grow := R.grow, stay := R.stay, base := fun b hb => hS b (R.base b hb), lt := hlt, own := ?_, Flt := ?_, disj := R.disj, ids := R.ids, env := ?_, pins := R.pins }
  · intro r rt h
    obtain ⟨hv, H⟩ := R.own r rt h
    exact ⟨hv, H.frame (fun b hb => ⟨hS b hb, rfl⟩) fun _ _ => rfl⟩
  · exact fun r rt b h hb => ⟨(R.Flt r rt b h hb).1, hF r rt b h hb⟩
  · intro i av h
    obtain ⟨h1, h2⟩ := R.env i av h
    exact ⟨h1.frame (n := s.nxt) (fun b hb => ⟨hS b hb, rfl⟩) (fun _ _ => .inr ⟨rfl, rfl⟩) h2, h2⟩

/-! ### Which names of parts of a root outlive a turn of it -/

/-- Which names live on: kr says it of slices, kp of places. -/
def shB (r : Nat) (kr kp : List Nat → Bool) : AV → Bool
  | .ref r' p => !(r' == r) || kr p
  | .sub r' p _ _ => !(r' == r) || kr p
  | .ptr r' p => !(r' == r) || kp p
  | _ => true
def AV.shallow (r : Nat) (kr kp : List Nat → Bool) : AV → Bool
  | .tup l => l.all (shB r kr kp)
  | .agg l => l.all (shB r kr kp)
  | av => shB r kr kp av

def cutEnv (r : Nat) (kr kp : List Nat → Bool) : List (Nat × AV) → List (Nat × AV)
  | [] => []
  | (i, av) :: l => (i, if av.shallow r kr kp = true then av else .junk) :: cutEnv r kr kp l

theorem lk_cutEnv {r i : Nat} {kr kp : List Nat → Bool} {av : AV} : ∀ {l : List (Nat × AV)}, lk (cutEnv r kr kp l) i = some av → av = .junk ∨ (lk l i = some av ∧ av.shallow r kr kp = true)
  | [], h => by cases h
  | (j, a) :: l, h => by
    simp only [cutEnv, lk] at h
    by_cases hj : j = i
    · rw [if_pos hj] at h
      simp only [Option.some.injEq] at h
      by_cases hs : a.shallow r kr kp = true
      · rw [if_pos hs] at h; subst h; exact .inr ⟨by simp [lk, hj], hs⟩
      · rw [if_neg hs] at h; exact .inl h.symm
    · rw [if_neg hj] at h
      rcases lk_cutEnv h with h | ⟨h1, h2⟩
      · exact .inl h
      · exact .inr ⟨by simp [lk, hj, h1], h2⟩

/-- What the names of a root's parts come to has not turned (of those that live on). -/
structure SameNames (kr kp : List Nat → Bool) (rt rt' : RT) (ct ct' : CT) : Prop where
  hd : ∀ p, kr p = true → hdr (atCT p rt'.ty ct') (rt'.at p).len = hdr (atCT p rt.ty ct) (rt.at p).len
  sub : ∀ p lo hi v, kr p = true → lo ≤ hi → hi ≤ (rt.at p).len → subR (atCT p rt.ty ct) (rt.at p).ew lo hi v → hi ≤ (rt'.at p).len ∧ subR (atCT p rt'.ty ct') (rt'.at p).ew lo hi v
  adr : ∀ p, kp p = true → addrOf p rt'.ty ct' (0, 0) = addrOf p rt.ty ct (0, 0)

theorem BVR.turn {w : World} {S : Nat → Prop} {rts : List (Nat × RT)} {pl pl' : Nat → PL} {r : Nat} {kr kp : List Nat → Bool} {rt rt' : RT} (hrt : lk rts r = some rt) (hn1 : kp [0] = true)
    (hs : SameNames kr kp rt rt' (pl r).ct (pl' r).ct) (hpl : ∀ r', r' ≠ r → pl' r' = pl r') {av : AV} {v : Value} (hsh : shB r kr kp av = true) (h : BVR w S rts pl av v) : BVR w S ((r, rt') :: rm rts r) pl' av v := by
  have hl : ∀ r', r' ≠ r → lk ((r, rt') :: rm rts r) r' = lk rts r' := fun r' h => by
    simp only [lk]; rw [if_neg (fun e => h e.symm), lk_rm_ne h]
  have hl0 : lk ((r, rt') :: rm rts r) r = some rt' := by simp [lk]
  cases av with
  | dat t x => exact h
  | rptr t x => exact h
  | junk => trivial
  | tup l => exact h.elim
  | agg l => exact h.elim
  | ref r' p =>
    intro rt1 hrt1
    by_cases e : r' = r
    · subst e
      rw [hl0] at hrt1; cases hrt1
      simp [shB] at hsh
      rw [hs.hd p hsh]; exact h rt hrt
    · rw [hl r' e] at hrt1; rw [hpl r' e]; exact h rt1 hrt1
  | sub r' p lo hi =>
    intro rt1 hrt1
    by_cases e : r' = r
    · subst e
      rw [hl0] at hrt1; cases hrt1
      simp [shB] at hsh
      obtain ⟨h1, h2, h3⟩ := h rt hrt
      obtain ⟨q1, q2⟩ := hs.sub p lo hi v hsh h1 h2 h3
      exact ⟨h1, q1, q2⟩
    · rw [hl r' e] at hrt1; rw [hpl r' e]; exact h rt1 hrt1
  | ptr r' p =>
    intro rt1 hrt1
    by_cases e : r' = r
    · subst e
      rw [hl0] at hrt1; cases hrt1
      simp [shB] at hsh
      have := h rt hrt
      unfold addrP at *
      rw [hs.adr p hsh]; exact this
    · rw [hl r' e] at hrt1; rw [hpl r' e]; exact h rt1 hrt1
  | clo f caps =>
    obtain ⟨vs, h1, h2, h3⟩ := h
    refine ⟨vs, h1, h2, fun i c rt1 u hc hrt1 hu => ?_⟩
    by_cases e : c = r
    · subst e
      rw [hl0] at hrt1; cases hrt1
      have := h3 i c rt u hc hrt hu
      unfold addrP at *
      rw [hs.adr [0] hn1]; exact this
    · rw [hl c e] at hrt1; rw [hpl c e]; exact h3 i c rt1 u hc hrt1 hu

theorem BVRs.turn {w : World} {S : Nat → Prop} {rts : List (Nat × RT)} {pl pl' : Nat → PL} {r : Nat} {kr kp : List Nat → Bool} {rt rt' : RT} (hrt : lk rts r = some rt) (hn1 : kp [0] = true)
    (hs : SameNames kr kp rt rt' (pl r).ct (pl' r).ct) (hpl : ∀ r', r' ≠ r → pl' r' = pl r') {l : List AV} {vs : List Value} (hsh : l.all (shB r kr kp) = true) (h : BVRs w S rts pl l vs) : BVRs w S ((r, rt') :: rm rts r) pl' l vs := by
  induction h with
  | nil => exact .nil
  | cons h t ih =>
    simp only [List.all_cons, Bool.and_eq_true] at hsh
    exact .cons (h.turn hrt hn1 hs hpl hsh.1) (ih hsh.2)

theorem AVR.turn {w : World} {S : Nat → Prop} {rts : List (Nat × RT)} {pl pl' : Nat → PL} {r : Nat} {kr kp : List Nat → Bool} {rt rt' : RT} (hrt : lk rts r = some rt) (hn1 : kp [0] = true)
    (hs : SameNames kr kp rt rt' (pl r).ct (pl' r).ct) (hpl : ∀ r', r' ≠ r → pl' r' = pl r') {av : AV} {v : Value} (hsh : av.shallow r kr kp = true) (h : AVR w S rts pl av v) : AVR w S ((r, rt') :: rm rts r) pl' av v := by
  cases av with
  | tup l => obtain ⟨vs, h1, h2⟩ := h; exact ⟨vs, h1, h2.turn hrt hn1 hs hpl hsh⟩
  | agg l => obtain ⟨vs, h1, h2⟩ := h; exact ⟨vs, h1, h2.turn hrt hn1 hs hpl hsh⟩
  | dat t x => exact BVR.turn (w := w) (S := S) (av := .dat t x) hrt hn1 hs hpl rfl h
  | rptr t x => exact BVR.turn (w := w) (S := S) (av := .rptr t x) hrt hn1 hs hpl rfl h
  | clo f c => exact BVR.turn (w := w) (S := S) (av := .clo f c) hrt hn1 hs hpl rfl h
  | junk => trivial
  | ref r1 p => exact BVR.turn (w := w) (S := S) (av := .ref r1 p) hrt hn1 hs hpl hsh h
  | sub r1 p lo hi => exact BVR.turn (w := w) (S := S) (av := .sub r1 p lo hi) hrt hn1 hs hpl hsh h
  | ptr r1 p => exact BVR.turn (w := w) (S := S) (av := .ptr r1 p) hrt hn1 hs hpl hsh h

/-- A root is turned, memory too (where this root has it, or that is new). -/
theorem RelAt.setRoot (R : RelAt w0 S0 N dr pc s a w S pl) {r : Nat} {kr kp : List Nat → Bool} {rt rt' : RT} (hrt : s.root r = some rt) (hn1 : kp [0] = true) {ct' : CT} {F' : Nat → Prop} {hv : Value}
    (hos : w'.os = w.os) (htape : w'.tape = w.tape) (hout : SameOut w w') (hsz : w.heap.size ≤ w'.heap.size)
    (hold : ∀ b, b < w.heap.size → ¬ (pl r).F b → w'.heap[b]? = w.heap[b]?)
    (H : Own w' S rt'.ty (rt'.k + 1) rt'.x rt'.h ct' [hv] F') 
    (hF : ∀ b, F' b → b < w'.heap.size ∧ ((pl r).F b ∨ w.heap.size ≤ b ∨ (¬ S b ∧ (∀ r2 rt2, r2 ≠ r → s.root r2 = some rt2 → ¬ (pl r2).F b) ∧ (dr = true → ∀ i, pc i b → (i, some r) ∈ s.pins))))
    (hs : SameNames kr kp rt rt' (pl r).ct ct') :
    RelAt w0 S0 N dr pc { s.setRoot r rt' with env := cutEnv r kr kp s.env } a w' S (fun r' => if r' = r then ⟨ct', F'⟩ else pl r') := by
  have hS : ∀ b, S b → w'.heap[b]? = w.heap[b]? := fun b hb => hold b (R.lt b hb) fun h => (R.Flt r rt b hrt h).2 hb
  have hother : ∀ r2 rt2 b, r2 ≠ r → s.root r2 = some rt2 → (pl r2).F b → w'.heap[b]? = w.heap[b]? := fun r2 rt2 b hne h hb =>
    hold b (R.Flt r2 rt2 b h hb).1 fun h' => hne (R.disj r2 r rt2 rt b h hrt hb h')
  have hroot : ∀ r2 rt2, lk ((r, rt') :: rm s.rts r) r2 = some rt2 → (r2 = r ∧ rt2 = rt') ∨ (r2 ≠ r ∧ s.root r2 = some rt2) := by
    intro r2 rt2 h
    simp only [lk] at h
    by_cases e : r = r2
    · rw [if_pos e] at h; exact .inl ⟨e.symm, (Option.some.inj h).symm⟩
    · rw [if_neg e] at h; exact .inr ⟨fun e' => e e'.symm, (lk_rm_some h).2⟩
  refine { defers := R.defers, size := R.size, os := hos.trans R.os, tape := htape.trans R.tape, output := hout.trans R.output, grow := Nat.le_trans R.grow hsz, stay := ?_, base := R.base, lt := ?_, own := ?_, Flt := ?_, disj := ?_, ids := ?_, env := ?_, pins := ?_ }
  · exact fun b hb => (hS b (R.base b hb)).trans (R.stay b hb)
  · exact fun b hb => Nat.lt_of_lt_of_le (R.lt b hb) hsz
  · intro r2 rt2 h
    rcases hroot r2 rt2 h with ⟨rfl, rfl⟩ | ⟨h1, h2⟩
    · simp only [if_true]; exact ⟨hv, H⟩
    · simp only [if_neg h1]
      obtain ⟨hv2, H2⟩ := R.own r2 rt2 h2
      exact ⟨hv2, H2.frame (fun b hb => ⟨hb, hS b hb⟩) fun b hb => hother r2 rt2 b h1 h2 hb⟩
  · intro r2 rt2 b h hb
    rcases hroot r2 rt2 h with ⟨rfl, rfl⟩ | ⟨h1, h2⟩
    · simp only [if_true] at hb
      refine ⟨(hF b hb).1, fun hSb => ?_⟩
      rcases (hF b hb).2 with h | h | h
      · exact (R.Flt _ rt b hrt h).2 hSb
      · have := R.lt b hSb; omega
      · exact h.1 hSb
    · simp only [if_neg h1] at hb
      exact ⟨Nat.lt_of_lt_of_le (R.Flt r2 rt2 b h2 hb).1 hsz, (R.Flt r2 rt2 b h2 hb).2⟩
  · have key : ∀ r2 rt2 b, r2 ≠ r → s.root r2 = some rt2 → (pl r2).F b → ¬ F' b := by
      intro r2 rt2 b hne h hb hb'
      rcases (hF b hb').2 with h' | h' | h'
      · exact hne (R.disj r2 r rt2 rt b h hrt hb h')
      · have := (R.Flt r2 rt2 b h hb).1; omega
      · exact h'.2.1 r2 rt2 hne h hb
    intro r2 r3 rt2 rt3 b h h' hb hb'
    rcases hroot r2 rt2 h with ⟨rfl, rfl⟩ | ⟨h1, h2⟩
    · rcases hroot r3 rt3 h' with ⟨rfl, rfl⟩ | ⟨h3, h4⟩
      · rfl
      · simp only [if_true] at hb
        simp only [if_neg h3] at hb'
        exact absurd hb (key r3 rt3 b h3 h4 hb')
    · rcases hroot r3 rt3 h' with ⟨rfl, rfl⟩ | ⟨h3, h4⟩
      · simp only [if_true] at hb'
        simp only [if_neg h1] at hb
        exact absurd hb' (key r2 rt2 b h1 h2 hb)
      · simp only [if_neg h1] at hb
        simp only [if_neg h3] at hb'
        exact R.disj r2 r3 rt2 rt3 b h2 h4 hb hb'
  · intro r2 rt2 h
    rcases hroot r2 rt2 h with ⟨rfl, rfl⟩ | ⟨h1, h2⟩
    · exact R.ids _ rt hrt
    · exact R.ids r2 rt2 h2
  · intro i av h
    rcases lk_cutEnv h with rfl | ⟨h1, h2⟩
    · exact ⟨trivial, fun r hr => by simp [AV.ids] at hr⟩
    · obtain ⟨q1, q2⟩ := R.env i av h1
      refine ⟨?_, q2⟩
      have t1 := AVR.turn (pl' := fun r' => if r' = r then ⟨ct', F'⟩ else pl r') (rt' := rt') hrt hn1 (by simpa using hs) (fun r' hr' => by simp [hr']) h2 q1
      exact t1.frame (n := s.nxt) (fun b hb => ⟨hb, hS b hb⟩) (fun _ _ => .inr ⟨rfl, rfl⟩) q2
  · intro hd i b hp
    obtain ⟨q, h1, h2, h3⟩ := R.pins hd i b hp
    have key : ∀ r2 rt2, r2 ≠ r → s.root r2 = some rt2 → (pl r2).F b → ¬ F' b := by
      intro r2 rt2 hne h hb hb'
      rcases (hF b hb').2 with h' | h' | h'
      · exact hne (R.disj r2 r rt2 rt b h hrt hb h')
      · have := (R.Flt r2 rt2 b h hb).1; omega
      · exact h'.2.1 r2 rt2 hne h hb
    by_cases hFb : F' b
    · have hq : (i, some r) ∈ s.pins := by
        rcases (hF b hFb).2 with h' | h' | h'
        · have := h3 _ rt hrt h'; rw [← this]; exact h1
        · omega
        · exact h'.2.2 hd i hp
      refine ⟨some r, hq, Nat.lt_of_lt_of_le h2 hsz, fun r2 rt2 h hb => ?_⟩
      rcases hroot r2 rt2 h with ⟨rfl, rfl⟩ | ⟨h4, h5⟩
      · rfl
      · simp only [if_neg h4] at hb; exact absurd hFb (key r2 rt2 h4 h5 hb)
    refine ⟨q, h1, Nat.lt_of_lt_of_le h2 hsz, fun r2 rt2 h hb => ?_⟩
    rcases hroot r2 rt2 h with ⟨rfl, rfl⟩ | ⟨h4, h5⟩
    · simp only [if_true] at hb; exact absurd hb hFb
    · simp only [if_neg h4] at hb; exact h3 r2 rt2 h5 hb

def pinAlso (r q : Nat) (l : List (Nat × Option Nat)) : List (Nat × Option Nat) := l ++ (l.filter fun x => x.2 == some r).map fun x => (x.1, some q)

theorem mem_pinAlso {r q : Nat} {l : List (Nat × Option Nat)} {x : Nat × Option Nat} (h : x ∈ l) : x ∈ pinAlso r q l := List.mem_append_left _ h
theorem mem_pinAlso_new {r q i : Nat} {l : List (Nat × Option Nat)} (h : (i, some r) ∈ l) : (i, some q) ∈ pinAlso r q l :=
  List.mem_append_right _ (List.mem_map.2 ⟨(i, some r), List.mem_filter.2 ⟨h, by simp⟩, rfl⟩)

theorem RelAt.pinned (R : RelAt w0 S0 N dr pc s a w S pl) {l : List (Nat × Option Nat)} (h : ∀ x ∈ s.pins, x ∈ l) : RelAt w0 S0 N dr pc { s with pins := l } a w S pl :=
  { R with pins := (fun hd i b hp => (R.pins hd i b hp).elim fun q hq => ⟨q, h _ hq.1, hq.2⟩) }

end
end Fer
