import Derived.Test.YtjocjlohdapmaaaFerA
import Derived.Deep.MidRow
import Derived.Great.BuildSlice
import Derived.Laws.IdiomCopy
namespace Fer
open Go

structure Grew (w w' : World) : Prop where
  os : w'.os = w.os
  tape : w'.tape = w.tape
  output : SameOut All w w'
  size : w.heap.size ≤ w'.heap.size
  old : ∀ b, b < w.heap.size → w'.heap[b]? = w.heap[b]?

theorem Grew.refl (w : World) : Grew w w := ⟨rfl, rfl, SameOut.refl w, Nat.le_refl _, fun _ _ => rfl⟩
theorem Grew.trans {a b c : World} (h : Grew a b) (k : Grew b c) : Grew a c :=
  ⟨k.os.trans h.os, k.tape.trans h.tape, k.output.trans h.output, Nat.le_trans h.size k.size, fun n hn => (k.old n (Nat.lt_of_lt_of_le hn h.size)).trans (h.old n hn)⟩
theorem Grew.alloc (w : World) (c : Array Value) (t : Nat) : Grew w (w.alloc (.cells c t)) :=
  ⟨rfl, rfl, ⟨rfl, fun a _ _ => RowKit.frozen?_alloc_cells w c t a, by simp, fun _ => Nat.le_refl _⟩, by simp, fun b hb => RowKit.Below.heap_alloc w _ b hb⟩
theorem Grew.drew (w : World) : Grew w w.drew := ⟨rfl, rfl, ⟨rfl, fun _ _ _ => rfl, Nat.le_refl _, fun _ => Nat.le_succ _⟩, Nat.le_refl _, fun _ _ => rfl⟩

def XS.addRoot (s : XS) (rt : RT) : XS := { s with rts := (s.nxt, rt) :: s.rts, nxt := s.nxt + 1 }
def XS.kill (s : XS) (r : Nat) : XS := { s with rts := rm s.rts r }
def XS.setRoot (s : XS) (r : Nat) (rt : RT) : XS := { s with rts := (r, rt) :: rm s.rts r }

section
variable {w0 : World} {S0 : Nat → Prop} {N : Nat} {dr : Bool} {pc : Pins} {s : XS} {a : Act} {w w' : World} {S : Nat → Prop} {pl : Nat → PL}

theorem AV.lt_mono {av : AV} {n m : Nat} (h : av.lt n) (hnm : n ≤ m) : av.lt m := by
  cases av with
  | tup l => exact fun a ha r hr => Nat.lt_of_lt_of_le (h a ha r hr) hnm
  | agg l => exact fun a ha r hr => Nat.lt_of_lt_of_le (h a ha r hr) hnm
  | _ => exact fun r hr => Nat.lt_of_lt_of_le (h r hr) hnm

theorem RelAt.grown (R : RelAt w0 S0 N dr pc s a w S pl) (g : Grew w w') : RelAt w0 S0 N dr pc s a w' S pl where
  defers := R.defers
  size := R.size
  os := g.os.trans R.os
  tape := g.tape.trans R.tape
  output := g.output.all.trans R.output
  grow := Nat.le_trans R.grow g.size
  stay := fun b hb => (g.old b (R.lt b (R.base b hb))).trans (R.stay b hb)
  base := R.base
  lt := fun b hb => Nat.lt_of_lt_of_le (R.lt b hb) g.size
  own := fun r rt hr => by
    obtain ⟨hv, H⟩ := R.own r rt hr
    exact ⟨hv, H.frame (fun b hb => ⟨hb, g.old b (R.lt b hb)⟩) fun b hb => g.old b (R.Flt r rt b hr hb).1⟩
  Flt := fun r rt b hr hb => ⟨Nat.lt_of_lt_of_le (R.Flt r rt b hr hb).1 g.size, (R.Flt r rt b hr hb).2⟩
  disj := R.disj
  ids := R.ids
  env := fun i av h => ⟨(R.env i av h).1.frame (n := s.nxt) (fun b hb => ⟨hb, g.old b (R.lt b hb)⟩) (fun _ _ => .inr ⟨rfl, rfl⟩) (R.env i av h).2, (R.env i av h).2⟩
  pins := fun hd i b hp => by
    obtain ⟨q, h1, h2, h3⟩ := R.pins hd i b hp
    exact ⟨q, h1, Nat.lt_of_lt_of_le h2 g.size, h3⟩
  news := R.news

theorem RelAt.addRoot (R : RelAt w0 S0 N dr pc s a w S pl) (g : Grew w w') {rt : RT} {ct : CT} {F : Nat → Prop} {hv : Value}
    (H : Own w' S rt.ty (rt.k + 1) rt.x rt.h ct [hv] F)
    (hF : ∀ b, F b → b < w'.heap.size ∧ (w.heap.size ≤ b ∨ (¬ S b ∧ (∀ r2 rt2, s.root r2 = some rt2 → ¬ (pl r2).F b) ∧ (dr = true → ∀ i, pc i b → (i, some s.nxt) ∈ s.pins)))) :
    RelAt w0 S0 N dr pc (s.addRoot rt) a w' S (fun r => if r = s.nxt then ⟨ct, F⟩ else pl r) := by
  have G := R.grown g
  have hne : ∀ r rt', s.root r = some rt' → r ≠ s.nxt := fun r rt' h => Nat.ne_of_lt (R.ids r rt' h)
  have hroot : ∀ r rt', (s.addRoot rt).root r = some rt' → (r = s.nxt ∧ rt' = rt) ∨ (r ≠ s.nxt ∧ s.root r = some rt') := by
    intro r rt' h
    simp only [XS.root, XS.addRoot, lk] at h
    by_cases hr : s.nxt = r
    · rw [if_pos hr] at h; exact .inl ⟨hr.symm, (Option.some.inj h).symm⟩
    · rw [if_neg hr] at h; exact .inr ⟨fun e => hr e.symm, h⟩
  refine { defers := G.defers, size := G.size, os := G.os, tape := G.tape, output := G.output, grow := G.grow, stay := G.stay, base := G.base, lt := G.lt, own := ?_, Flt := ?_, disj := ?_, ids := ?_, env := ?_, pins := ?_, news := R.news }
  · intro r rt' h
    rcases hroot r rt' h with ⟨rfl, rfl⟩ | ⟨h1, h2⟩
    · simp only [if_true]; exact ⟨hv, H⟩
    · simp only [if_neg h1]; exact G.own r rt' h2
  · intro r rt' b h hb
    rcases hroot r rt' h with ⟨rfl, rfl⟩ | ⟨h1, h2⟩
    · simp only [if_true] at hb
      refine ⟨(hF b hb).1, fun hS => ?_⟩
      rcases (hF b hb).2 with h' | h'
      · have := R.lt b hS; omega
      · exact h'.1 hS
    · simp only [if_neg h1] at hb; exact G.Flt r rt' b h2 hb
  · intro r r' rt1 rt2 b h h' hb hb'
    rcases hroot r rt1 h with ⟨rfl, rfl⟩ | ⟨h1, h2⟩
    · rcases hroot r' rt2 h' with ⟨rfl, rfl⟩ | ⟨h3, h4⟩
      · rfl
      · simp only [if_true] at hb
        simp only [if_neg h3] at hb'
        rcases (hF b hb).2 with q | q
        · have := (R.Flt r' rt2 b h4 hb').1
          omega
        · exact absurd hb' (q.2.1 r' rt2 h4)
    · rcases hroot r' rt2 h' with ⟨rfl, rfl⟩ | ⟨h3, h4⟩
      · simp only [if_true] at hb'
        simp only [if_neg h1] at hb
        rcases (hF b hb').2 with q | q
        · have := (R.Flt r rt1 b h2 hb).1
          omega
        · exact absurd hb (q.2.1 r rt1 h2)
      · simp only [if_neg h1] at hb
        simp only [if_neg h3] at hb'
        exact R.disj r r' rt1 rt2 b h2 h4 hb hb'
  · intro r rt' h
    rcases hroot r rt' h with ⟨rfl, rfl⟩ | ⟨h1, h2⟩
    · exact Nat.lt_succ_self _
    · exact Nat.lt_succ_of_lt (R.ids r rt' h2)
  · intro i av h
    obtain ⟨h1, h2⟩ := G.env i av h
    refine ⟨h1.frame (n := s.nxt) (fun b hb => ⟨hb, rfl⟩) (fun r hr => .inr ⟨?_, ?_⟩) h2, AV.lt_mono h2 (Nat.le_succ _)⟩
    · show lk ((s.nxt, rt) :: s.rts) r = _
      simp only [lk]; rw [if_neg (by omega)]
    · simp only [if_neg (Nat.ne_of_lt hr)]
  · intro hd i b hp
    obtain ⟨q, h1, h2, h3⟩ := R.pins hd i b hp
    by_cases hFb : F b
    · rcases (hF b hFb).2 with q1 | q1
      · omega
      · refine ⟨some s.nxt, q1.2.2 hd i hp, (hF b hFb).1, fun r rt' h hb => ?_⟩
        rcases hroot r rt' h with ⟨rfl, rfl⟩ | ⟨h4, h5⟩
        · rfl
        · simp only [if_neg h4] at hb; exact absurd hb (q1.2.1 r rt' h5)
    refine ⟨q, h1, Nat.lt_of_lt_of_le h2 g.size, fun r rt' h hb => ?_⟩
    rcases hroot r rt' h with ⟨rfl, rfl⟩ | ⟨h4, h5⟩
    · simp only [if_true] at hb; exact absurd hb hFb
    · simp only [if_neg h4] at hb; exact h3 r rt' h5 hb

theorem RelAt.kill (R : RelAt w0 S0 N dr pc s a w S pl) (r0 : Nat) : RelAt w0 S0 N dr pc (s.kill r0) a w S pl := by
  have hroot : ∀ r rt', (s.kill r0).root r = some rt' → r ≠ r0 ∧ s.root r = some rt' := fun r rt' h => lk_rm_some h
  refine { defers := R.defers, size := R.size, os := R.os, tape := R.tape, output := R.output, grow := R.grow, stay := R.stay, base := R.base, lt := R.lt, own := ?_, Flt := ?_, disj := ?_, ids := ?_, env := ?_, pins := ?_, news := R.news }
  · exact fun r rt' h => R.own r rt' (hroot r rt' h).2
  · exact fun r rt' b h => R.Flt r rt' b (hroot r rt' h).2
  · exact fun r r' rt1 rt2 b h h' => R.disj r r' rt1 rt2 b (hroot _ _ h).2 (hroot _ _ h').2
  · exact fun r rt' h => R.ids r rt' (hroot r rt' h).2
  · intro i av h
    obtain ⟨h1, h2⟩ := R.env i av h
    refine ⟨h1.frame (n := s.nxt) (fun b hb => ⟨hb, rfl⟩) (fun r hr => ?_) h2, h2⟩
    by_cases e : r = r0
    · subst e; exact .inl (lk_rm_same _ _)
    · exact .inr ⟨lk_rm_ne e _, rfl⟩
  · intro hd i b hp
    obtain ⟨q, h1, h2, h3⟩ := R.pins hd i b hp
    exact ⟨q, h1, h2, fun r rt' h hb => h3 r rt' (hroot r rt' h).2 hb⟩

theorem RelAt.widen (R : RelAt w0 S0 N dr pc s a w S pl) {S' : Nat → Prop} (hS : ∀ b, S b → S' b) (hlt : ∀ b, S' b → b < w.heap.size)
    (hF : ∀ r rt b, s.root r = some rt → (pl r).F b → ¬ S' b) : RelAt w0 S0 N dr pc s a w S' pl := by
  refine { defers := R.defers, size := R.size, os := R.os, tape := R.tape, output := R.output, grow := R.grow, stay := R.stay, base := fun b hb => hS b (R.base b hb), lt := hlt, own := ?_, Flt := ?_, disj := R.disj, ids := R.ids, env := ?_, pins := R.pins, news := R.news }
  · intro r rt h
    obtain ⟨hv, H⟩ := R.own r rt h
    exact ⟨hv, H.frame (fun b hb => ⟨hS b hb, rfl⟩) fun _ _ => rfl⟩
  · exact fun r rt b h hb => ⟨(R.Flt r rt b h hb).1, hF r rt b h hb⟩
  · intro i av h
    obtain ⟨h1, h2⟩ := R.env i av h
    exact ⟨h1.frame (n := s.nxt) (fun b hb => ⟨hS b hb, rfl⟩) (fun _ _ => .inr ⟨rfl, rfl⟩) h2, h2⟩


def shB (r : Nat) (kr kp : List Nat → Bool) : AV → Bool
  | .ref r' p => !(r' == r) || kr p
  | .sub r' p _ _ => !(r' == r) || kr p
  | .ptr r' p => !(r' == r) || kp p
  | .one r' => !(r' == r) || kr []
  | _ => true
def AV.shallow (r : Nat) (kr kp : List Nat → Bool) : AV → Bool
  | .tup l => l.all (shB r kr kp)
  | .agg l => l.all (shB r kr kp)
  | av => shB r kr kp av

def cutEnv (r : Nat) (kr kp : List Nat → Bool) : List (Nat × AV) → List (Nat × AV)
  | [] => []
  | (i, av) :: l => (i, if av.shallow r kr kp = true then av else .junk) :: cutEnv r kr kp l

theorem lk_cutEnv {r i : Nat} {kr kp : List Nat → Bool} {av : AV} : ∀ {l : List (Nat × AV)}, lk (cutEnv r kr kp l) i = some av → av = .junk ∨ (lk l i = some av ∧ av.shallow r kr kp = true)
  | [], h => by cases h
  | (j, a) :: l, h => by
    simp only [cutEnv, lk] at h
    by_cases hj : j = i
    · rw [if_pos hj] at h
      simp only [Option.some.injEq] at h
      by_cases hs : a.shallow r kr kp = true
      · rw [if_pos hs] at h; subst h; exact .inr ⟨by simp [lk, hj], hs⟩
      · rw [if_neg hs] at h; exact .inl h.symm
    · rw [if_neg hj] at h
      rcases lk_cutEnv h with h | ⟨h1, h2⟩
      · exact .inl h
      · exact .inr ⟨by simp [lk, hj, h1], h2⟩

structure SameNames (kr kp : List Nat → Bool) (rt rt' : RT) (ct ct' : CT) : Prop where
  hd : ∀ p, kr p = true → hdr (atCT p rt'.ty ct') (rt'.at p).len = hdr (atCT p rt.ty ct) (rt.at p).len
  sub : ∀ p lo hi v, kr p = true → lo ≤ hi → hi ≤ (rt.at p).len → subR (atCT p rt.ty ct) (rt.at p).ew lo hi v → hi ≤ (rt'.at p).len ∧ subR (atCT p rt'.ty ct') (rt'.at p).ew lo hi v
  adr : ∀ p, kp p = true → addrOf p rt'.ty ct' (0, 0) = addrOf p rt.ty ct (0, 0)

theorem BVR.turn {w : World} {S : Nat → Prop} {rts : List (Nat × RT)} {pl pl' : Nat → PL} {r : Nat} {kr kp : List Nat → Bool} {rt rt' : RT} (hrt : lk rts r = some rt) (hn1 : kp [0] = true)
    (hs : SameNames kr kp rt rt' (pl r).ct (pl' r).ct) (hpl : ∀ r', r' ≠ r → pl' r' = pl r') {av : AV} {v : Value} (hsh : shB r kr kp av = true) (h : BVR w S rts pl av v) : BVR w S ((r, rt') :: rm rts r) pl' av v := by
  have hl : ∀ r', r' ≠ r → lk ((r, rt') :: rm rts r) r' = lk rts r' := fun r' h => by
    simp only [lk]; rw [if_neg (fun e => h e.symm), lk_rm_ne h]
  have hl0 : lk ((r, rt') :: rm rts r) r = some rt' := by simp [lk]
  cases av with
  | dat t x => exact h
  | rptr t x => exact h
  | rpl b t x => exact h
  | junk => trivial
  | tup l => exact h.elim
  | agg l => exact h.elim
  | mp b f => exact h.elim
  | ref r' p =>
    intro rt1 hrt1
    by_cases e : r' = r
    · subst e
      rw [hl0] at hrt1; cases hrt1
      simp [shB] at hsh
      rw [hs.hd p hsh]; exact h rt hrt
    · rw [hl r' e] at hrt1; rw [hpl r' e]; exact h rt1 hrt1
  | sub r' p lo hi =>
    intro rt1 hrt1
    by_cases e : r' = r
    · subst e
      rw [hl0] at hrt1; cases hrt1
      simp [shB] at hsh
      obtain ⟨h1, h2, h3⟩ := h rt hrt
      obtain ⟨q1, q2⟩ := hs.sub p lo hi v hsh h1 h2 h3
      exact ⟨h1, q1, q2⟩
    · rw [hl r' e] at hrt1; rw [hpl r' e]; exact h rt1 hrt1
  | ptr r' p =>
    intro rt1 hrt1
    by_cases e : r' = r
    · subst e
      rw [hl0] at hrt1; cases hrt1
      simp [shB] at hsh
      have := h rt hrt
      unfold addrP at *
      rw [hs.adr p hsh]; exact this
    · rw [hl r' e] at hrt1; rw [hpl r' e]; exact h rt1 hrt1
  | clo f caps =>
    obtain ⟨vs, h1, h2, h3⟩ := h
    refine ⟨vs, h1, h2, fun i c rt1 u hc hrt1 hu => ?_⟩
    by_cases e : c = r
    · subst e
      rw [hl0] at hrt1; cases hrt1
      have := h3 i c rt u hc hrt hu
      unfold addrP at *
      rw [hs.adr [0] hn1]; exact this
    · rw [hl c e] at hrt1; rw [hpl c e]; exact h3 i c rt1 u hc hrt1 hu
  | one r' =>
    intro rt1 hrt1
    by_cases e : r' = r
    · subst e
      rw [hl0] at hrt1; cases hrt1
      simp [shB] at hsh
      rw [hs.hd [] hsh]; exact h rt hrt
    · rw [hl r' e] at hrt1; rw [hpl r' e]; exact h rt1 hrt1
  | loc r' b =>
    intro rt1 hrt1
    by_cases e : r' = r
    · subst e
      rw [hl0] at hrt1; cases hrt1
      rw [hs.adr [0] hn1]; exact h rt hrt
    · rw [hl r' e] at hrt1; rw [hpl r' e]; exact h rt1 hrt1

theorem BVRs.turn {w : World} {S : Nat → Prop} {rts : List (Nat × RT)} {pl pl' : Nat → PL} {r : Nat} {kr kp : List Nat → Bool} {rt rt' : RT} (hrt : lk rts r = some rt) (hn1 : kp [0] = true)
    (hs : SameNames kr kp rt rt' (pl r).ct (pl' r).ct) (hpl : ∀ r', r' ≠ r → pl' r' = pl r') {l : List AV} {vs : List Value} (hsh : l.all (shB r kr kp) = true) (h : BVRs w S rts pl l vs) : BVRs w S ((r, rt') :: rm rts r) pl' l vs := by
  induction h with
  | nil => exact .nil
  | cons h t ih =>
    simp only [List.all_cons, Bool.and_eq_true] at hsh
    exact .cons (h.turn hrt hn1 hs hpl hsh.1) (ih hsh.2)

theorem AVR.turn {w : World} {S : Nat → Prop} {rts : List (Nat × RT)} {pl pl' : Nat → PL} {r : Nat} {kr kp : List Nat → Bool} {rt rt' : RT} (hrt : lk rts r = some rt) (hn1 : kp [0] = true)
    (hs : SameNames kr kp rt rt' (pl r).ct (pl' r).ct) (hpl : ∀ r', r' ≠ r → pl' r' = pl r') {av : AV} {v : Value} (hsh : av.shallow r kr kp = true) (h : AVR w S rts pl av v) : AVR w S ((r, rt') :: rm rts r) pl' av v := by
  cases av with
  | tup l => obtain ⟨vs, h1, h2⟩ := h; exact ⟨vs, h1, h2.turn hrt hn1 hs hpl hsh⟩
  | agg l => obtain ⟨vs, h1, h2⟩ := h; exact ⟨vs, h1, h2.turn hrt hn1 hs hpl hsh⟩
  | dat t x => exact BVR.turn (w := w) (S := S) (av := .dat t x) hrt hn1 hs hpl rfl h
  | rptr t x => exact BVR.turn (w := w) (S := S) (av := .rptr t x) hrt hn1 hs hpl rfl h
  | rpl b t x => exact BVR.turn (w := w) (S := S) (av := .rpl b t x) hrt hn1 hs hpl rfl h
  | clo f c => exact BVR.turn (w := w) (S := S) (av := .clo f c) hrt hn1 hs hpl rfl h
  | one r1 => exact BVR.turn (w := w) (S := S) (av := .one r1) (v := v) hrt hn1 hs hpl hsh h
  | loc r1 b => exact BVR.turn (w := w) (S := S) (av := .loc r1 b) (v := v) hrt hn1 hs hpl rfl h
  | mp b f => exact h
  | junk => trivial
  | ref r1 p => exact BVR.turn (w := w) (S := S) (av := .ref r1 p) hrt hn1 hs hpl hsh h
  | sub r1 p lo hi => exact BVR.turn (w := w) (S := S) (av := .sub r1 p lo hi) hrt hn1 hs hpl hsh h
  | ptr r1 p => exact BVR.turn (w := w) (S := S) (av := .ptr r1 p) hrt hn1 hs hpl hsh h

theorem RelAt.setRoot (R : RelAt w0 S0 N dr pc s a w S pl) {r : Nat} {kr kp : List Nat → Bool} {rt rt' : RT} (hrt : s.root r = some rt) (hn1 : kp [0] = true) {ct' : CT} {F' : Nat → Prop} {hv : Value}
    (hos : w'.os = w.os) (htape : w'.tape = w.tape) (hout : SameOut S0 w w') (hsz : w.heap.size ≤ w'.heap.size)
    (hold : ∀ b, b < w.heap.size → ¬ (pl r).F b → w'.heap[b]? = w.heap[b]?)
    (H : Own w' S rt'.ty (rt'.k + 1) rt'.x rt'.h ct' [hv] F') 
    (hF : ∀ b, F' b → b < w'.heap.size ∧ ((pl r).F b ∨ w.heap.size ≤ b ∨ (¬ S b ∧ (∀ r2 rt2, r2 ≠ r → s.root r2 = some rt2 → ¬ (pl r2).F b) ∧ (dr = true → ∀ i, pc i b → (i, some r) ∈ s.pins))))
    (hs : SameNames kr kp rt rt' (pl r).ct ct') :
    RelAt w0 S0 N dr pc { s.setRoot r rt' with env := cutEnv r kr kp s.env } a w' S (fun r' => if r' = r then ⟨ct', F'⟩ else pl r') := by
  have hS : ∀ b, S b → w'.heap[b]? = w.heap[b]? := fun b hb => hold b (R.lt b hb) fun h => (R.Flt r rt b hrt h).2 hb
  have hother : ∀ r2 rt2 b, r2 ≠ r → s.root r2 = some rt2 → (pl r2).F b → w'.heap[b]? = w.heap[b]? := fun r2 rt2 b hne h hb =>
    hold b (R.Flt r2 rt2 b h hb).1 fun h' => hne (R.disj r2 r rt2 rt b h hrt hb h')
  have hroot : ∀ r2 rt2, lk ((r, rt') :: rm s.rts r) r2 = some rt2 → (r2 = r ∧ rt2 = rt') ∨ (r2 ≠ r ∧ s.root r2 = some rt2) := by
    intro r2 rt2 h
    simp only [lk] at h
    by_cases e : r = r2
    · rw [if_pos e] at h; exact .inl ⟨e.symm, (Option.some.inj h).symm⟩
    · rw [if_neg e] at h; exact .inr ⟨fun e' => e e'.symm, (lk_rm_some h).2⟩
  refine { defers := R.defers, size := R.size, os := hos.trans R.os, tape := htape.trans R.tape, output := hout.trans R.output, grow := Nat.le_trans R.grow hsz, stay := ?_, base := R.base, lt := ?_, own := ?_, Flt := ?_, disj := ?_, ids := ?_, env := ?_, pins := ?_, news := fun i b f h => (lk_cutEnv h).elim (fun e => by cases e) fun e => R.news i b f e.1 }
  · exact fun b hb => (hS b (R.base b hb)).trans (R.stay b hb)
  · exact fun b hb => Nat.lt_of_lt_of_le (R.lt b hb) hsz
  · intro r2 rt2 h
    rcases hroot r2 rt2 h with ⟨rfl, rfl⟩ | ⟨h1, h2⟩
    · simp only [if_true]; exact ⟨hv, H⟩
    · simp only [if_neg h1]
      obtain ⟨hv2, H2⟩ := R.own r2 rt2 h2
      exact ⟨hv2, H2.frame (fun b hb => ⟨hb, hS b hb⟩) fun b hb => hother r2 rt2 b h1 h2 hb⟩
  · intro r2 rt2 b h hb
    rcases hroot r2 rt2 h with ⟨rfl, rfl⟩ | ⟨h1, h2⟩
    · simp only [if_true] at hb
      refine ⟨(hF b hb).1, fun hSb => ?_⟩
      rcases (hF b hb).2 with h | h | h
      · exact (R.Flt _ rt b hrt h).2 hSb
      · have := R.lt b hSb; omega
      · exact h.1 hSb
    · simp only [if_neg h1] at hb
      exact ⟨Nat.lt_of_lt_of_le (R.Flt r2 rt2 b h2 hb).1 hsz, (R.Flt r2 rt2 b h2 hb).2⟩
  · have key : ∀ r2 rt2 b, r2 ≠ r → s.root r2 = some rt2 → (pl r2).F b → ¬ F' b := by
      intro r2 rt2 b hne h hb hb'
      rcases (hF b hb').2 with h' | h' | h'
      · exact hne (R.disj r2 r rt2 rt b h hrt hb h')
      · have := (R.Flt r2 rt2 b h hb).1; omega
      · exact h'.2.1 r2 rt2 hne h hb
    intro r2 r3 rt2 rt3 b h h' hb hb'
    rcases hroot r2 rt2 h with ⟨rfl, rfl⟩ | ⟨h1, h2⟩
    · rcases hroot r3 rt3 h' with ⟨rfl, rfl⟩ | ⟨h3, h4⟩
      · rfl
      · simp only [if_true] at hb
        simp only [if_neg h3] at hb'
        exact absurd hb (key r3 rt3 b h3 h4 hb')
    · rcases hroot r3 rt3 h' with ⟨rfl, rfl⟩ | ⟨h3, h4⟩
      · simp only [if_true] at hb'
        simp only [if_neg h1] at hb
        exact absurd hb' (key r2 rt2 b h1 h2 hb)
      · simp only [if_neg h1] at hb
        simp only [if_neg h3] at hb'
        exact R.disj r2 r3 rt2 rt3 b h2 h4 hb hb'
  · intro r2 rt2 h
    rcases hroot r2 rt2 h with ⟨rfl, rfl⟩ | ⟨h1, h2⟩
    · exact R.ids _ rt hrt
    · exact R.ids r2 rt2 h2
  · intro i av h
    rcases lk_cutEnv h with rfl | ⟨h1, h2⟩
    · exact ⟨trivial, fun r hr => by simp [AV.ids] at hr⟩
    · obtain ⟨q1, q2⟩ := R.env i av h1
      refine ⟨?_, q2⟩
      have t1 := AVR.turn (pl' := fun r' => if r' = r then ⟨ct', F'⟩ else pl r') (rt' := rt') hrt hn1 (by simpa using hs) (fun r' hr' => by simp [hr']) h2 q1
      exact t1.frame (n := s.nxt) (fun b hb => ⟨hb, hS b hb⟩) (fun _ _ => .inr ⟨rfl, rfl⟩) q2
  · intro hd i b hp
    obtain ⟨q, h1, h2, h3⟩ := R.pins hd i b hp
    have key : ∀ r2 rt2, r2 ≠ r → s.root r2 = some rt2 → (pl r2).F b → ¬ F' b := by
      intro r2 rt2 hne h hb hb'
      rcases (hF b hb').2 with h' | h' | h'
      · exact hne (R.disj r2 r rt2 rt b h hrt hb h')
      · have := (R.Flt r2 rt2 b h hb).1; omega
      · exact h'.2.1 r2 rt2 hne h hb
    by_cases hFb : F' b
    · have hq : (i, some r) ∈ s.pins := by
        rcases (hF b hFb).2 with h' | h' | h'
        · have := h3 _ rt hrt h'; rw [← this]; exact h1
        · omega
        · exact h'.2.2 hd i hp
      refine ⟨some r, hq, Nat.lt_of_lt_of_le h2 hsz, fun r2 rt2 h hb => ?_⟩
      rcases hroot r2 rt2 h with ⟨rfl, rfl⟩ | ⟨h4, h5⟩
      · rfl
      · simp only [if_neg h4] at hb; exact absurd hFb (key r2 rt2 h4 h5 hb)
    refine ⟨q, h1, Nat.lt_of_lt_of_le h2 hsz, fun r2 rt2 h hb => ?_⟩
    rcases hroot r2 rt2 h with ⟨rfl, rfl⟩ | ⟨h4, h5⟩
    · simp only [if_true] at hb; exact absurd hb hFb
    · simp only [if_neg h4] at hb; exact h3 r2 rt2 h5 hb

def pinAlso (r q : Nat) (l : List (Nat × Option Nat)) : List (Nat × Option Nat) := l ++ (l.filter fun x => x.2 == some r).map fun x => (x.1, some q)

theorem mem_pinAlso {r q : Nat} {l : List (Nat × Option Nat)} {x : Nat × Option Nat} (h : x ∈ l) : x ∈ pinAlso r q l := List.mem_append_left _ h
theorem mem_pinAlso_new {r q i : Nat} {l : List (Nat × Option Nat)} (h : (i, some r) ∈ l) : (i, some q) ∈ pinAlso r q l :=
  List.mem_append_right _ (List.mem_map.2 ⟨(i, some r), List.mem_filter.2 ⟨h, by simp⟩, rfl⟩)

theorem RelAt.pinned (R : RelAt w0 S0 N dr pc s a w S pl) {l : List (Nat × Option Nat)} (h : ∀ x ∈ s.pins, x ∈ l) : RelAt w0 S0 N dr pc { s with pins := l } a w S pl :=
  { R with pins := (fun hd i b hp => (R.pins hd i b hp).elim fun q hq => ⟨q, h _ hq.1, hq.2⟩) }

end
end Fer

namespace Fer
open Go

section
variable {P : Program} {tt : List (Nat × TE)} {w0 : World} {S0 : Nat → Prop} {N : Nat} {dr : Bool} {pc : Pins} {s : XS} {a : Act} {w w' : World} {S : Nat → Prop} {pl : Nat → PL}

structure TOK (P : Program) (T : Nat) (t : Ty) : Prop where
  size : ∃ inf z, P.info? T = some inf ∧ inf.size = t.width ∧ inf.zero = some z ∧ z.cells.toList.length = t.width ∧ ∀ w S, RO w S t t.dflt z.cells.toList
  agg : ∃ d, P.underlying T = some d ∧ (t.isProd = true → d.isRow = true) ∧ (t.isProd = false → d.isRow = false)

theorem aggB_row {T : Nat} {d : TypeDesc} (h : P.underlying T = some d) : aggB P T = d.isRow := by
  unfold aggB; rw [h]; cases d <;> rfl

theorem te_ok {T : Nat} {te : TE} {t : Ty} (h : teB P T te = true) (ht : te.ty = some t) : TOK P T t := by
  obtain ⟨d, hd⟩ := te_under h
  have hag := aggB_row hd
  cases te with
  | basic t' =>
    simp only [TE.ty, Option.some.injEq] at ht; subst ht
    simp only [teB, Bool.and_eq_true, beq_iff_eq] at h
    obtain ⟨⟨⟨h1, h2⟩, h3⟩, h4⟩ := h
    exact ⟨(infoB_ok h1).info, d, hd, fun e => by simp [e] at h3, fun _ => by rw [← hag]; exact h2⟩
  | map k v => simp [TE.ty] at ht
  | mapP k v => simp [TE.ty] at ht
  | slice e t' b =>
    simp only [TE.ty, Option.some.injEq] at ht; subst ht
    simp only [teB, Bool.and_eq_true] at h
    obtain ⟨⟨⟨⟨h1, h2⟩, h3⟩, h4⟩, h5⟩ := h
    refine ⟨(infoB_ok h5).info, d, hd, fun e => by simp [Ty.isProd] at e, fun _ => ?_⟩
    rw [hd] at h2
    cases d <;> first | rfl | (simp at h2; done)
  | arr n e t' => simp [TE.ty] at ht
  | struct ts =>
    simp only [teB, Bool.and_eq_true, decide_eq_true_eq] at h
    obtain ⟨⟨⟨h1, h2⟩, h3⟩, _⟩ := h
    simp only [TE.ty, h1, if_true, Option.some.injEq] at ht
    subst ht
    have hp : (prodOf ts).isProd = true := by
      match ts, h1 with
      | a :: b :: l, _ => rfl
    refine ⟨(infoB_ok h3).info, d, hd, fun _ => ?_, fun e => by rw [hp] at e; cases e⟩
    rw [hd] at h2
    cases d <;> first | rfl | (simp at h2; done)
  | pair e t' =>
    simp only [TE.ty, Option.some.injEq] at ht; subst ht
    obtain ⟨h1, _, _, h4⟩ := pair_te h
    rw [hd] at h1
    cases h1
    exact ⟨(infoB_ok h4).info, _, hd, fun _ => rfl, fun e => by cases e⟩

theorem Loc.range {b o : Nat} {cs : List Value} (h : Loc w b o cs) : w.rangeAt b o cs := by
  obtain ⟨arr, E, h1, h2, h3⟩ := h
  intro j v hv
  have hj : j < cs.length := (List.getElem?_eq_some_iff.1 hv).1
  simp only [World.cell?, h1]
  rw [← h3] at hv
  simp only [cellsAt, List.getElem?_take, List.getElem?_drop] at hv
  rw [if_pos hj] at hv
  simpa using hv

theorem Loc.frame {b o : Nat} {cs : List Value} (h : Loc w b o cs) (hb : w'.heap[b]? = w.heap[b]?) : Loc w' b o cs := by
  obtain ⟨arr, E, h1, h2, h3⟩ := h; exact ⟨arr, E, hb.trans h1, h2, h3⟩

theorem run_load_range {T : Nat} {t : Ty} (hT : TOK P T t) {b o : Nat} {cs : List Value} (hc : w.rangeAt b o cs) (hl : cs.length = t.width) :
    (Instr.loadAt T (.pointer (some ⟨b, o, none⟩))).run P w = .ok (pack t cs) w := by
  obtain ⟨inf, z, hi, hs, _⟩ := hT.size
  obtain ⟨d, hd, h1, h2⟩ := hT.agg
  by_cases ht : t.isProd = true
  · have e : pack t cs = .agg cs.toArray := by cases t <;> first | (simp [Ty.isProd] at ht; done) | rfl
    rw [e]
    exact run_loadAt_mid w b o T cs d hc hd (h1 ht) (by rw [hi]; simp [hs, hl])
  · have ht : t.isProd = false := by simpa using ht
    obtain ⟨v, rfl, e⟩ := pack_one ht hl
    rw [e]
    have hv := hc 0 v rfl
    simp only [Nat.add_zero] at hv
    have hr := h2 ht
    have hagg : (isAgg T).run P w = .ok false w := by
      unfold isAgg
      rw [Sem.run_bind, run_underlying hd w]
      cases d <;> first | (simp [TypeDesc.isRow] at hr; done) | simp
    simp only [Instr.loadAt, Instr.sureAddr, Sem.run_bind, Sem.run_pure, Result.andThen_ok, loadVar, hagg]
    simp [run_load, hv]

theorem addr_base {i : Nat} {p : List Nat} {e : Nat} {t : Ty} {ct : CT} (h : ∃ b cap kids, ct = .node b cap kids) (x y : Nat × Nat) :
    addrOf (i :: p) (.list e t) ct x = addrOf (i :: p) (.list e t) ct y := by
  obtain ⟨b, cap, kids, rfl⟩ := h; rfl

theorem RelAt.place (R : RelAt w0 S0 N dr pc s a w S pl) {r : Nat} {rt : RT} (hr : s.root r = some rt) {i : Nat} {p : List Nat} (hok : okS (i :: p) rt.ty rt.x (rt.k + 1)) (hc : hclear (i :: p) rt.h = true) :
    ∃ b o cs F' h', addrP (pl r) rt (i :: p) = .pointer (some ⟨b, o, none⟩) ∧ Loc w b o cs ∧
      Own w S (rt.at (i :: p)).t (dep (i :: p) rt.ty (rt.k + 1)) (rt.at (i :: p)).x h' (atCT (i :: p) rt.ty (pl r).ct) cs F' ∧ (∀ n, F' n → (pl r).F n) ∧ h' ≠ some [] ∧ (rt.h = none → h' = none) ∧ (pl r).F b := by
  obtain ⟨hv, H⟩ := R.own r rt hr
  have hnode : ∃ b cap kids, (pl r).ct = .node b cap kids := by
    have hne : rt.h ≠ some [] := by intro e; rw [e] at hc; simp [hclear] at hc
    rcases H with H | ⟨_, H⟩
    · exact absurd H.1 hne
    · generalize (pl r).ct = c at *
      cases c with
      | nil => rw [H.1] at hok; simp [okS] at hok
      | leaf => exact H.elim
      | pair => exact H.elim
      | node b cap kids => exact ⟨_, _, _, rfl⟩
  have hb := addr_base (i := i) (p := p) (e := rt.e) (t := rt.t) hnode
  obtain ⟨cs', F', h', e1, e2, e3, e4, e5, e6⟩ := nodeAt (i :: p) rt.ty (rt.k + 1) rt.x rt.h (pl r).ct [hv] (pl r).F ((addrOf (i :: p) rt.ty (pl r).ct (0, 0)).1 + 1) 0 H hok hc (.inl ⟨_, _, _, _, rfl, rfl⟩)
  have hb' : addrOf (i :: p) rt.ty (pl r).ct ((addrOf (i :: p) rt.ty (pl r).ct (0, 0)).1 + 1, 0) = addrOf (i :: p) rt.ty (pl r).ct (0, 0) := hb _ _
  rw [hb'] at e1 e6
  refine ⟨_, _, cs', F', h', rfl, e1, e2, e3, e4, e5, ?_⟩
  rcases e6 with e6 | e6
  · omega
  · exact e6

theorem Own.stable {t : Ty} {k : Nat} {x : t.den} {ct : CT} {cs : List Value} {F : Nat → Prop} (h : t.flat = true ∨ k = 0) (H : Own w S t k x none ct cs F) :
    RO w S t x cs ∧ ∀ n, ¬ F n := by
  have hF : ∀ n, ¬ F n := by
    induction t generalizing ct cs F with
    | int | bool | str | raw | fn | row | ro | func => exact H.1
    | list e t _ =>
      rcases h with h | rfl
      · simp [Ty.flat] at h
      · rcases H with H | ⟨_, H⟩
        · simp at H
        · exact H.2.2
    | prod a b iha ihb =>
      rcases H with H | ⟨_, H⟩
      · exact H.2.2
      · cases ct with
        | pair c d =>
          obtain ⟨c1, c2, F1, F2, h1, g1, g2, g3, g4⟩ := H
          intro n hn
          have ha : a.flat = true ∨ k = 0 := by rcases h with h | h; simp [Ty.flat] at h; exact .inl h.1; exact .inr h
          have hb : b.flat = true ∨ k = 0 := by rcases h with h | h; simp [Ty.flat] at h; exact .inl h.2; exact .inr h
          rcases (g1 n).1 hn with h1 | h1
          · exact iha (by simpa using ha) (by simpa using g3) n h1
          · exact ihb (by simpa using hb) (by simpa using g4) n h1
        | nil => exact H.elim
        | leaf => exact H.elim
        | node => exact H.elim
  exact ⟨H.freeze (fun b hb => hb) fun b hb => absurd hb (hF b), hF⟩

theorem Own.unhole {t : Ty} {k : Nat} {x : t.den} {h : Option (List Nat)} {ct : CT} {cs : List Value} {F : Nat → Prop} (ht : t.flat = true) (hh : h = none) (H : Own w S t k x h ct cs F) : RO w S t x cs := by
  subst hh; exact (H.stable (.inl ht)).1


def Ty.st : Ty → Ty
  | .ro e t => .list e t
  | .prod a b => .prod a.st b.st
  | .int k => .int k
  | .bool => .bool
  | .str => .str
  | .raw => .raw
  | .list e t => .list e t
  | .fn f t => .fn f t
  | .row e t => .row e t
  | .func => .func
def stV : (t : Ty) → t.den → t.st.den
  | .ro _ _, x => x.2
  | .prod a b, x => (stV a x.1, stV b x.2)
  | .int _, x => x
  | .bool, x => x
  | .str, x => x
  | .raw, x => x
  | .list _ _, x => x
  | .fn _ _, x => x
  | .row _ _, x => x
  | .func, x => x
def unV (v : Value) : (t : Ty) → t.st.den → t.den
  | .ro _ _, x => (v, x)
  | .prod a b, x => (unV v a x.1, unV v b x.2)
  | .int _, x => x
  | .bool, x => x
  | .str, x => x
  | .raw, x => x
  | .list _ _, x => x
  | .fn _ _, x => x
  | .row _ _, x => x
  | .func, x => x
def Ty.leafy : Ty → Bool
  | .ro _ _ => true
  | .prod a b => a.leafy && b.leafy
  | .list _ _ => false
  | .fn _ _ => false
  | .row _ _ => false
  | _ => true
def Ty.ros : Ty → Nat
  | .ro _ _ => 1
  | .prod a b => a.ros + b.ros
  | _ => 0

theorem width_st : ∀ t : Ty, t.st.width = t.width
  | .int _ | .bool | .str | .raw | .func | .list _ _ | .fn _ _ | .row _ _ | .ro _ _ => rfl
  | .prod a b => by simp only [Ty.st, Ty.width, width_st a, width_st b]
theorem RO.st : ∀ {t : Ty} {x : t.den} {cs : List Value}, RO w S t x cs → RO w S t.st (stV t x) cs
  | .int _, _, _, h | .bool, _, _, h | .str, _, _, h | .raw, _, _, h | .func, _, _, h | .list _ _, _, _, h | .fn _ _, _, _, h | .row _ _, _, _, h => h
  | .ro _ _, x, cs, h => by
    obtain ⟨rfl, a, cap, h1, h2⟩ := h
    exact ⟨a, cap, by rw [h1]; rfl, h2⟩
  | .prod a b, x, cs, h => by
    obtain ⟨c1, c2, rfl, h1, h2⟩ := h
    exact ⟨c1, c2, rfl, RO.st (t := a) h1, RO.st (t := b) h2⟩
theorem unV_none (v v' : Value) : ∀ {t : Ty} (x : t.st.den), t.ros = 0 → unV v t x = unV v' t x
  | .int _, _, _ | .bool, _, _ | .str, _, _ | .raw, _, _ | .func, _, _ | .list _ _, _, _ | .fn _ _, _, _ | .row _ _, _, _ => rfl
  | .ro _ _, _, h => by simp [Ty.ros] at h
  | .prod a b, x, h => by
    simp only [Ty.ros] at h
    show (unV v a x.1, unV v b x.2) = (unV v' a x.1, unV v' b x.2)
    rw [unV_none v v' (t := a) x.1 (by omega), unV_none v v' (t := b) x.2 (by omega)]
theorem RO.un : ∀ {t : Ty} {x : t.st.den} {cs : List Value}, t.ros ≤ 1 → RO w S t.st x cs → ∃ v, RO w S t (unV v t x) cs
  | .int _, _, _, _, h | .bool, _, _, _, h | .str, _, _, _, h | .raw, _, _, _, h | .func, _, _, _, h | .list _ _, _, _, _, h | .fn _ _, _, _, _, h | .row _ _, _, _, _, h => ⟨.bool false, h⟩
  | .ro _ _, x, cs, _, h => by
    obtain ⟨a, cap, rfl, h2, h3⟩ := h
    exact ⟨_, rfl, a, cap, rfl, h2, h3⟩
  | .prod a b, x, cs, hr, h => by
    simp only [Ty.ros] at hr
    obtain ⟨c1, c2, rfl, h1, h2⟩ := h
    obtain ⟨v1, g1⟩ := RO.un (t := a) (by omega) h1
    obtain ⟨v2, g2⟩ := RO.un (t := b) (by omega) h2
    by_cases ha : a.ros = 0
    · exact ⟨v2, c1, c2, rfl, by show RO w S a (unV v2 a x.1) c1; rw [unV_none v2 v1 (t := a) x.1 ha]; exact g1, g2⟩
    · exact ⟨v1, c1, c2, rfl, g1, by show RO w S b (unV v1 b x.2) c2; rw [unV_none v1 v2 (t := b) x.2 (by omega)]; exact g2⟩
theorem Own.leaf {k : Nat} : ∀ {t : Ty} {x : t.den} {ct : CT} {cs : List Value} {F : Nat → Prop}, t.leafy = true → Own w S t k x none ct cs F → RO w S t x cs
  | .int _, _, _, _, _, _, H | .bool, _, _, _, _, _, H | .str, _, _, _, _, _, H | .raw, _, _, _, _, _, H | .func, _, _, _, _, _, H | .ro _ _, _, _, _, _, _, H => H.2.elim (fun q => by cases q.1) fun q => q.2
  | .list _ _, _, _, _, _, h, _ | .fn _ _, _, _, _, _, h, _ | .row _ _, _, _, _, _, h, _ => by simp [Ty.leafy] at h
  | .prod a b, x, ct, cs, F, h, H => by
    simp only [Ty.leafy, Bool.and_eq_true] at h
    rcases H with H | ⟨_, H⟩
    · cases H.1
    · cases ct with
      | pair c d =>
        obtain ⟨c1, c2, F1, F2, rfl, _, _, g3, g4⟩ := H
        exact ⟨c1, c2, rfl, Own.leaf (t := a) h.1 g3, Own.leaf (t := b) h.2 g4⟩
      | nil => exact H.elim
      | leaf => exact H.elim
      | node => exact H.elim
theorem RO.leaf {k : Nat} : ∀ {t : Ty} {x : t.den} {cs : List Value}, t.leafy = true → RO w S t x cs → Own w S t k x none (CT.of t) cs noF
  | .int _, _, _, _, h | .bool, _, _, _, h | .str, _, _, _, h | .raw, _, _, _, h | .func, _, _, _, h | .ro _ _, _, _, _, h => ⟨fun _ h => h, .inr ⟨rfl, h⟩⟩
  | .list _ _, _, _, h, _ | .fn _ _, _, _, h, _ | .row _ _, _, _, h, _ => by simp [Ty.leafy] at h
  | .prod a b, x, cs, h, H => by
    simp only [Ty.leafy, Bool.and_eq_true] at h
    obtain ⟨c1, c2, rfl, h1, h2⟩ := H
    exact .inr ⟨by simp, c1, c2, noF, noF, rfl, by simp [noF], by simp [noF], RO.leaf (t := a) h.1 h1, RO.leaf (t := b) h.2 h2⟩


def qOf : AV → Option Nat
  | .ptr r _ => some r
  | _ => none

def ldPtr (t' : Ty) (rt : RT) (r : Nat) (p : List Nat) : Option PF :=
  if (rt.at p).t = t' ∧ hclear p rt.h = true then
    if t'.flat = true then (if rt.h = none then some (PF.of (okS p rt.ty rt.x (rt.k + 1)) (.dat (rt.at p).t (rt.at p).x)) else none)
    else if dep p rt.ty (rt.k + 1) = 0 then (if rt.h = none then some (PF.of (okS p rt.ty rt.x (rt.k + 1)) (.dat (rt.at p).t (rt.at p).x)) else none)
    else match t' with
      | .list _ _ => some (PF.of (okS p rt.ty rt.x (rt.k + 1)) (.ref r p))
      | .prod (.list _ _) (.list _ _) => if rt.h = none then some (PF.of (okS p rt.ty rt.x (rt.k + 1)) (.agg [.ref r (p ++ [0]), .ref r (p ++ [1])])) else none
      | _ => none
  else match rt.at p with
    | ⟨.ro e t, x⟩ => if t' = .list e t ∧ hclear p rt.h = true then some (PF.of (okS p rt.ty rt.x (rt.k + 1)) (.dat (.list e t) x.2)) else none
    | ⟨.prod a b, x⟩ => if (Ty.prod a b).leafy = true ∧ t' = .prod a.st b.st ∧ rt.h = none then some (PF.of (okS p rt.ty rt.x (rt.k + 1)) (.dat (.prod a.st b.st) (stV a x.1, stV b x.2))) else none
    | _ => none

theorem getS_snoc : ∀ (p : List Nat) (t : Ty) (x : t.den) (k j : Nat), okS p t x k → getS (p ++ [j]) t x = getS [j] (getS p t x).t (getS p t x).x
  | [], t, x, k, j, _ => rfl
  | i :: p, .list _ t, xs, k, j, h => getS_snoc p t _ (k - 1) j h.2.2
  | 0 :: p, .prod a _, x, k, j, h => getS_snoc p a _ k j h
  | 1 :: p, .prod _ b, x, k, j, h => getS_snoc p b _ k j h
  | (_ + 2) :: _, .prod a b, x, k, j, h => h.elim
  | _ :: _, .int _, x, k, j, h => h.elim
  | _ :: _, .bool, x, k, j, h => h.elim
  | _ :: _, .str, x, k, j, h => h.elim
  | _ :: _, .raw, x, k, j, h => h.elim
  | _ :: _, .fn _ _, x, k, j, h => h.elim
  | _ :: _, .row _ _, x, k, j, h => h.elim
  | _ :: _, .ro _ _, x, k, j, h => h.elim
  | _ :: _, .func, x, k, j, h => h.elim
theorem atCT_leaf (j : Nat) : ∀ t : Ty, atCT [j] t .leaf = .leaf
  | .prod _ _ => by match j with | 0 => rfl | 1 => rfl | _ + 2 => rfl
  | .list _ _ | .int _ | .bool | .str | .raw | .fn _ _ | .row _ _ | .ro _ _ | .func => by match j with | 0 => rfl | 1 => rfl | _ + 2 => rfl
theorem atCT_snoc : ∀ (p : List Nat) (t : Ty) (x : t.den) (k : Nat) (c : CT) (j : Nat), okS p t x k → atCT (p ++ [j]) t c = atCT [j] (getS p t x).t (atCT p t c)
  | [], t, x, k, c, j, _ => rfl
  | i :: p, .list _ t, xs, k, c, j, h => by
    cases c with
    | node b cap kids =>
      have := atCT_snoc p t _ (k - 1) (kids i) j h.2.2
      match i, this with
      | 0, h => exact h
      | 1, h => exact h
      | _ + 2, h => exact h
    | _ => exact (by match i with | 0 => exact (atCT_leaf j _).symm | 1 => exact (atCT_leaf j _).symm | _ + 2 => exact (atCT_leaf j _).symm)
  | 0 :: p, .prod a _, x, k, c, j, h => by
    cases c with
    | pair c d => exact atCT_snoc p a _ k c j h
    | _ => exact (atCT_leaf j _).symm
  | 1 :: p, .prod _ b, x, k, c, j, h => by
    cases c with
    | pair c d => exact atCT_snoc p b _ k d j h
    | _ => exact (atCT_leaf j _).symm
  | (_ + 2) :: _, .prod a b, x, k, c, j, h => h.elim
  | _ :: _, .int _, x, k, c, j, h => h.elim
  | _ :: _, .bool, x, k, c, j, h => h.elim
  | _ :: _, .str, x, k, c, j, h => h.elim
  | _ :: _, .raw, x, k, c, j, h => h.elim
  | _ :: _, .fn _ _, x, k, c, j, h => h.elim
  | _ :: _, .row _ _, x, k, c, j, h => h.elim
  | _ :: _, .ro _ _, x, k, c, j, h => h.elim
  | _ :: _, .func, x, k, c, j, h => h.elim

def ldAV (tt : List (Nat × TE)) (s : XS) (T : Nat) (x : AV) : Option PF :=
  match (lk tt T).bind TE.ty with
  | some t' => match x with
    | .rptr t y => if t = t' then some (PF.of True (.dat t y)) else none
    | .rpl _ t y => if t = t' then some (PF.of True (.dat t y)) else none
    | .ptr r (i :: p) => match s.root r with
      | some rt => ldPtr t' rt r (i :: p)
      | none => none
    | _ => none
  | none => none

theorem tt_ok (htt : ttB P tt = true) {T : Nat} {t : Ty} (h : (lk tt T).bind TE.ty = some t) : TOK P T t := by
  cases hl : lk tt T with
  | none => rw [hl] at h; cases h
  | some te => rw [hl] at h; exact te_ok (ttB_get htt hl) h

theorem cells_range {b o : Nat} {arr : Array Value} {E : Nat} {fr : Nat × Nat} {n : Nat} (h : w.heap[b]? = some (.cells arr E fr)) (hn : o + n ≤ arr.size) : w.rangeAt b o (cellsAt arr o n) := by
  intro j v hv
  have hj : j < n := by have := (List.getElem?_eq_some_iff.1 hv).1; rw [length_cellsAt hn] at this; exact this
  simp only [World.cell?, h]
  simp only [cellsAt, List.getElem?_take, List.getElem?_drop] at hv
  rw [if_pos hj] at hv
  simpa using hv

theorem range_frame {b o : Nat} {cs : List Value} (h : w.rangeAt b o cs) (hb : w'.heap[b]? = w.heap[b]?) : w'.rangeAt b o cs := by
  intro j v hv
  have := h j v hv
  simp only [World.cell?] at this ⊢
  rw [hb]; exact this

theorem ldAV_ok (htt : ttB P tt = true) (R : RelAt w0 S0 N dr pc s a w S pl) {T : Nat} {x : AV} {vx : Value} {pf : PF} (hx : AVR w S s.rts pl x vx) (hl : x.lt s.nxt)
    (h : ldAV tt s T x = some pf) (hpre : pf.pre) :
    ∃ v b, (∀ w', w'.heap[b]? = w.heap[b]? → (Instr.loadAt T vx).run P w' = .ok v w') ∧ AVR w S s.rts pl pf.av v ∧ pf.av.lt s.nxt ∧ b < w.heap.size ∧
      ∀ r rt, s.root r = some rt → (pl r).F b → qOf x = some r := by
  unfold ldAV at h
  cases ht : (lk tt T).bind TE.ty with
  | none => rw [ht] at h; cases h
  | some t' =>
    rw [ht] at h
    have hT := tt_ok htt ht
    cases x with
    | rptr t y =>
      simp only at h
      split at h
      · rename_i e; subst e
        cases h
        obtain ⟨b, o, arr, E, fr, rfl, h2, h3, h4, h5⟩ := hx
        refine ⟨_, b, fun w' hw' => run_load_range hT (range_frame (cells_range h3 h4) hw') (length_cellsAt h4), ⟨_, rfl, h5⟩, AV.lt_dat, R.lt b h2, fun r rt hr hF => absurd h2 (R.Flt r rt b hr hF).2⟩
      · cases h
    | rpl b t y =>
      simp only at h
      split at h
      · rename_i e; subst e
        cases h
        obtain ⟨rfl, arr, E, fr, h2, h3, h4, h5⟩ := hx
        refine ⟨_, b, fun w' hw' => run_load_range hT (range_frame (cells_range h3 (by rw [Nat.zero_add]; exact h4)) hw') (length_cellsAt (by rw [Nat.zero_add]; exact h4)), ⟨_, rfl, h5⟩, AV.lt_dat, R.lt b h2, fun r rt hr hF => absurd h2 (R.Flt r rt b hr hF).2⟩
      · cases h
    | ptr r p =>
      cases p with
      | nil => cases h
      | cons i p =>
        simp only at h
        cases hr : s.root r with
        | none => rw [hr] at h; cases h
        | some rt =>
          rw [hr] at h
          simp only [ldPtr] at h
          split at h
          · rename_i hc
            obtain ⟨hc1, hc2⟩ := hc
            have hvx : vx = addrP (pl r) rt (i :: p) := hx rt hr
            have hrlt : r < s.nxt := R.ids r rt hr
            have main : ∀ (hok : okS (i :: p) rt.ty rt.x (rt.k + 1)) (av : AV), (∀ b o cs F' h', Loc w b o cs → Own w S (rt.at (i :: p)).t (dep (i :: p) rt.ty (rt.k + 1)) (rt.at (i :: p)).x h' (atCT (i :: p) rt.ty (pl r).ct) cs F' →
                h' ≠ some [] → (rt.h = none → h' = none) → AVR w S s.rts pl av (pack t' cs) ∧ av.lt s.nxt) →
                ∃ v b, (∀ w', w'.heap[b]? = w.heap[b]? → (Instr.loadAt T vx).run P w' = .ok v w') ∧ AVR w S s.rts pl av v ∧ av.lt s.nxt ∧ b < w.heap.size ∧
                  ∀ r' rt', s.root r' = some rt' → (pl r').F b → qOf (.ptr r (i :: p)) = some r' := by
              intro hok av hav
              obtain ⟨b, o, cs, F', h', e1, e2, e3, e4, e5, e6, e7⟩ := R.place hr hok hc2
              obtain ⟨q1, q2⟩ := hav b o cs F' h' e2 e3 e5 e6
              rw [hvx, e1]
              refine ⟨_, b, fun w' hw' => run_load_range hT (range_frame e2.range hw') ?_, q1, q2, (R.Flt r rt b hr e7).1, fun r' rt' hr' hF => ?_⟩
              · rw [← hc1]; exact e3.length
              · simp only [qOf, Option.some.injEq]
                exact R.disj r r' rt rt' b hr hr' e7 hF
            split at h
            · rename_i hflat
              split at h
              · rename_i hh
                cases h
                refine main hpre _ fun b o cs F' h' e2 e3 e5 e6 => ⟨⟨cs, by rw [hc1], ?_⟩, AV.lt_dat⟩
                exact e3.unhole (by rw [hc1]; exact hflat) (e6 hh)
              · cases h
            · split at h
              · rename_i hdep
                split at h
                · rename_i hh
                  cases h
                  refine main hpre _ fun b o cs F' h' e2 e3 e5 e6 => ⟨⟨cs, by rw [hc1], ?_⟩, AV.lt_dat⟩
                  rw [e6 hh] at e3
                  exact (e3.stable (.inr hdep)).1
                · cases h
              · rename_i hdep
                split at h
                · rename_i e t hfl
                  cases h
                  refine main hpre _ fun b o cs F' h' e2 e3 e5 e6 => ⟨fun rt1 hrt1 => ?_, AV.lt_ref hrlt⟩
                  have : rt1 = rt := by have := hr.symm.trans (show s.root r = some rt1 from hrt1); exact (Option.some.inj this).symm
                  subst this
                  obtain ⟨k, hk⟩ : ∃ k, dep (i :: p) rt1.ty (rt1.k + 1) = k + 1 := ⟨_, (Nat.succ_pred_eq_of_pos (Nat.pos_of_ne_zero hdep)).symm⟩
                  rw [hk] at e3
                  generalize rt1.at (i :: p) = tv at *
                  obtain ⟨tv, x⟩ := tv
                  simp only at hc1
                  subst hc1
                  obtain ⟨v, rfl, hv⟩ := pack_one (t := .list e t) rfl (cs := cs) (by have := e3.length; exact this)
                  rw [hv]
                  exact (e3.hdr e5).1
                · rename_i ea ta eb tb hfl
                  split at h
                  · rename_i hh
                    cases h
                    refine main hpre _ fun b o cs F' h' e2 e3 e5 e6 => ?_
                    obtain rfl := e6 hh
                    obtain ⟨k, hk⟩ : ∃ k, dep (i :: p) rt.ty (rt.k + 1) = k + 1 := ⟨_, (Nat.succ_pred_eq_of_pos (Nat.pos_of_ne_zero hdep)).symm⟩
                    rw [hk] at e3
                    have hga : ∀ j, getS (i :: p ++ [j]) rt.ty rt.x = getS [j] (rt.at (i :: p)).t (rt.at (i :: p)).x := fun j => getS_snoc (i :: p) rt.ty rt.x _ j hpre
                    have hca : ∀ j, atCT (i :: p ++ [j]) rt.ty (pl r).ct = atCT [j] (rt.at (i :: p)).t (atCT (i :: p) rt.ty (pl r).ct) := fun j => atCT_snoc (i :: p) rt.ty rt.x _ _ j hpre
                    generalize atCT (i :: p) rt.ty (pl r).ct = c0 at *
                    generalize rt.at (i :: p) = tv at *
                    obtain ⟨tv, x⟩ := tv
                    simp only at hc1
                    subst hc1
                    rcases e3 with e3 | ⟨_, e3⟩
                    · simp at e3
                    · cases c0 with
                      | pair c d =>
                        obtain ⟨c1, c2, F1, F2, rfl, _, _, g3, g4⟩ := e3
                        rw [hsub_none] at g3 g4
                        obtain ⟨v1, rfl, _⟩ := pack_one (t := .list ea ta) rfl g3.length
                        obtain ⟨v2, rfl, _⟩ := pack_one (t := .list eb tb) rfl g4.length
                        have d1 := (g3.hdr (by simp)).1
                        have d2 := (g4.hdr (by simp)).1
                        refine ⟨⟨[v1, v2], ?_, .cons (fun rt1 hrt1 => ?_) (.cons (fun rt1 hrt1 => ?_) .nil)⟩, ?_⟩
                        · have q1 : v1.cells.toList = [v1] := by rw [d1]; unfold hdr; split <;> rfl
                          have q2 : v2.cells.toList = [v2] := by rw [d2]; unfold hdr; split <;> rfl
                          simp only [List.flatMap_cons, List.flatMap_nil, q1, q2, List.append_nil, List.cons_append, List.nil_append]
                          rfl
                        · have : rt1 = rt := by have := hr.symm.trans (show s.root r = some rt1 from hrt1); exact (Option.some.inj this).symm
                          subst this
                          show v1 = hdr (atCT (i :: p ++ [0]) rt1.ty (pl r).ct) (getS (i :: p ++ [0]) rt1.ty rt1.x).len
                          rw [hga, hca]
                          exact d1
                        · have : rt1 = rt := by have := hr.symm.trans (show s.root r = some rt1 from hrt1); exact (Option.some.inj this).symm
                          subst this
                          show v2 = hdr (atCT (i :: p ++ [1]) rt1.ty (pl r).ct) (getS (i :: p ++ [1]) rt1.ty rt1.x).len
                          rw [hga, hca]
                          exact d2
                        · intro av hav r2 hr2
                          simp only [List.mem_cons, List.not_mem_nil, or_false] at hav
                          rcases hav with rfl | rfl <;> simp only [AV.ids, List.mem_singleton] at hr2 <;> subst hr2 <;> exact hrlt
                      | nil => exact e3.elim
                      | node => exact e3.elim
                      | leaf => exact e3.elim
                  · cases h
                · cases h
          · split at h
            · rename_i e t x0 hx0
              split at h
              · rename_i hc
                obtain ⟨rfl, hc2⟩ := hc
                cases h
                have hrlt : r < s.nxt := R.ids r rt hr
                obtain ⟨b, o, cs, F', h', e1, e2, e3, e4, e5, e6, e7⟩ := R.place hr hpre hc2
                have hvx : vx = addrP (pl r) rt (i :: p) := hx rt hr
                rw [hx0] at e3
                rcases e3.2 with e3 | e3
                · exact absurd e3.1 e5
                · obtain ⟨_, rfl, a1, cap, g1, g2⟩ := e3
                  rw [hvx, e1]
                  refine ⟨_, b, fun w' hw' => run_load_range hT (t := .list e t) (range_frame e2.range hw') rfl, ⟨[x0.1], rfl, a1, cap, by rw [g1], g2⟩, AV.lt_dat, (R.Flt r rt b hr e7).1, fun r' rt' hr' hF => ?_⟩
                  simp only [qOf, Option.some.injEq]
                  exact R.disj r r' rt rt' b hr hr' e7 hF
              · cases h
            · rename_i ta tb x0 hx0
              split at h
              · rename_i hc
                obtain ⟨hlf, rfl, hh⟩ := hc
                cases h
                obtain ⟨b, o, cs, F', h', e1, e2, e3, e4, e5, e6, e7⟩ := R.place hr hpre (by rw [hh]; exact hclear_none _)
                have hvx : vx = addrP (pl r) rt (i :: p) := hx rt hr
                rw [hx0] at e3
                have hh' := e6 hh
                subst hh'
                have hro := (Own.leaf (t := .prod ta tb) hlf e3).st
                rw [hvx, e1]
                refine ⟨_, b, fun w' hw' => run_load_range hT (t := .prod ta.st tb.st) (range_frame e2.range hw') (by have := e3.length; rw [this]; exact (width_st (.prod ta tb)).symm), ⟨cs, rfl, hro⟩, AV.lt_dat, (R.Flt r rt b hr e7).1, fun r' rt' hr' hF => ?_⟩
                simp only [qOf, Option.some.injEq]
                exact R.disj r r' rt rt' b hr hr' e7 hF
              · cases h
            · cases h
    | dat => cases h
    | ref => cases h
    | sub => cases h
    | clo => cases h
    | tup => cases h
    | agg => cases h
    | mp => cases h
    | loc => cases h
    | one => cases h
    | junk => cases h

end
end Fer

namespace Fer
open Go


def safeR : Ty → List Nat → List Nat → Bool
  | _, [], _ => false
  | _, _ :: _, [] => true
  | .list _ t, _ :: p, _ :: q => safeR t p q
  | .prod a b, i :: p, j :: q => match i, j with
    | 0, 0 => safeR a p q
    | 1, 1 => safeR b p q
    | 0, 1 => true
    | 1, 0 => true
    | _, _ => false
  | _, _ :: _, _ :: _ => false

def safeP : Ty → List Nat → List Nat → Bool
  | _, _, [] => true
  | _, [], _ :: _ => false
  | .list _ t, _ :: p, _ :: q => safeP t p q
  | .prod a b, i :: p, j :: q => match i, j with
    | 0, 0 => safeP a p q
    | 1, 1 => safeP b p q
    | 0, 1 => true
    | 1, 0 => true
    | _, _ => false
  | _, _ :: _, _ :: _ => false

def ctHead : CT → Option (Nat × Nat)
  | .node b cap _ => some (b, cap)
  | _ => none

theorem hdr_head {c c' : CT} (h : ctHead c = ctHead c') (n : Nat) : hdr c n = hdr c' n := by
  cases c <;> cases c' <;> simp [ctHead] at h <;> first | rfl | (obtain ⟨rfl, rfl⟩ := h; rfl)

theorem subR_head {c c' : CT} (h : ctHead c = ctHead c') (w lo hi : Nat) (v : Value) : subR c w lo hi v ↔ subR c' w lo hi v := by
  cases c <;> cases c' <;> simp [ctHead] at h <;> first | exact Iff.rfl | (obtain ⟨rfl, rfl⟩ := h; exact Iff.rfl)

theorem set_getD {α : Type} {l : List α} {i j : Nat} {v d : α} : (l.set i v).getD j d = l.getD j d ∨ (i = j ∧ (l.set i v).getD j d = v) := by
  by_cases h : i < l.length
  · rw [getD_set l i j v d h]
    by_cases e : j = i
    · rw [if_pos e]; exact .inr ⟨e.symm, rfl⟩
    · rw [if_neg e]; exact .inl rfl
  · rw [List.set_eq_of_length_le (by omega)]; exact .inl rfl

theorem safe_at : ∀ (t : Ty) (p q : List Nat) (x : t.den) (y : TV) (ct c' : CT), safeR t p q = true →
    (getS q t (setT p t x y)).t = (getS q t x).t ∧ (getS q t (setT p t x y)).len = (getS q t x).len ∧ ctHead (atCT q t (setCT p t ct c')) = ctHead (atCT q t ct)
  | t, [], q, x, y, ct, c', h => by cases t <;> cases q <;> simp [safeR] at h
  | t, i :: p, [], x, y, ct, c', _ => by
    refine ⟨rfl, ?_, ?_⟩
    · cases t <;> simp [getS, setT, TV.len]
    · cases t with
      | list e t => cases ct <;> rfl
      | prod a b =>
        match i with
        | 0 => cases ct <;> rfl
        | 1 => cases ct <;> rfl
        | _ + 2 => cases ct <;> rfl
      | int | bool | str | raw | fn | row | ro | func => cases ct <;> rfl
  | .list e t, i :: p, j :: q, xs, y, ct, c', h => by
    simp only [safeR] at h
    simp only [getS, setT]
    rcases set_getD (l := xs) (i := i) (j := j) (v := setT p t (xs.getD i t.dflt) y) (d := t.dflt) with e1 | ⟨rfl, e1⟩
    · rw [e1]
      refine ⟨rfl, rfl, ?_⟩
      cases ct with
      | node b cap kids =>
        simp only [setCT, atCT]
        by_cases hji : j = i
        · rw [if_pos hji]; subst hji; exact (safe_at t p q (xs.getD j t.dflt) y (kids j) c' h).2.2
        · rw [if_neg hji]
      | nil => rfl
      | leaf => rfl
      | pair => rfl
    · rw [e1]
      obtain ⟨r1, r2, r3⟩ := safe_at t p q (xs.getD i t.dflt) y (match ct with | .node _ _ kids => kids i | _ => .leaf) c' h
      refine ⟨r1, r2, ?_⟩
      cases ct with
      | node b cap kids => simp only [setCT, atCT]; simpa using r3
      | nil => rfl
      | leaf => rfl
      | pair => rfl
  | .prod a b, i :: p, j :: q, x, y, ct, c', h => by
    match i, j, h with
    | 0, 0, h =>
      obtain ⟨r1, r2, r3⟩ := safe_at a p q x.1 y (match ct with | .pair u _ => u | _ => .leaf) c' h
      refine ⟨r1, r2, ?_⟩
      cases ct with
      | pair u v => exact r3
      | nil => rfl
      | leaf => rfl
      | node => rfl
    | 1, 1, h =>
      obtain ⟨r1, r2, r3⟩ := safe_at b p q x.2 y (match ct with | .pair _ u => u | _ => .leaf) c' h
      refine ⟨r1, r2, ?_⟩
      cases ct with
      | pair u v => exact r3
      | nil => rfl
      | leaf => rfl
      | node => rfl
    | 0, 1, _ => refine ⟨rfl, rfl, ?_⟩; cases ct <;> rfl
    | 1, 0, _ => refine ⟨rfl, rfl, ?_⟩; cases ct <;> rfl
    | 0, _ + 2, h => simp [safeR] at h
    | 1, _ + 2, h => simp [safeR] at h
    | _ + 2, 0, h => simp [safeR] at h
    | _ + 2, 1, h => simp [safeR] at h
    | _ + 2, _ + 2, h => simp [safeR] at h
  | .int _, _ :: _, _ :: _, _, _, _, _, h => by simp [safeR] at h
  | .bool, _ :: _, _ :: _, _, _, _, _, h => by simp [safeR] at h
  | .str, _ :: _, _ :: _, _, _, _, _, h => by simp [safeR] at h
  | .raw, _ :: _, _ :: _, _, _, _, _, h => by simp [safeR] at h
  | .fn _ _, _ :: _, _ :: _, _, _, _, _, h => by simp [safeR] at h
  | .row _ _, _ :: _, _ :: _, _, _, _, _, h => by simp [safeR] at h
  | .ro _ _, _ :: _, _ :: _, _, _, _, _, h => by simp [safeR] at h
  | .func, _ :: _, _ :: _, _, _, _, _, h => by simp [safeR] at h

theorem safe_adr : ∀ (t : Ty) (p q : List Nat) (ct c' : CT) (b : Nat × Nat), safeP t p q = true → addrOf q t (setCT p t ct c') b = addrOf q t ct b
  | t, p, [], ct, c', b, _ => by cases t <;> simp [addrOf]
  | t, [], _ :: _, ct, c', b, h => by cases t <;> simp [safeP] at h
  | .list e t, i :: p, j :: q, ct, c', b, h => by
    simp only [safeP] at h
    cases ct with
    | node blk cap kids =>
      simp only [setCT, addrOf]
      by_cases hji : j = i
      · rw [if_pos hji]; subst hji; exact safe_adr t p q (kids j) c' _ h
      · rw [if_neg hji]
    | nil => rfl
    | leaf => rfl
    | pair => rfl
  | .prod a c, i :: p, j :: q, ct, c', b, h => by
    match i, j, h with
    | 0, 0, h =>
      cases ct with
      | pair u v => exact safe_adr a p q u c' b h
      | nil => rfl
      | leaf => rfl
      | node => rfl
    | 1, 1, h =>
      cases ct with
      | pair u v => exact safe_adr c p q v c' _ h
      | nil => rfl
      | leaf => rfl
      | node => rfl
    | 0, 1, _ => cases ct <;> rfl
    | 1, 0, _ => cases ct <;> rfl
    | 0, _ + 2, h => simp [safeP] at h
    | 1, _ + 2, h => simp [safeP] at h
    | _ + 2, 0, h => simp [safeP] at h
    | _ + 2, 1, h => simp [safeP] at h
    | _ + 2, _ + 2, h => simp [safeP] at h
  | .int _, _ :: _, _ :: _, _, _, _, h => by simp [safeP] at h
  | .bool, _ :: _, _ :: _, _, _, _, h => by simp [safeP] at h
  | .str, _ :: _, _ :: _, _, _, _, h => by simp [safeP] at h
  | .raw, _ :: _, _ :: _, _, _, _, h => by simp [safeP] at h
  | .fn _ _, _ :: _, _ :: _, _, _, _, h => by simp [safeP] at h
  | .row _ _, _ :: _, _ :: _, _, _, _, h => by simp [safeP] at h
  | .ro _ _, _ :: _, _ :: _, _, _, _, h => by simp [safeP] at h
  | .func, _ :: _, _ :: _, _, _, _, h => by simp [safeP] at h

theorem safeP_one (rt : RT) (i : Nat) (p : List Nat) : safeP rt.ty (i :: p) [0] = true := by
  cases p <;> simp [safeP]

def RT.wr (rt : RT) (p : List Nat) (y : TV) : RT := { rt with h := none, x := setT p rt.ty rt.x y }
def RT.cut (rt : RT) (p : List Nat) : RT := { rt with h := some p }

theorem ew_of {u v : TV} (h : u.t = v.t) : u.ew = v.ew := by unfold TV.ew; rw [h]

theorem safe_names (rt : RT) (p : List Nat) (y : TV) (ct c' : CT) : SameNames (safeR rt.ty p) (safeP rt.ty p) rt (rt.wr p y) ct (setCT p rt.ty ct c') where
  hd := fun q hq => by
    obtain ⟨r1, r2, r3⟩ := safe_at rt.ty p q rt.x y ct c' hq
    show hdr (atCT q rt.ty (setCT p rt.ty ct c')) (getS q rt.ty (setT p rt.ty rt.x y)).len = _
    rw [r2]; exact hdr_head r3 _
  sub := fun q lo hi v hq _ h2 h3 => by
    obtain ⟨r1, r2, r3⟩ := safe_at rt.ty p q rt.x y ct c' hq
    refine ⟨?_, ?_⟩
    · show hi ≤ (getS q rt.ty (setT p rt.ty rt.x y)).len
      rw [r2]; exact h2
    · show subR (atCT q rt.ty (setCT p rt.ty ct c')) (getS q rt.ty (setT p rt.ty rt.x y)).ew lo hi v
      rw [ew_of r1]; exact (subR_head r3 _ _ _ _).2 h3
  adr := fun q hq => safe_adr rt.ty p q ct c' _ hq

section
variable {P : Program} {tt : List (Nat × TE)} {w0 : World} {S0 : Nat → Prop} {N : Nat} {dr : Bool} {pc : Pins} {s : XS} {a : Act} {w w' : World} {S : Nat → Prop} {pl : Nat → PL}

theorem RelAt.holePlace (R : RelAt w0 S0 N dr pc s a w S pl) {r : Nat} {rt : RT} (hr : s.root r = some rt) {i : Nat} {p : List Nat} (hh : rt.h = some (i :: p)) (hok : okS (i :: p) rt.ty rt.x (rt.k + 1)) :
    ∃ b o cs, addrOf (i :: p) rt.ty (pl r).ct (0, 0) = (b, o) ∧ Loc w b o cs ∧ cs.length = (rt.at (i :: p)).t.width ∧ (pl r).F b ∧ ∃ bb cap kids, (pl r).ct = .node bb cap kids := by
  obtain ⟨hv, H⟩ := R.own r rt hr
  have hnode : ∃ b cap kids, (pl r).ct = .node b cap kids := by
    rcases H with H | ⟨_, H⟩
    · rw [hh] at H; simp at H
    · generalize (pl r).ct = c at *
      cases c with
      | nil => rw [H.1] at hok; simp [okS] at hok
      | leaf => exact H.elim
      | pair => exact H.elim
      | node b cap kids => exact ⟨_, _, _, rfl⟩
  have hb := addr_base (i := i) (p := p) (e := rt.e) (t := rt.t) hnode
  have hc : hclear0 (i :: p) rt.h = true := by rw [hh]; simp [hclear0]
  obtain ⟨cs', F', h', e1, e2, e3, e4, e5, e6⟩ := nodeAt0 (i :: p) rt.ty (rt.k + 1) rt.x rt.h (pl r).ct [hv] (pl r).F ((addrOf (i :: p) rt.ty (pl r).ct (0, 0)).1 + 1) 0 H hok hc (.inl ⟨_, _, _, _, rfl, rfl⟩)
  have hb' : addrOf (i :: p) rt.ty (pl r).ct ((addrOf (i :: p) rt.ty (pl r).ct (0, 0)).1 + 1, 0) = addrOf (i :: p) rt.ty (pl r).ct (0, 0) := hb _ _
  rw [hb'] at e1 e6
  refine ⟨_, _, cs', rfl, e1, e2.length, ?_, hnode⟩
  rcases e6 with e6 | e6
  · omega
  · exact e6

theorem sameOut_setRow {w : World} {b : Nat} {arr cs : Array Value} {E : Nat} {fr : Nat × Nat} (h : w.heap[b]? = some (.cells arr E fr)) {T : Nat → Prop} : SameOut T w (w.setRow b cs) := by
  refine ⟨rfl, fun a _ _ => ?_, by simp [World.setRow], (fun _ => Nat.le_refl _)⟩
  by_cases e : a.block = b
  · have := setRow_heap w b arr cs E fr h
    simp only [World.frozen?, e, this, h]
  · simp only [World.frozen?, setRow_other w b a.block cs e]

theorem setRow_size (w : World) (b : Nat) (cs : Array Value) : (w.setRow b cs).heap.size = w.heap.size := by simp [World.setRow]

theorem RelAt.fill (R : RelAt w0 S0 N dr pc s a w S pl) {r : Nat} {rt : RT} (hr : s.root r = some rt) {i : Nat} {p : List Nat} (hh : rt.h = some (i :: p)) (hok : okS (i :: p) rt.ty rt.x (rt.k + 1))
    {y : TV} {ct' : CT} {cs' : List Value} {F' : Nat → Prop} (Hy : Own w S y.t (dep (i :: p) rt.ty (rt.k + 1)) y.x none ct' cs' F') (hyt : y.t = (rt.at (i :: p)).t)
    (hF' : ∀ b, F' b → b < w.heap.size ∧ ¬ S b ∧ (∀ r2 rt2, s.root r2 = some rt2 → ¬ (pl r2).F b) ∧ (dr = true → ∀ i, pc i b → (i, some r) ∈ s.pins)) :
    ∃ b o arr E, addrP (pl r) rt (i :: p) = .pointer (some ⟨b, o, none⟩) ∧ w.heap[b]? = some (.cells arr E (0, 0)) ∧ o + cs'.length ≤ arr.size ∧ (pl r).F b ∧
      ∃ pl', RelAt w0 S0 N dr pc { s.setRoot r (rt.wr (i :: p) y) with env := cutEnv r (safeR rt.ty (i :: p)) (safeP rt.ty (i :: p)) s.env } a (w.setRow b (spl arr o cs')) S pl' := by
  obtain ⟨b, o, cs, hadr, ⟨arr, E, q1, q2, q3⟩, hlen, hFb, hnode⟩ := R.holePlace hr hh hok
  have hcl : cs'.length = cs.length := by rw [hlen, ← hyt]; exact Hy.length
  refine ⟨b, o, arr, E, (by unfold addrP; rw [hadr]), q1, by rw [hcl]; exact q2, hFb, ?_⟩
  obtain ⟨hv, H⟩ := R.own r rt hr
  rw [hh] at H
  have hold : ∀ n, n ≠ b → (w.setRow b (spl arr o cs')).heap[n]? = w.heap[n]? := fun n hn => setRow_other w b n _ hn
  have hbN : b < w.heap.size := (R.Flt r rt b hr hFb).1
  have hadr' : addrOf (i :: p) rt.ty (pl r).ct (w.heap.size, 0) = (b, o) := (addr_base (e := rt.e) (t := rt.t) hnode _ _).trans hadr
  obtain ⟨cs2, H2, h2⟩ := Fer.fill (w := w) (w' := w.setRow b (spl arr o cs')) y (dep (i :: p) rt.ty (rt.k + 1)) ct' cs' F' b o Hy hold
    (fun arr' E' h => by
      rw [q1] at h; cases h
      exact setRow_heap w b arr _ E (0, 0) q1) (R.Flt r rt b hr hFb).2 (fun h => (hF' b h).2.2.1 r rt hr hFb) (i :: p) rt.ty (rt.k + 1) rt.x (pl r).ct [hv] (pl r).F w.heap.size 0 H hok
    (.inl ⟨_, _, _, _, rfl, rfl⟩) (fun h => absurd (R.Flt r rt _ hr h).1 (Nat.lt_irrefl _)) hyt rfl (fun n h1 h2 => (hF' n h2).2.2.1 r rt hr h1) hadr'
  have hcs2 : cs2 = [hv] := by
    rcases h2 with h2 | h2
    · omega
    · exact h2.2.2
  subst hcs2
  exact ⟨_, R.setRoot (rt' := rt.wr (i :: p) y) hr (safeP_one rt i p) rfl rfl (sameOut_setRow q1) (by rw [setRow_size]; exact Nat.le_refl _) (fun n hn hnF => hold n fun e => hnF (e ▸ hFb)) H2
    (fun n hn => by
      rcases hn with hn | hn
      · exact ⟨by rw [setRow_size]; exact (R.Flt r rt n hr hn).1, .inl hn⟩
      · obtain ⟨g1, g2, g3, g4⟩ := hF' n hn
        exact ⟨by rw [setRow_size]; exact g1, .inr (.inr ⟨g2, fun r2 rt2 _ h => g3 r2 rt2 h, g4⟩)⟩)
    (safe_names rt (i :: p) y (pl r).ct ct')⟩

theorem cutEnv_all (r : Nat) : ∀ l : List (Nat × AV), cutEnv r (fun _ => true) (fun _ => true) l = l
  | [] => rfl
  | (i, av) :: l => by
    have hsb : ∀ a : AV, shB r (fun _ => true) (fun _ => true) a = true := fun a => by cases a <;> simp [shB]
    have : av.shallow r (fun _ => true) (fun _ => true) = true := by
      cases av <;> simp [AV.shallow, hsb]
    simp only [cutEnv, this, if_true, cutEnv_all r l]

theorem same_names (rt : RT) (h : Option (List Nat)) (ct : CT) : SameNames (fun _ => true) (fun _ => true) rt { rt with h := h } ct ct :=
  ⟨fun _ _ => rfl, fun _ _ _ _ _ _ h1 h2 => ⟨h1, h2⟩, fun _ _ => rfl⟩

theorem RelAt.punch (R : RelAt w0 S0 N dr pc s a w S pl) {r : Nat} {rt : RT} (hr : s.root r = some rt) (hh : rt.h = none) {i : Nat} {p : List Nat} (hok : okS (i :: p) rt.ty rt.x (rt.k + 1)) :
    ∃ b o cs F' pl', addrP (pl r) rt (i :: p) = .pointer (some ⟨b, o, none⟩) ∧ Loc w b o cs ∧
      Own w S (rt.at (i :: p)).t (dep (i :: p) rt.ty (rt.k + 1)) (rt.at (i :: p)).x none (atCT (i :: p) rt.ty (pl r).ct) cs F' ∧
      RelAt w0 S0 N dr pc (s.setRoot r (rt.cut (i :: p))) a w S pl' ∧ (pl' r).ct = (pl r).ct ∧ (∀ r2 n, (pl' r2).F n → (pl r2).F n) ∧
      ∀ n, F' n → (pl r).F n ∧ n < w.heap.size ∧ ¬ S n ∧ (∀ r2 rt2, (s.setRoot r (rt.cut (i :: p))).root r2 = some rt2 → ¬ (pl' r2).F n) ∧ (dr = true → ∀ i, pc i n → (i, some r) ∈ s.pins) := by
  obtain ⟨b0, o0, cs0, F0, h0, a1, _⟩ := R.place hr hok (by rw [hh]; rfl)
  obtain ⟨hv, H⟩ := R.own r rt hr
  rw [hh] at H
  have hnode : ∃ b cap kids, (pl r).ct = .node b cap kids := by
    rcases H with H | ⟨_, H⟩
    · simp at H
    · generalize (pl r).ct = c at *
      cases c with
      | nil => rw [H.1] at hok; simp [okS] at hok
      | leaf => exact H.elim
      | pair => exact H.elim
      | node b cap kids => exact ⟨_, _, _, rfl⟩
  obtain ⟨cs', F', b', o', e1, e2, e3, e4, e5, e6⟩ := Fer.punch (i :: p) rt.ty (rt.k + 1) rt.x (pl r).ct [hv] (pl r).F 0 0 H hok (.inl ⟨_, _, _, _, rfl, rfl⟩)
  have R1 := R.setRoot (rt' := rt.cut (i :: p)) (kr := fun _ => true) (kp := fun _ => true) (w' := w) (ct' := (pl r).ct) (F' := fun n => (pl r).F n ∧ ¬ F' n) hr rfl rfl rfl (SameOut.refl w) (Nat.le_refl _) (fun _ _ _ => rfl)
    (show Own w S rt.ty (rt.k + 1) rt.x (some (i :: p)) (pl r).ct [hv] _ from e5) (fun n hn => ⟨(R.Flt r rt n hr hn.1).1, .inl hn.1⟩) (same_names rt _ _)
  rw [cutEnv_all] at R1
  refine ⟨b', o', cs', F', _, by simp only [addrP]; rw [e1], e2, e3, R1, by simp, (fun r2 n h => by
    by_cases e : r2 = r
    · subst e; simp only [if_true] at h; exact h.1
    · simp only [if_neg e] at h; exact h), fun n hn => ⟨e4 n hn, (R.Flt r rt n hr (e4 n hn)).1, (R.Flt r rt n hr (e4 n hn)).2, fun r2 rt2 h2 hb => ?_, fun hd j hj => ?_⟩⟩
  · simp only [XS.root, XS.setRoot, lk] at h2
    by_cases e : r = r2
    · subst e
      simp only [if_true] at hb
      exact hb.2 hn
    · rw [if_neg e] at h2
      simp only [if_neg (fun e' => e e'.symm : ¬ r2 = r)] at hb
      exact e (R.disj r r2 rt rt2 n hr (lk_rm_some h2).2 (e4 n hn) hb)
  · obtain ⟨q, h1, h2, h3⟩ := R.pins hd j n hj
    rw [← h3 r rt hr (e4 n hn)]; exact h1

theorem run_store_at {T : Nat} {t : Ty} (hT : TOK P T t) {b o : Nat} {arr : Array Value} {E : Nat} {v : Value} {cs : List Value} (hb : w.heap[b]? = some (.cells arr E (0, 0))) (hv : v.cells.toList = cs)
    (hl : cs.length = t.width) (hfit : o + cs.length ≤ arr.size) (h1 : ∀ u ∈ cs, u.oneCell' = true) :
    (Instr.storeAt T (.pointer (some ⟨b, o, none⟩)) v).run P w = .ok () (w.setRow b (spl arr o cs)) := by
  obtain ⟨inf, z, hi, hs, _⟩ := hT.size
  have hsz : v.cells.size = inf.size := by rw [hs, ← hl, ← hv]; simp
  have hst := run_storeCells_at P b o E cs 0 arr w hb (by simpa using hfit) h1
  simp only [Nat.add_zero] at hst
  simp only [List.append_assoc] at hst; simp [Instr.storeAt, Instr.sureAddr, storeVar, Go.sizeOf, typeInfo, hi, hsz, hv, hst, spl]

end
end Fer

namespace Fer
open Go

theorem cellsAt_cong {A B : Array Value} {m o n : Nat} (h : A.toList.take m = B.toList.take m) (hm : o + n ≤ m) : cellsAt A o n = cellsAt B o n := by
  have e : ∀ C : Array Value, cellsAt C o n = cellsAt (C.toList.take m).toArray o n := by
    intro C
    simp only [cellsAt, List.drop_take, List.take_take]
    rw [Nat.min_eq_left (by omega)]
  rw [e A, e B, h]

theorem mul_fit {i n m w : Nat} (hi : i < n) (hn : n ≤ m) : i * w + w ≤ m * w := by
  rw [← Nat.succ_mul]; exact Nat.mul_le_mul_right _ (by omega)

section
variable {P : Program} {w w' : World} {S : Nat → Prop}

theorem own_row {e : Nat} {t : Ty} {k : Nat} {l : List t.den} {b cap : Nat} {arr : Array Value} {kids : Nat → CT} {Fs : Nat → Nat → Prop}
    (hb : w.heap[b]? = some (.cells arr e (0, 0))) (hs : arr.size = cap * t.width) (hl : l.length ≤ cap) (hc : cap ≤ maxLen)
    (hel : ∀ i, i < l.length → Own w S t k (l.getD i t.dflt) none (kids i) (cellsAt arr (i * t.width) t.width) (Fs i))
    (hFb : ∀ i, i < l.length → ¬ Fs i b) (hd : ∀ i j n, i < l.length → j < l.length → Fs i n → Fs j n → i = j) :
    Own w S (.list e t) (k + 1) l none (.node b cap kids) [.slice (some ⟨b, 0, none⟩) l.length cap] (fun n => n = b ∨ ∃ i, i < l.length ∧ Fs i n) :=
  .inr ⟨by simp, rfl, hl, hc, arr, hb, hs, Fs, fun _ => Iff.rfl, hFb, hd, hel⟩

theorem own_inv {e : Nat} {t : Ty} {k : Nat} {l : List t.den} {ct : CT} {cs : List Value} {F : Nat → Prop} (H : Own w S (.list e t) (k + 1) l none ct cs F) :
    (ct = .nil ∧ l = [] ∧ cs = [.slice none 0 0] ∧ ∀ n, ¬ F n) ∨
    ∃ (b cap : Nat) (kids : Nat → CT) (arr : Array Value) (Fs : Nat → Nat → Prop), ct = .node b cap kids ∧ cs = [.slice (some ⟨b, 0, none⟩) l.length cap] ∧ l.length ≤ cap ∧ cap ≤ maxLen ∧ w.heap[b]? = some (.cells arr e (0, 0)) ∧ arr.size = cap * t.width ∧
      (∀ n, F n ↔ n = b ∨ ∃ i, i < l.length ∧ Fs i n) ∧ (∀ i, i < l.length → ¬ Fs i b) ∧ (∀ i j n, i < l.length → j < l.length → Fs i n → Fs j n → i = j) ∧
      ∀ i, i < l.length → Own w S t k (l.getD i t.dflt) none (kids i) (cellsAt arr (i * t.width) t.width) (Fs i) := by
  rcases H with H | ⟨_, H⟩
  · simp at H
  · cases ct with
    | nil => exact .inl ⟨rfl, H⟩
    | leaf => exact H.elim
    | pair => exact H.elim
    | node b cap kids =>
      obtain ⟨h1, h2, h3, arr, h4, h5, Fs, g1, g2, g3, g4⟩ := H
      exact .inr ⟨b, cap, kids, arr, Fs, rfl, h1, h2, h3, h4, h5, g1, g2, g3, fun i hi => by simpa using g4 i hi⟩

theorem own_rowOf {e : Nat} {t : Ty} {k : Nat} {l : List t.den} {ct : CT} {v : Value} {F : Nat → Prop} (H : Own w S (.list e t) (k + 1) l none ct [v] F) :
    ∃ xs, w.ownsRow 0 e t.width v l.length xs := by
  rcases own_inv H with ⟨_, rfl, h, _⟩ | ⟨b, cap, kids, arr, Fs, _, h, h2, h3, h4, h5, _⟩
  · simp at h; exact ⟨[], by simp, .inl ⟨h, rfl⟩⟩
  · simp at h
    refine ⟨arr.toList.take (l.length * t.width), ?_, .inr ⟨b, cap, arr, h, Nat.zero_le _, h4, h2, h3, h5, rfl⟩⟩
    have h6 : l.length * t.width ≤ arr.toList.length := by rw [show arr.toList.length = arr.size from rfl, h5]; exact Nat.mul_le_mul_right _ h2
    rw [List.length_take]
    exact Nat.min_eq_left h6

theorem getD_append {α : Type} {l y : List α} {i : Nat} {d : α} : (l ++ y).getD i d = if i < l.length then l.getD i d else y.getD (i - l.length) d := by
  split
  · rename_i h; simp [List.getD_eq_getElem?_getD, List.getElem?_append_left h]
  · rename_i h; simp [List.getD_eq_getElem?_getD, List.getElem?_append_right (Nat.le_of_not_lt h)]

theorem append_cases {T e n bytes ty : Nat} {v : Value} {xs : List Value} {inf : TypeInfo} {z : Value} {size : Nat} (hrow : w.ownsRow 0 e size v n xs) (hT : P.underlying T = some (.slice e)) (hi : P.info? e = some inf) (hz : inf.zero = some z) (hsz : inf.size = size) (hby : inf.bytes = bytes) (hzs : z.cells.size = size)
    (ad : Addr) (m c : Nat) (news : List Value) (hl : news.length = m * size) (hnews : ∀ j u, news[j]? = some u → w.cell? (ad.add j) = some u)
    (h1 : ∀ u ∈ news, u.oneCell' = true) (hbytes : (n + m) * bytes ≤ 140737488355328) (h63 : n + m ≤ maxLen) :
    ∃ v' w', (Builtin.append_ #[T, T] ty #[v, .slice (some ad) m c]).run P w = .ok v' w' ∧
      ((v = .slice none 0 0 ∧ n = 0 ∧ m = 0 ∧ v' = v ∧ w' = w) ∨
       (∃ cap cur, v' = .slice (some ⟨w.heap.size, 0, none⟩) (n + m) cap ∧ Grew w w' ∧ w.heap.size < w'.heap.size ∧ w'.heap[w.heap.size]? = some (.cells cur e (0, 0)) ∧ n + m ≤ cap ∧ cap ≤ maxLen ∧ cur.size = cap * size ∧ cur.toList.take ((n + m) * size) = xs ++ news) ∨
       (∃ g cap cur cur', v = .slice (some ⟨g, 0, none⟩) n cap ∧ v' = .slice (some ⟨g, 0, none⟩) (n + m) cap ∧ w.heap[g]? = some (.cells cur e (0, 0)) ∧ w' = w.setRow g cur' ∧ n + m ≤ cap ∧ cap ≤ maxLen ∧ cur'.size = cap * size ∧ cur'.toList.take ((n + m) * size) = xs ++ news)) := by
  subst hsz
  subst hby
  have hsmall : n + m ≤ 9223372036854775807 := by simp only [maxLen] at h63; omega
  have hlen : (xs ++ news).length = (n + m) * inf.size := by rw [List.length_append, hrow.1, hl, Nat.add_mul]
  have grown : ∀ (old : Nat), ∃ cap cur, Value.slice (some ⟨w.heap.size, 0, none⟩) (n + m) (grownCap w (n + m) old e) = .slice (some ⟨w.heap.size, 0, none⟩) (n + m) cap ∧
      Grew w (w.drew.alloc (.cells (xs.toArray ++ news.toArray ++ Builtin.zeroCells z.cells (grownCap w (n + m) old e - (n + m))) e)) ∧
      w.heap.size < (w.drew.alloc (.cells (xs.toArray ++ news.toArray ++ Builtin.zeroCells z.cells (grownCap w (n + m) old e - (n + m))) e)).heap.size ∧
      (w.drew.alloc (.cells (xs.toArray ++ news.toArray ++ Builtin.zeroCells z.cells (grownCap w (n + m) old e - (n + m))) e)).heap[w.heap.size]? = some (.cells cur e (0, 0)) ∧
      n + m ≤ cap ∧ cap ≤ maxLen ∧ cur.size = cap * inf.size ∧ cur.toList.take ((n + m) * inf.size) = xs ++ news := by
    intro old
    have hge := grownCap_ge w (n + m) old e
    have hcm : grownCap w (n + m) old e ≤ maxLen := grownCap_le_maxLen w (n + m) old e h63
    refine ⟨_, _, rfl, (Grew.drew w).trans (Grew.alloc w.drew _ _), by simp, heap_alloc_new w.drew _, hge, hcm, ?_, ?_⟩
    · simp only [Array.size_append, List.size_toArray, size_zeroCells, hzs, hrow.1, hl, ← Nat.add_mul]
      congr 1
      omega
    · simp only [Array.toList_append, List.append_assoc]
      rw [← List.append_assoc, ← hlen]
      exact List.take_left
  rcases hrow.2 with ⟨rfl, rfl⟩ | ⟨g, cap, cur, rfl, hbg, hg, hnc, hcm, hcs, htake⟩
  · have hx : xs = [] := List.eq_nil_of_length_eq_zero (by simpa using hrow.1)
    subst hx
    by_cases hm : m = 0
    · subst hm
      have hn : news = [] := List.eq_nil_of_length_eq_zero (by simpa using hl)
      subst hn
      refine ⟨.slice none 0 0, w, ?_, .inl ⟨rfl, rfl, rfl, rfl, rfl⟩⟩
      simp [Builtin.append_, run_underlying hT, Go.sizeOf, typeInfo, hi, Builtin.lenOf, Builtin.firstCells, loadCells, loadCellsFrom]
    · have hr := run_append_nil (P := P) w T ty e inf z hT hi hz ad m c news hl hnews (by omega) (by omega) (by have hb := hbytes; simp only [Nat.zero_add] at hb; omega)
      have hgr := grown 0
      simp only [Nat.zero_add, List.nil_append, Array.empty_append] at hgr ⊢
      exact ⟨_, _, hr, .inr (.inl hgr)⟩
  · by_cases hroom : n + m ≤ cap
    · have hfit : n * inf.size + news.length ≤ cur.size := by rw [hl, hcs, ← Nat.add_mul]; exact Nat.mul_le_mul_right _ hroom
      have hr := run_append_room (P := P) w T ty e inf hT hi g n cap cur hg ad m c news hl hnews h1 hroom hfit
      refine ⟨_, _, hr, .inr (.inr ⟨g, cap, cur, _, rfl, rfl, hg, rfl, hroom, hcm, ?_, ?_⟩)⟩
      · simp only [List.size_toArray, List.length_append, List.length_take, List.length_drop, Array.length_toList]
        omega
      · rw [htake, ← hlen]
        exact List.take_left
    · have holds : ∀ j u, xs[j]? = some u → w.cell? ((⟨g, 0, none⟩ : Addr).add j) = some u := hrow.cells (g := g) rfl
      have hr := run_append_grow (P := P) w T ty e inf z hT hi hz ⟨g, 0, none⟩ n cap xs hrow.1 holds ad m c news hl hnews (by omega) (by omega) (growslice_fits (by omega) hbytes)
      exact ⟨_, _, hr, .inr (.inl (grown cap))⟩

theorem take_chunk {cur : Array Value} {xs : List Value} {N o n : Nat} (h : cur.toList.take N = xs) (hN : o + n ≤ N) : cellsAt cur o n = cellsAt xs.toArray o n := by
  refine cellsAt_cong (m := N) ?_ hN
  rw [← h]; simp [List.take_take]

theorem chunk_left {xs ys : List Value} {o n : Nat} (h : o + n ≤ xs.length) : cellsAt (xs ++ ys).toArray o n = cellsAt xs.toArray o n := by
  refine cellsAt_cong (m := xs.length) ?_ h
  simp

theorem chunk_right {xs ys : List Value} {o n : Nat} : cellsAt (xs ++ ys).toArray (xs.length + o) n = cellsAt ys.toArray o n := by
  simp only [cellsAt, List.drop_append]
  rw [List.drop_eq_nil_of_le (Nat.le_add_right _ _), List.nil_append, Nat.add_sub_cancel_left]

theorem own_append {T : Nat} {e : Nat} {t : Ty} {k : Nat} {l : List t.den} {ct : CT} {v : Value} {F : Nat → Prop} (H : Own w S (.list e t) (k + 1) l none ct [v] F)
    {inf : TypeInfo} {z : Value} {bytes ty : Nat} (hT : P.underlying T = some (.slice e)) (hi : P.info? e = some inf) (hz : inf.zero = some z) (hsz : inf.size = t.width) (hby : inf.bytes = bytes) (hzs : z.cells.toList.length = t.width)
    (ad : Addr) (c : Nat) (news : List Value) {y : List t.den} {kids2 : Nat → CT} {F2 : Nat → Nat → Prop} (hl : news.length = y.length * t.width)
    (hnews : ∀ j u, news[j]? = some u → w.cell? (ad.add j) = some u)
    (hel : ∀ i, i < y.length → Own w S t k (y.getD i t.dflt) none (kids2 i) (cellsAt news.toArray (i * t.width) t.width) (F2 i))
    (hd : ∀ i j n, i < y.length → j < y.length → F2 i n → F2 j n → i = j) (hF2 : ∀ i n, i < y.length → F2 i n → ¬ F n ∧ n < w.heap.size) (hF : ∀ n, F n → n < w.heap.size) (hS : ∀ n, S n → n < w.heap.size ∧ ¬ F n)
    (h1 : ∀ u ∈ news, u.oneCell' = true) (hbytes : (l.length + y.length) * bytes ≤ 140737488355328) (h63 : l.length + y.length ≤ maxLen) :
    ∃ v' w' ct' F', (Builtin.append_ #[T, T] ty #[v, .slice (some ad) y.length c]).run P w = .ok v' w' ∧ Own w' S (.list e t) (k + 1) (l ++ y) none ct' [v'] F' ∧
      (∀ n, F' n → (F n ∨ ∃ i, i < y.length ∧ F2 i n) ∨ (w.heap.size ≤ n ∧ n < w'.heap.size)) ∧
      w'.os = w.os ∧ w'.tape = w.tape ∧ SameOut All w w' ∧ w.heap.size ≤ w'.heap.size ∧ ∀ n, n < w.heap.size → ¬ F n → w'.heap[n]? = w.heap[n]? := by
  obtain ⟨xs, hrow⟩ := own_rowOf H
  obtain ⟨v', w', hr, hcase⟩ := append_cases (P := P) (ty := ty) hrow hT hi hz hsz hby (by simpa using hzs) ad y.length c news hl hnews h1 hbytes h63
  have hxl : xs.length = l.length * t.width := hrow.1
  have hold : ∃ (kids1 : Nat → CT) (Fs : Nat → Nat → Prop), (∀ i, i < l.length → Own w S t k (l.getD i t.dflt) none (kids1 i) (cellsAt xs.toArray (i * t.width) t.width) (Fs i)) ∧ (∀ i n, i < l.length → Fs i n → F n ∧ v.ownBlock ≠ some n) ∧
      (∀ i j n, i < l.length → j < l.length → Fs i n → Fs j n → i = j) ∧ ∀ g, v.ownBlock = some g → F g := by
    rcases own_inv H with ⟨_, rfl, h, _⟩ | ⟨b, cap, kids, arr, Fs, _, h, h2, h3, h4, h5, g1, g2, g3, g4⟩
    · refine ⟨fun _ => .leaf, fun _ => noF, by simp, by simp, by simp, ?_⟩
      simp at h; subst h; simp [Value.ownBlock]
    · simp at h; subst h
      rcases hrow.2 with ⟨h, _⟩ | ⟨g', cap', cur, h, _, q1, q2, q3, q4, q5⟩
      · simp at h
      · simp only [Value.slice.injEq, Option.some.injEq, Addr.mk.injEq, and_true, true_and] at h
        obtain ⟨rfl, rfl⟩ := h
        rw [h4] at q1
        simp only [Option.some.injEq, Obj.cells.injEq, and_true] at q1
        subst q1
        refine ⟨kids, Fs, fun i hi => ?_, fun i n hi hn => ⟨(g1 n).2 (.inr ⟨i, hi, hn⟩), ?_⟩, g3, ?_⟩
        · rw [← take_chunk q5 (mul_fit hi (Nat.le_refl _))]; exact g4 i hi
        · simp only [Value.ownBlock, ne_eq, Option.some.injEq]; rintro rfl; exact g2 i hi hn
        · simp only [Value.ownBlock, Option.some.injEq]; rintro g rfl; exact (g1 _).2 (.inl rfl)
  obtain ⟨kids1, Fs, o1, o2, o3, o4⟩ := hold
  have build : ∀ (w' : World) (b cap : Nat) (cur : Array Value), (∀ n, n < w.heap.size → n ≠ b → w'.heap[n]? = w.heap[n]?) → (v.ownBlock = some b ∨ b = w.heap.size) → w'.heap[b]? = some (.cells cur e (0, 0)) →
      l.length + y.length ≤ cap → cap ≤ maxLen → cur.size = cap * t.width → cur.toList.take ((l.length + y.length) * t.width) = xs ++ news →
      ∃ ct' F', Own w' S (.list e t) (k + 1) (l ++ y) none ct' [.slice (some ⟨b, 0, none⟩) (l.length + y.length) cap] F' ∧ (∀ n, F' n → n = b ∨ F n ∨ ∃ i, i < y.length ∧ F2 i n) := by
    intro w' b cap cur hw hb hbc hcap hcm hcs htake
    have hbS : ∀ n, S n → n ≠ b := by
      rintro n hn rfl
      rcases hb with hb | rfl
      · exact (hS n hn).2 (o4 n hb)
      · have := (hS _ hn).1; omega
    have hfr : ∀ n, S n → S n ∧ w'.heap[n]? = w.heap[n]? := fun n hn => ⟨hn, hw n (hS n hn).1 (hbS n hn)⟩
    have e1 : ∀ i n, i < l.length → Fs i n → n ≠ b := by
      rintro i n hi hn rfl
      rcases hb with hb | rfl
      · exact (o2 i n hi hn).2 hb
      · have := hF _ (o2 i _ hi hn).1; omega
    have e2 : ∀ i n, i < y.length → F2 i n → n ≠ b := by
      rintro i n hi hn rfl
      rcases hb with hb | rfl
      · exact (hF2 i n hi hn).1 (o4 n hb)
      · have := (hF2 i _ hi hn).2; omega
    have hlen : (l ++ y).length = l.length + y.length := List.length_append
    refine ⟨_, _, by
      have := own_row (w := w') (S := S) (e := e) (t := t) (k := k) (l := l ++ y) (b := b) (cap := cap) (arr := cur) (kids := fun i => if i < l.length then kids1 i else kids2 (i - l.length))
        (Fs := fun i => if i < l.length then Fs i else F2 (i - l.length)) hbc hcs (by rw [hlen]; exact hcap) hcm (fun i hi => ?_) (fun i hi => ?_) (fun i j n hi hj h1 h2 => ?_)
      · rw [hlen] at this; exact this
      · rw [hlen] at hi
        rw [getD_append]
        have hck : cellsAt cur (i * t.width) t.width = cellsAt (xs ++ news).toArray (i * t.width) t.width := take_chunk htake (mul_fit hi (Nat.le_refl _))
        rw [hck]
        by_cases h : i < l.length
        · simp only [if_pos h]
          rw [chunk_left (by rw [hxl]; exact mul_fit h (Nat.le_refl _))]
          exact (o1 i h).frame hfr fun n hn => hw n (hF n (o2 i n h hn).1) (e1 i n h hn)
        · simp only [if_neg h]
          have e3 : i * t.width = xs.length + (i - l.length) * t.width := by
            rw [hxl, ← Nat.add_mul]; congr 1; omega
          rw [e3, chunk_right]
          exact (hel (i - l.length) (by omega)).frame hfr fun n hn => hw n (hF2 _ n (by omega) hn).2 (e2 _ n (by omega) hn)
      · rw [hlen] at hi
        by_cases h : i < l.length
        · simp only [if_pos h]; exact fun hn => e1 i b h hn rfl
        · simp only [if_neg h]; exact fun hn => e2 _ b (by omega) hn rfl
      · rw [hlen] at hi hj
        by_cases hi' : i < l.length <;> by_cases hj' : j < l.length
        · simp only [if_pos hi', if_pos hj'] at h1 h2; exact o3 i j n hi' hj' h1 h2
        · simp only [if_pos hi', if_neg hj'] at h1 h2; exact absurd (o2 i n hi' h1).1 (hF2 _ n (by omega) h2).1
        · simp only [if_neg hi', if_pos hj'] at h1 h2; exact absurd (o2 j n hj' h2).1 (hF2 _ n (by omega) h1).1
        · simp only [if_neg hi', if_neg hj'] at h1 h2; have := hd _ _ n (by omega) (by omega) h1 h2; omega, fun n hn => ?_⟩
    rcases hn with hn | ⟨i, hi, hn⟩
    · exact .inl hn
    · by_cases h : i < l.length
      · simp only [if_pos h] at hn; exact .inr (.inl (o2 i n h hn).1)
      · simp only [if_neg h] at hn; exact .inr (.inr ⟨_, by omega, hn⟩)
  rcases hcase with ⟨rfl, hn, hm, rfl, rfl⟩ | ⟨cap, cur, rfl, g, hlt, hbc, c1, c2, c3, c4⟩ | ⟨b, cap, cur0, cur, rfl, rfl, hb0, rfl, c1, c2, c3, c4⟩
  · have hy : y = [] := List.eq_nil_of_length_eq_zero hm
    subst hy
    exact ⟨_, _, ct, F, hr, by simpa using H, fun n hn => .inl (.inl hn), rfl, rfl, SameOut.refl _, Nat.le_refl _, fun _ _ _ => rfl⟩
  · obtain ⟨ct', F', q1, q2⟩ := build w' w.heap.size cap cur (fun n hn _ => g.old n hn) (.inr rfl) hbc c1 c2 c3 c4
    refine ⟨_, _, ct', F', hr, q1, fun n hn => ?_, g.os, g.tape, g.output, g.size, fun n hn _ => g.old n hn⟩
    rcases q2 n hn with rfl | h | h
    · exact .inr ⟨Nat.le_refl _, hlt⟩
    · exact .inl (.inl h)
    · exact .inl (.inr h)
  · obtain ⟨ct', F', q1, q2⟩ := build (w.setRow b cur) b cap cur (fun n hn hne => setRow_other w b n _ hne) (.inl rfl) (setRow_heap w b cur0 cur e (0, 0) hb0) c1 c2 c3 c4
    refine ⟨_, _, ct', F', hr, q1, fun n hn => ?_, rfl, rfl, sameOut_setRow hb0, by rw [setRow_size]; exact Nat.le_refl _, fun n hn hnF => setRow_other w b n _ fun e => hnF (e ▸ o4 b rfl)⟩
    rcases q2 n hn with rfl | h | h
    · exact .inl (.inl (o4 n rfl))
    · exact .inl (.inl h)
    · exact .inl (.inr h)

end
end Fer

namespace Fer
open Go

section
variable {P : Program} {tt : List (Nat × TE)} {w0 : World} {S0 : Nat → Prop} {N : Nat} {dr : Bool} {pc : Pins} {s : XS} {a : Act} {w w' : World} {S : Nat → Prop} {pl : Nat → PL}

theorem RelAt.moved (R : RelAt w0 S0 N dr pc s a w S pl) (hos : w'.os = w.os) (htape : w'.tape = w.tape) (hout : SameOut S0 w w') (hsz : w.heap.size ≤ w'.heap.size)
    (hold : ∀ n, n < w.heap.size → (S n ∨ ∃ r rt, s.root r = some rt ∧ (pl r).F n) → w'.heap[n]? = w.heap[n]?) : RelAt w0 S0 N dr pc s a w' S pl where
  defers := R.defers
  size := R.size
  os := hos.trans R.os
  tape := htape.trans R.tape
  output := hout.trans R.output
  grow := Nat.le_trans R.grow hsz
  stay := fun b hb => (hold b (R.lt b (R.base b hb)) (.inl (R.base b hb))).trans (R.stay b hb)
  base := R.base
  lt := fun b hb => Nat.lt_of_lt_of_le (R.lt b hb) hsz
  own := fun r rt hr => by
    obtain ⟨hv, H⟩ := R.own r rt hr
    exact ⟨hv, H.frame (fun b hb => ⟨hb, hold b (R.lt b hb) (.inl hb)⟩) fun b hb => hold b (R.Flt r rt b hr hb).1 (.inr ⟨r, rt, hr, hb⟩)⟩
  Flt := fun r rt b hr hb => ⟨Nat.lt_of_lt_of_le (R.Flt r rt b hr hb).1 hsz, (R.Flt r rt b hr hb).2⟩
  disj := R.disj
  ids := R.ids
  env := fun i av h => ⟨(R.env i av h).1.frame (n := s.nxt) (fun b hb => ⟨hb, hold b (R.lt b hb) (.inl hb)⟩) (fun _ _ => .inr ⟨rfl, rfl⟩) (R.env i av h).2, (R.env i av h).2⟩
  pins := fun hd i b hp => by
    obtain ⟨q, h1, h2, h3⟩ := R.pins hd i b hp
    exact ⟨q, h1, Nat.lt_of_lt_of_le h2 hsz, h3⟩
  news := R.news

theorem own_nil {e : Nat} {t : Ty} {k : Nat} : Own w S (.list e t) (k + 1) [] none .nil [.slice none 0 0] noF := .inr ⟨by simp, rfl, rfl, fun _ h => h⟩

def nilRT (e : Nat) (t : Ty) : RT := ⟨e, t, 0, [], none⟩

theorem RelAt.nilRoot (R : RelAt w0 S0 N dr pc s a w S pl) (e : Nat) (t : Ty) :
    RelAt w0 S0 N dr pc (s.addRoot (nilRT e t)) a w S (fun r => if r = s.nxt then ⟨.nil, noF⟩ else pl r) :=
  R.addRoot (Grew.refl w) (rt := nilRT e t) (ct := .nil) (F := noF) (hv := .slice none 0 0) own_nil fun _ h => h.elim


def Src (w : World) (S : Nat → Prop) (t : Ty) (y : List t.den) (v : Value) : Prop :=
  ∃ ad c, v = .slice ad y.length c ∧ (ad = none → y = []) ∧ y.length ≤ maxLen ∧ ∀ ad', ad = some ad' → ∃ news : List Value, news.length = y.length * t.width ∧
    (∀ j u, news[j]? = some u → w.cell? (ad'.add j) = some u) ∧ ∀ i, i < y.length → RO w S t (y.getD i t.dflt) (cellsAt news.toArray (i * t.width) t.width)

theorem chunk_mem {t : Ty} {n : Nat} {news : List Value} (hl : news.length = n * t.width) {u : Value} (hu : u ∈ news) : ∃ i, i < n ∧ u ∈ cellsAt news.toArray (i * t.width) t.width := by
  obtain ⟨j, hj, rfl⟩ := List.getElem_of_mem hu
  have hw := t.width_pos
  refine ⟨j / t.width, Nat.div_lt_of_lt_mul (by rw [Nat.mul_comm, ← hl]; exact hj), ?_⟩
  have : (cellsAt news.toArray (j / t.width * t.width) t.width)[j % t.width]? = some news[j] := by
    simp only [cellsAt, List.getElem?_take, List.getElem?_drop]
    rw [if_pos (Nat.mod_lt _ hw)]
    have e : j / t.width * t.width + j % t.width = j := by rw [Nat.mul_comm]; exact Nat.div_add_mod j t.width
    rw [e]
    exact List.getElem?_eq_getElem hj
  exact List.mem_of_getElem? this

theorem src_one {t : Ty} {y : List t.den} {news : List Value} (hl : news.length = y.length * t.width) (h : ∀ i, i < y.length → RO w S t (y.getD i t.dflt) (cellsAt news.toArray (i * t.width) t.width)) :
    ∀ u ∈ news, u.oneCell' = true := by
  intro u hu
  obtain ⟨i, hi, hm⟩ := chunk_mem hl hu
  exact (h i hi).oneCell u hm

theorem cellsAt_sub {arr : Array Value} {o n o2 n2 : Nat} (h : o2 + n2 ≤ n) : cellsAt (cellsAt arr o n).toArray o2 n2 = cellsAt arr (o + o2) n2 := by
  simp only [cellsAt, List.drop_take, List.take_take, List.drop_drop]
  rw [Nat.min_eq_left (by omega)]

theorem src_row {t : Ty} {y : List t.den} {b o len c : Nat} {arr : Array Value} {E : Nat} {fr : Nat × Nat} (hb : w.heap[b]? = some (.cells arr E fr)) (hl : len = y.length) (hfit : o + y.length * t.width ≤ arr.size) (hm : y.length ≤ maxLen)
    (h : ∀ i, i < y.length → RO w S t (y.getD i t.dflt) (cellsAt arr (o + i * t.width) t.width)) : Src w S t y (.slice (some ⟨b, o, none⟩) len c) := by
  subst hl
  refine ⟨_, _, rfl, (by simp), hm, fun ad' h' => ?_⟩
  cases h'
  refine ⟨cellsAt arr o (y.length * t.width), length_cellsAt hfit, fun j u hu => ?_, fun i hi => ?_⟩
  · rw [Addr.add_mid]; exact cells_range hb hfit j u hu
  · rw [cellsAt_sub (mul_fit hi (Nat.le_refl _))]; exact h i hi

theorem src_ro {e : Nat} {t : Ty} {l : List t.den} {v : Value} (h : RO w S (.list e t) l [v]) : Src w S t l v := by
  obtain ⟨ad, cap, hv, h1, h2, h3⟩ := h
  simp at hv; subst hv
  by_cases hl : l = []
  · subst hl
    cases ad with
    | none => exact ⟨none, cap, rfl, fun _ => rfl, Nat.zero_le _, fun _ h => by cases h⟩
    | some ad => exact ⟨some ad, cap, rfl, (by simp), Nat.zero_le _, fun ad' h' => ⟨[], by simp, by simp, by simp⟩⟩
  · obtain ⟨b, off, arr, E, fr, rfl, _, hb, hfit, hel⟩ := h3 hl
    exact src_row hb rfl hfit (Nat.le_trans h1 h2) hel

structure EL where
  e : Nat
  t : Ty
  l : List t.den

def castL (t t' : Ty) (l : List t.den) : Option (List t'.den) := if h : t = t' then some (h ▸ l) else none
@[simp] theorem castL_self (t : Ty) (l : List t.den) : castL t t l = some l := by simp [castL]
theorem castL_eq {t t' : Ty} {l : List t.den} {l' : List t'.den} (h : castL t t' l = some l') : ∃ e : t = t', l' = e ▸ l := by
  unfold castL at h; split at h
  · rename_i e; cases h; exact ⟨e, rfl⟩
  · cases h

def elAt (rt : RT) (p : List Nat) : Option EL :=
  match rt.at p with
  | ⟨.list e t, l⟩ => some ⟨e, t, l⟩
  | _ => none

theorem elAt_eq {rt : RT} {p : List Nat} {el : EL} (h : elAt rt p = some el) : rt.at p = ⟨.list el.e el.t, el.l⟩ := by
  unfold elAt at h
  split at h
  · rename_i e; cases h; exact e
  · cases h

def okNode (rt : RT) (p : List Nat) : Prop := okS p rt.ty rt.x (rt.k + 1) ∧ 0 < dep p rt.ty (rt.k + 1)

def srcAV (s : XS) : AV → Option (Prop × EL)
  | .dat (.list e t) l => some (True, ⟨e, t, l⟩)
  | .ref r p => match s.root r with
    | some rt => match elAt rt p with
      | some el => if rt.h = none ∧ (el.t.flat = true ∨ dep p rt.ty (rt.k + 1) = 1) then some (okNode rt p, el) else none
      | none => none
    | none => none
  | .sub r p lo hi => match s.root r with
    | some rt => match elAt rt p with
      | some el => if rt.h = none ∧ (el.t.flat = true ∨ dep p rt.ty (rt.k + 1) = 1) then some (okNode rt p, ⟨el.e, el.t, (el.l.take hi).drop lo⟩) else none
      | none => none
    | none => none
  | _ => none

theorem RelAt.nodeL (R : RelAt w0 S0 N dr pc s a w S pl) {r : Nat} {rt : RT} (hr : s.root r = some rt) (hh : rt.h = none) {p : List Nat} {el : EL} (hel : elAt rt p = some el) (hok : okNode rt p) :
    ∃ k v F', dep p rt.ty (rt.k + 1) = k + 1 ∧ Own w S (.list el.e el.t) (k + 1) el.l none (atCT p rt.ty (pl r).ct) [v] F' ∧ v = hdr (atCT p rt.ty (pl r).ct) (rt.at p).len ∧ (∀ n, F' n → (pl r).F n) := by
  obtain ⟨hv, H⟩ := R.own r rt hr
  rw [hh] at H
  have hat := elAt_eq hel
  obtain ⟨k, hk⟩ : ∃ k, dep p rt.ty (rt.k + 1) = k + 1 := ⟨_, (Nat.succ_pred_eq_of_pos hok.2).symm⟩
  cases p with
  | nil =>
    simp only [dep] at hk
    have e1 : rt.e = el.e ∧ rt.t = el.t := by have : Ty.list rt.e rt.t = Ty.list el.e el.t := congrArg TV.t hat; simpa using this
    cases rt with
    | mk e t k' x h =>
      cases el with
      | mk e' t' l =>
        obtain ⟨rfl, rfl⟩ := e1
        have hat : (⟨.list e t, x⟩ : TV) = ⟨.list e t, l⟩ := hat
        simp only [TV.mk.injEq, heq_eq_eq, true_and] at hat
        subst hat
        exact ⟨k, hv, (pl r).F, hk, by rw [← hk]; exact H, (H.hdr (by simp)).1, fun _ h => h⟩
  | cons i p =>
    obtain ⟨cs, F', h', e2, e3, e4, e5, e6, _⟩ := nodeAt (i :: p) rt.ty (rt.k + 1) rt.x none (pl r).ct [hv] (pl r).F 0 0 H hok.1 rfl (.inl ⟨_, _, _, _, rfl, rfl⟩)
    have hh' := e6 rfl
    subst hh'
    change Own w S (rt.at (i :: p)).t _ (rt.at (i :: p)).x none _ cs F' at e3
    rw [hat, hk] at e3
    obtain ⟨v, rfl, _⟩ := pack_one (t := .list el.e el.t) rfl e3.length
    refine ⟨k, v, F', hk, e3, ?_, e4⟩
    rw [hat]
    exact (e3.hdr (by simp)).1

theorem own_src {e : Nat} {t : Ty} {k : Nat} {l : List t.den} {ct : CT} {v : Value} {F : Nat → Prop} (h : t.flat = true ∨ k = 0) (H : Own w S (.list e t) (k + 1) l none ct [v] F) : Src w S t l v := by
  rcases own_inv H with ⟨_, rfl, hv, _⟩ | ⟨b, cap, kids, arr, Fs, _, hv, h2, h3, h4, h5, g1, g2, g3, g4⟩
  · simp at hv; subst hv
    exact ⟨none, 0, rfl, fun _ => rfl, Nat.zero_le _, fun _ h => by cases h⟩
  · simp at hv; subst hv
    refine src_row h4 rfl ?_ (Nat.le_trans h2 h3) fun i hi => ?_
    · rw [h5, Nat.zero_add]; exact Nat.mul_le_mul_right _ h2
    · rw [Nat.zero_add]; exact ((g4 i hi).stable h).1

theorem own_src_sub {e : Nat} {t : Ty} {k : Nat} {l : List t.den} {ct : CT} {v u : Value} {F : Nat → Prop} (h : t.flat = true ∨ k = 0) (H : Own w S (.list e t) (k + 1) l none ct [v] F) {lo hi : Nat} (h1 : lo ≤ hi) (h2 : hi ≤ l.length)
    (hu : subR ct t.width lo hi u) : Src w S t ((l.take hi).drop lo) u := by
  have hlen : ((l.take hi).drop lo).length = hi - lo := by rw [List.length_drop, List.length_take, Nat.min_eq_left h2]
  rcases own_inv H with ⟨rfl, rfl, hv, _⟩ | ⟨b, cap, kids, arr, Fs, rfl, hv, q2, q3, h4, h5, g1, g2, g3, g4⟩
  · simp only [subR] at hu; subst hu
    have : ((List.take hi ([] : List t.den)).drop lo) = [] := by simp
    rw [this]
    exact ⟨none, 0, rfl, fun _ => rfl, Nat.zero_le _, fun _ h => by cases h⟩
  · obtain ⟨ad, rfl, had⟩ := hu
    have hmax : ((l.take hi).drop lo).length ≤ maxLen := by rw [hlen]; omega
    by_cases hz : hi - lo = 0
    · have hnil : (l.take hi).drop lo = [] := List.eq_nil_of_length_eq_zero (by rw [hlen]; exact hz)
      refine ⟨ad, cap - lo, by rw [hlen], fun _ => hnil, hmax, fun ad' _ => ⟨[], by rw [hlen, hz]; simp, by simp, fun i hi => by rw [hlen] at hi; omega⟩⟩
    · have := had (.inl (by omega))
      subst this
      refine src_row h4 hlen.symm ?_ hmax fun i hi' => ?_
      · rw [hlen, h5, ← Nat.add_mul]; exact Nat.mul_le_mul_right _ (by omega)
      · rw [hlen] at hi'
        have e1 : ((l.take hi).drop lo).getD i t.dflt = l.getD (lo + i) t.dflt := by
          simp only [List.getD_eq_getElem?_getD, List.getElem?_drop, List.getElem?_take]
          rw [if_pos (by omega)]
        rw [e1, ← Nat.add_mul]
        exact ((g4 (lo + i) (by omega)).stable h).1

theorem srcAV_ok (R : RelAt w0 S0 N dr pc s a w S pl) {x : AV} {v : Value} (hx : AVR w S s.rts pl x v) {q : Prop} {el : EL} (h : srcAV s x = some (q, el)) (hq : q) : Src w S el.t el.l v := by
  cases x with
  | dat t y =>
    cases t with
    | list e t =>
      simp only [srcAV, Option.some.injEq, Prod.mk.injEq] at h
      obtain ⟨_, rfl⟩ := h
      obtain ⟨ad, cap, rfl, h2, _⟩ := AVR.list hx
      exact src_ro h2
    | int | bool | str | raw | prod | fn | row | ro | func => simp [srcAV] at h
  | ref r p =>
    simp only [srcAV] at h
    cases hr : s.root r with
    | none => rw [hr] at h; cases h
    | some rt =>
      rw [hr] at h
      simp only at h
      cases hel : elAt rt p with
      | none => rw [hel] at h; cases h
      | some el' =>
        rw [hel] at h
        simp only at h
        split at h
        · rename_i hc
          simp only [Option.some.injEq, Prod.mk.injEq] at h
          obtain ⟨rfl, rfl⟩ := h
          obtain ⟨k, v', F', hk, H, hv', _⟩ := R.nodeL hr hc.1 hel hq
          have : v = v' := by rw [hv']; exact hx rt hr
          subst this
          refine own_src ?_ H
          rcases hc.2 with h | h
          · exact .inl h
          · rw [hk] at h; exact .inr (by omega)
        · cases h
  | sub r p lo hi =>
    simp only [srcAV] at h
    cases hr : s.root r with
    | none => rw [hr] at h; cases h
    | some rt =>
      rw [hr] at h
      simp only at h
      cases hel : elAt rt p with
      | none => rw [hel] at h; cases h
      | some el' =>
        rw [hel] at h
        simp only at h
        split at h
        · rename_i hc
          simp only [Option.some.injEq, Prod.mk.injEq] at h
          obtain ⟨rfl, rfl⟩ := h
          obtain ⟨k, v', F', hk, H, hv', _⟩ := R.nodeL hr hc.1 hel hq
          obtain ⟨q1, q2, q3⟩ := hx rt hr
          rw [elAt_eq hel] at q2 q3
          refine own_src_sub ?_ H q1 q2 q3
          rcases hc.2 with h | h
          · exact .inl h
          · rw [hk] at h; exact .inr (by omega)
        · cases h
  | ptr => simp [srcAV] at h
  | rptr => simp [srcAV] at h
  | rpl => simp [srcAV] at h
  | clo => simp [srcAV] at h
  | tup => simp [srcAV] at h
  | agg => simp [srcAV] at h
  | mp => simp [srcAV] at h
  | loc => simp [srcAV] at h
  | one => simp [srcAV] at h
  | junk => simp [srcAV] at h

end
end Fer

namespace Fer
open Go

section
variable {P : Program} {w w' : World} {S : Nat → Prop}

theorem own_relabel {e : Nat} {t : Ty} {k : Nat} {ct : CT} {v : Value} {F : Nat → Prop} (k' : Nat) (H : Own w S (.list e t) (k + 1) [] none ct [v] F) : Own w S (.list e t) (k' + 1) [] none ct [v] F := by
  rcases own_inv H with ⟨rfl, _, hv, hF⟩ | ⟨b, cap, kids, arr, Fs, rfl, hv, q2, q3, h4, h5, g1, g2, g3, g4⟩
  · exact .inr ⟨by simp, rfl, hv, hF⟩
  · exact .inr ⟨by simp, hv, q2, q3, arr, h4, h5, Fs, g1, by simp, by simp, by simp⟩

theorem run_append_none {T e ty : Nat} {inf : TypeInfo} (ht : P.underlying T = some (.slice e)) (hi : P.info? e = some inf)
    {v : Value} {n c : Nat} {xs : List Value} {base size : Nat} (hown : w.ownsRow base e size v n xs) :
    (Builtin.append_ #[T, T] ty #[v, .slice none 0 c]).run P w = .ok v w := by
  rcases hown.2 with ⟨rfl, rfl⟩ | ⟨g, cap, cur, rfl, _, _, hnc, _⟩
  · simp [Builtin.append_, run_underlying ht, Go.sizeOf, typeInfo, hi, Builtin.lenOf, Builtin.firstCells]
  · simp [Builtin.append_, run_underlying ht, Go.sizeOf, typeInfo, hi, Builtin.lenOf, Builtin.firstCells, hnc, storeCells]

theorem Own.oneCell : ∀ {t : Ty} {k : Nat} {x : t.den} {ct : CT} {cs : List Value} {F : Nat → Prop}, Own w S t k x none ct cs F → ∀ u ∈ cs, u.oneCell' = true
  | .int k', _, _, _, _, _, h => by
    obtain ⟨_, h | h⟩ := h
    · cases h.1
    · exact h.2.oneCell
  | .bool, _, _, _, _, _, h => by
    obtain ⟨_, h | h⟩ := h
    · cases h.1
    · exact h.2.oneCell
  | .str, _, _, _, _, _, h => by
    obtain ⟨_, h | h⟩ := h
    · cases h.1
    · exact h.2.oneCell
  | .raw, _, _, _, _, _, h => by
    obtain ⟨_, h | h⟩ := h
    · cases h.1
    · exact h.2.oneCell
  | .fn _ _, _, _, _, _, _, h | .row _ _, _, _, _, _, _, h => by
    obtain ⟨_, h | h⟩ := h
    · cases h.1
    · exact h.2.2.oneCell
  | .ro _ _, _, _, _, _, _, h | .func, _, _, _, _, _, h => by
    obtain ⟨_, h | h⟩ := h
    · cases h.1
    · exact h.2.oneCell
  | .list e t, 0, _, _, _, _, h => by
    rcases h with h | ⟨_, h⟩
    · cases h.1
    · exact h.2.1.oneCell
  | .list e t, k + 1, _, _, _, _, h => by
    rcases own_inv h with ⟨_, _, rfl, _⟩ | ⟨_, _, _, _, _, _, rfl, _⟩
    · simp [Value.oneCell']
    · simp [Value.oneCell']
  | .prod a b, k, x, ct, cs, F, h => by
    rcases h with h | ⟨_, h⟩
    · cases h.1
    · cases ct with
      | pair c d =>
        obtain ⟨c1, c2, F1, F2, rfl, _, _, h1, h2⟩ := h
        intro u hu
        rcases List.mem_append.1 hu with hu | hu
        · exact Own.oneCell (t := a) h1 u hu
        · exact Own.oneCell (t := b) h2 u hu
      | nil => exact h.elim
      | leaf => exact h.elim
      | node => exact h.elim

theorem own_cat {T : Nat} {e : Nat} {t : Ty} {k : Nat} {l : List t.den} {ct : CT} {v : Value} {F : Nat → Prop} (H : Own w S (.list e t) (k + 1) l none ct [v] F)
    {y : List t.den} {ct2 : CT} {v2 : Value} {F2 : Nat → Prop} (H2 : Own w S (.list e t) (k + 1) y none ct2 [v2] F2)
    {inf : TypeInfo} {z : Value} {bytes ty : Nat} (hT : P.underlying T = some (.slice e)) (hi : P.info? e = some inf) (hz : inf.zero = some z) (hsz : inf.size = t.width) (hby : inf.bytes = bytes) (hzs : z.cells.toList.length = t.width)
    (hdis : ∀ n, F2 n → ¬ F n) (hF : ∀ n, F n → n < w.heap.size) (hF2 : ∀ n, F2 n → n < w.heap.size) (hS : ∀ n, S n → n < w.heap.size ∧ ¬ F n)
    (hbytes : (l.length + y.length) * bytes ≤ 140737488355328) (h63 : l.length + y.length ≤ maxLen) :
    ∃ v' w' ct' F', (Builtin.append_ #[T, T] ty #[v, v2]).run P w = .ok v' w' ∧ Own w' S (.list e t) (k + 1) (l ++ y) none ct' [v'] F' ∧
      (∀ n, F' n → (F n ∨ F2 n) ∨ (w.heap.size ≤ n ∧ n < w'.heap.size)) ∧
      w'.os = w.os ∧ w'.tape = w.tape ∧ SameOut All w w' ∧ w.heap.size ≤ w'.heap.size ∧ ∀ n, n < w.heap.size → ¬ F n → w'.heap[n]? = w.heap[n]? := by
  obtain ⟨ys, hrow2⟩ := own_rowOf H2
  rcases own_inv H2 with ⟨_, rfl, h, _⟩ | ⟨b, cap, kids, arr, Fs, _, h, h2, h3, h4, h5, g1, g2, g3, g4⟩
  · simp at h; subst h
    obtain ⟨xs, hrow⟩ := own_rowOf H
    exact ⟨v, w, ct, F, run_append_none hT hi hrow, by rw [List.append_nil]; exact H, fun n hn => .inl (.inl hn), rfl, rfl, SameOut.refl w, Nat.le_refl _, fun _ _ _ => rfl⟩
  · simp at h; subst h
    have hrw := hrow2
    rcases hrow2.2 with ⟨h, _⟩ | ⟨g', cap', cur, h, _, q1, q2, q3, q4, q5⟩
    · simp at h
    · simp only [Value.slice.injEq, Option.some.injEq, Addr.mk.injEq, and_true, true_and] at h
      obtain ⟨rfl, rfl⟩ := h
      rw [h4] at q1
      simp only [Option.some.injEq, Obj.cells.injEq, and_true] at q1
      subst q1
      have hck : ∀ i, i < y.length → cellsAt ys.toArray (i * t.width) t.width = cellsAt arr (i * t.width) t.width := fun i hi => (take_chunk q5 (mul_fit hi (Nat.le_refl _))).symm
      have h1 : ∀ u ∈ ys, u.oneCell' = true := by
        intro u hu
        obtain ⟨j, hj, rfl⟩ := List.mem_iff_getElem.1 hu
        have hlen : ys.length = y.length * t.width := hrw.1
        have hw : 0 < t.width := by
          rcases Nat.eq_zero_or_pos t.width with h0 | h0
          · rw [h0, Nat.mul_zero] at hlen; omega
          · exact h0
        have hi : j / t.width < y.length := by rw [Nat.div_lt_iff_lt_mul hw]; omega
        have hj2 : ys[j] ∈ cellsAt ys.toArray (j / t.width * t.width) t.width := by
          have e1 : j = j / t.width * t.width + j % t.width := by rw [Nat.mul_comm]; exact (Nat.div_add_mod j t.width).symm
          have e2 : j % t.width < t.width := Nat.mod_lt _ hw
          rw [List.mem_iff_getElem?]
          refine ⟨j % t.width, ?_⟩
          simp only [cellsAt]
          rw [List.getElem?_take, if_pos e2, List.getElem?_drop, ← e1]
          simp
        have := g4 _ hi
        rw [← hck _ hi] at this
        exact this.oneCell _ hj2
      obtain ⟨v', w', ct', F', r1, r2, r3, r4⟩ := own_append (P := P) (ty := ty) H hT hi hz hsz hby hzs ⟨b, 0, none⟩ cap ys (y := y) (kids2 := kids) (F2 := Fs) hrw.1 (hrw.cells (g := b) rfl)
        (fun i hi => by rw [hck i hi]; exact g4 i hi) g3 (fun i n hi hn => ⟨hdis n ((g1 n).2 (.inr ⟨i, hi, hn⟩)), hF2 n ((g1 n).2 (.inr ⟨i, hi, hn⟩))⟩) hF hS h1 hbytes h63
      exact ⟨v', w', ct', F', r1, r2, fun n hn => by
          rcases r3 n hn with (h | ⟨i, hi, h⟩) | h
          · exact .inl (.inl h)
          · exact .inl (.inr ((g1 n).2 (.inr ⟨i, hi, h⟩)))
          · exact .inr h, r4⟩
end
end Fer

namespace Fer
open Go

def XS.also (s : XS) (r q : Nat) : XS := { s with pins := pinAlso r q s.pins }

def RT.sub (rt : RT) (p : List Nat) (el : EL) : RT := ⟨el.e, el.t, dep p rt.ty (rt.k + 1) - 1, el.l, none⟩

def own1 (s : XS) (e : Nat) (t : Ty) (x : AV) : Option (Prop × XS × Nat) :=
  match x with
  | .dat .raw v => match v with
    | .slice none 0 0 => some (True, s.addRoot (nilRT e t), s.nxt)
    | _ => none
  | .ref q [] => match s.root q with
    | some rt => if rt.e = e ∧ rt.t = t ∧ rt.h = none then some (True, s, q) else none
    | none => none
  | .ref q (i :: p) => match s.root q with
    | some rt => match elAt rt (i :: p) with
      | some el => if rt.h = none ∧ el.e = e ∧ el.t = t then
          some (okNode rt (i :: p), ((s.also q s.nxt).setRoot q (rt.cut (i :: p))).addRoot (rt.sub (i :: p) el), s.nxt) else none
      | none => none
    | none => none
  | _ => none

def tchOf : AV → List Nat
  | .ref q _ => [q] | .sub q _ _ _ => [q] | .ptr q _ => [q]
  | _ => []

section
variable {P : Program} {tt : List (Nat × TE)} {w0 : World} {S0 : Nat → Prop} {N : Nat} {dr : Bool} {pc : Pins} {s : XS} {a : Act} {w w' : World} {S : Nat → Prop} {pl : Nat → PL}

theorem RelAt.also (R : RelAt w0 S0 N dr pc s a w S pl) (r q : Nat) : RelAt w0 S0 N dr pc (s.also r q) a w S pl := R.pinned fun _ h => mem_pinAlso h

theorem own1_env {e : Nat} {t : Ty} {x : AV} {q : Prop} {s1 : XS} {r : Nat} (h : own1 s e t x = some (q, s1, r)) : s1.env = s.env := by
  unfold own1 at h
  split at h
  · split at h
    · cases h; rfl
    · cases h
  · split at h
    · split at h
      · cases h; rfl
      · cases h
    · cases h
  · split at h
    · split at h
      · split at h
        · cases h; rfl
        · cases h
      · cases h
    · cases h
  · cases h

theorem own1_ok (R : RelAt w0 S0 N dr pc s a w S pl) {e : Nat} {t : Ty} {x : AV} {v : Value} (hx : AVR w S s.rts pl x v) {q : Prop} {s1 : XS} {r : Nat} (h : own1 s e t x = some (q, s1, r)) (hq : q) :
    ∃ pl1 rt, RelAt w0 S0 N dr pc s1 a w S pl1 ∧ s1.root r = some rt ∧ rt.e = e ∧ rt.t = t ∧ rt.h = none ∧ Own w S rt.ty (rt.k + 1) rt.x none (pl1 r).ct [v] (pl1 r).F ∧
      ∀ n, (pl1 r).F n → ∃ r' rt', r' ∈ tchOf x ∧ s.root r' = some rt' ∧ (pl r').F n := by
  unfold own1 at h
  split at h
  · rename_i v'
    split at h
    · simp only [Option.some.injEq, Prod.mk.injEq] at h
      obtain ⟨_, rfl, rfl⟩ := h
      obtain ⟨rfl, _⟩ := AVR.raw hx
      refine ⟨_, nilRT e t, R.nilRoot e t, by simp [XS.root, XS.addRoot, lk], rfl, rfl, rfl, ?_, ?_⟩
      · simp only [if_true]; exact own_nil
      · simp only [if_true]; exact fun n h => h.elim
    · cases h
  · rename_i q'
    cases hr : s.root q' with
    | none => rw [hr] at h; cases h
    | some rt =>
      rw [hr] at h
      simp only at h
      split at h
      · rename_i hc
        simp only [Option.some.injEq, Prod.mk.injEq] at h
        obtain ⟨_, rfl, rfl⟩ := h
        obtain ⟨hv, H⟩ := R.own _ rt hr
        rw [hc.2.2] at H
        have hvv : v = hv := by
          have h1 : v = hdr (atCT [] rt.ty (pl q').ct) (rt.at []).len := hx rt hr
          rw [h1]; exact (H.hdr (by simp)).1.symm
        subst hvv
        exact ⟨pl, rt, R, hr, hc.1, hc.2.1, hc.2.2, H, fun n hn => ⟨q', rt, by simp [tchOf], hr, hn⟩⟩
      · cases h
  · rename_i q' i p
    cases hr : s.root q' with
    | none => rw [hr] at h; cases h
    | some rt =>
      rw [hr] at h
      simp only at h
      cases hel : elAt rt (i :: p) with
      | none => rw [hel] at h; cases h
      | some el =>
        rw [hel] at h
        simp only at h
        split at h
        · rename_i hc
          simp only [Option.some.injEq, Prod.mk.injEq] at h
          obtain ⟨rfl, rfl, rfl⟩ := h
          have hat := elAt_eq hel
          have hr' : (s.also q' s.nxt).root q' = some rt := hr
          obtain ⟨b, o, cs, F', pl1, e1, e2, e3, R1, hct, _, hF⟩ := (R.also q' s.nxt).punch hr' hc.1 hq.1
          obtain ⟨k, hk⟩ : ∃ k, dep (i :: p) rt.ty (rt.k + 1) = k + 1 := ⟨_, (Nat.succ_pred_eq_of_pos hq.2).symm⟩
          rw [hat] at e3
          obtain ⟨v', rfl, _⟩ := pack_one (t := .list el.e el.t) rfl e3.length
          have hv' : v' = v := by
            have h1 : v = hdr (atCT (i :: p) rt.ty (pl q').ct) (rt.at (i :: p)).len := hx rt hr
            rw [h1, hat]
            rw [hk] at e3
            exact (e3.hdr (by simp)).1
          subst hv'
          have hlt : q' < s.nxt := R.ids q' rt hr
          have hsub : Own w S (rt.sub (i :: p) el).ty ((rt.sub (i :: p) el).k + 1) (rt.sub (i :: p) el).x none (atCT (i :: p) rt.ty (pl q').ct) [v'] F' := by
            have : (rt.sub (i :: p) el).k + 1 = dep (i :: p) rt.ty (rt.k + 1) := by simp only [RT.sub]; omega
            rw [this]; exact e3
          have R2 := R1.addRoot (Grew.refl w) (rt := rt.sub (i :: p) el) (ct := atCT (i :: p) rt.ty (pl q').ct) (F := F') (hv := v') hsub (fun n hn => ⟨(hF n hn).2.1, .inr ⟨(hF n hn).2.2.1, (hF n hn).2.2.2.1, fun hd j hj => ?_⟩⟩)
          · refine ⟨_, rt.sub (i :: p) el, R2, by simp [XS.root, XS.addRoot, XS.setRoot, XS.also, lk], hc.2.1, hc.2.2, rfl, ?_, ?_⟩
            · have : (s.also q' s.nxt).nxt = s.nxt := rfl
              simp only [XS.setRoot, XS.also, if_true]; exact hsub
            · simp only [XS.setRoot, XS.also, if_true]
              intro n hn
              exact ⟨q', rt, by simp [tchOf], hr, (hF n hn).1⟩
          · obtain ⟨q1, h1, _, h3⟩ := R.pins hd j n hj
            have := h3 q' rt hr (hF n hn).1
            subst this
            exact mem_pinAlso_new h1
        · cases h
  · cases h


structure MF where
  pre : Prop
  fact : Prop
  av : AV
  st : XS
  tch : List Nat

def MFok (w0 : World) (S0 : Nat → Prop) (N : Nat) (dr : Bool) (pc : Pins) (s : XS) (a : Act) (w : World) (pl : Nat → PL) (mf : MF) (run : Result Value) : Prop :=
  ∃ v w' S' pl', run = .ok v w' ∧ RelAt w0 S0 N dr pc mf.st a w' S' pl' ∧ AVR w' S' mf.st.rts pl' mf.av v ∧ mf.av.lt mf.st.nxt ∧ mf.fact ∧
    ∀ n, n < w.heap.size → (∀ r rt, r ∈ mf.tch → s.root r = some rt → ¬ (pl r).F n) → w'.heap[n]? = w.heap[n]?

def XS.redo (s : XS) (r : Nat) (rt : RT) : XS := ((s.also r s.nxt).kill r).addRoot rt

theorem RelAt.redo (R : RelAt w0 S0 N dr pc s a w S pl) {r : Nat} {rt rt' : RT} (hr : s.root r = some rt) {ct' : CT} {v' : Value} {F' : Nat → Prop}
    (H : Own w' S rt'.ty (rt'.k + 1) rt'.x rt'.h ct' [v'] F') (hF : ∀ n, F' n → ((pl r).F n) ∨ (w.heap.size ≤ n ∧ n < w'.heap.size))
    (hos : w'.os = w.os) (htape : w'.tape = w.tape) (hout : SameOut S0 w w') (hsz : w.heap.size ≤ w'.heap.size) (hold : ∀ n, n < w.heap.size → ¬ (pl r).F n → w'.heap[n]? = w.heap[n]?) :
    RelAt w0 S0 N dr pc (s.redo r rt') a w' S (fun q => if q = s.nxt then ⟨ct', F'⟩ else pl q) := by
  have R1 := ((R.also r s.nxt).kill r)
  have hk : ∀ r2 rt2, ((s.also r s.nxt).kill r).root r2 = some rt2 → r2 ≠ r ∧ s.root r2 = some rt2 := fun r2 rt2 h => lk_rm_some h
  have R2 := R1.moved hos htape hout hsz (fun n hn h => hold n hn fun hF' => by
    rcases h with h | ⟨r2, rt2, h2, h3⟩
    · exact (R.Flt r rt n hr hF').2 h
    · exact (hk r2 rt2 h2).1 (R.disj r2 r rt2 rt n (hk r2 rt2 h2).2 hr h3 hF'))
  exact R2.addRoot (Grew.refl w') (rt := rt') H fun n hn => by
    rcases hF n hn with h | h
    · refine ⟨Nat.lt_of_lt_of_le (R.Flt r rt n hr h).1 hsz, .inr ⟨(R.Flt r rt n hr h).2, fun r2 rt2 h2 h3 => (hk r2 rt2 h2).1 (R.disj r2 r rt2 rt n (hk r2 rt2 h2).2 hr h3 h), fun hd j hj => ?_⟩⟩
      obtain ⟨q1, h1, _, h3⟩ := R.pins hd j n hj
      have := h3 r rt hr h
      subst this
      exact mem_pinAlso_new h1
    · refine ⟨h.2, ?_⟩
      by_cases hlt : n < w'.heap.size
      · refine .inr ⟨fun hS => by have := R.lt n hS; omega, fun r2 rt2 h2 h3 => by have := (R.Flt r2 rt2 n (hk r2 rt2 h2).2 h3).1; omega, fun hd j hj => ?_⟩
        obtain ⟨q1, h1, h2, h3⟩ := R.pins hd j n hj
        omega
      · exact absurd h.2 hlt

def XS.redo2 (s : XS) (r q : Nat) (rt : RT) : XS := ((((s.also r s.nxt).also q s.nxt).kill r).kill q).addRoot rt

theorem RelAt.redo2 (R : RelAt w0 S0 N dr pc s a w S pl) {r q : Nat} {rt qt rt' : RT} (hr : s.root r = some rt) (hq : s.root q = some qt) {ct' : CT} {v' : Value} {F' : Nat → Prop}
    (H : Own w' S rt'.ty (rt'.k + 1) rt'.x rt'.h ct' [v'] F') (hF : ∀ n, F' n → ((pl r).F n ∨ (pl q).F n) ∨ (w.heap.size ≤ n ∧ n < w'.heap.size))
    (hos : w'.os = w.os) (htape : w'.tape = w.tape) (hout : SameOut S0 w w') (hsz : w.heap.size ≤ w'.heap.size) (hold : ∀ n, n < w.heap.size → ¬ (pl r).F n → w'.heap[n]? = w.heap[n]?) :
    RelAt w0 S0 N dr pc (s.redo2 r q rt') a w' S (fun p => if p = s.nxt then ⟨ct', F'⟩ else pl p) := by
  have R1 := (((R.also r s.nxt).also q s.nxt).kill r).kill q
  have hk : ∀ r2 rt2, ((((s.also r s.nxt).also q s.nxt).kill r).kill q).root r2 = some rt2 → r2 ≠ r ∧ r2 ≠ q ∧ s.root r2 = some rt2 := fun r2 rt2 h => by
    obtain ⟨h1, h2⟩ := lk_rm_some h
    obtain ⟨h3, h4⟩ := lk_rm_some h2
    exact ⟨h3, h1, h4⟩
  have R2 := R1.moved hos htape hout hsz (fun n hn h => hold n hn fun hF' => by
    rcases h with h | ⟨r2, rt2, h2, h3⟩
    · exact (R.Flt r rt n hr hF').2 h
    · exact (hk r2 rt2 h2).1 (R.disj r2 r rt2 rt n (hk r2 rt2 h2).2.2 hr h3 hF'))
  exact R2.addRoot (Grew.refl w') (rt := rt') H fun n hn => by
    rcases hF n hn with h | h
    · have hlt : n < w.heap.size ∧ ¬ S n := h.elim (fun h => R.Flt r rt n hr h) fun h => R.Flt q qt n hq h
      refine ⟨Nat.lt_of_lt_of_le hlt.1 hsz, .inr ⟨hlt.2, fun r2 rt2 h2 h3 => ?_, fun hd j hj => ?_⟩⟩
      · obtain ⟨g1, g2, g3⟩ := hk r2 rt2 h2
        rcases h with h | h
        · exact g1 (R.disj r2 r rt2 rt n g3 hr h3 h)
        · exact g2 (R.disj r2 q rt2 qt n g3 hq h3 h)
      · obtain ⟨q1, h1, _, h3⟩ := R.pins hd j n hj
        rcases h with h | h
        · have := h3 r rt hr h
          subst this
          exact mem_pinAlso (mem_pinAlso_new h1)
        · have := h3 q qt hq h
          subst this
          exact mem_pinAlso_new (mem_pinAlso h1)
    · refine ⟨h.2, ?_⟩
      by_cases hlt : n < w'.heap.size
      · refine .inr ⟨fun hS => by have := R.lt n hS; omega, fun r2 rt2 h2 h3 => by have := (R.Flt r2 rt2 n (hk r2 rt2 h2).2.2 h3).1; omega, fun hd j hj => ?_⟩
        obtain ⟨q1, h1, h2, h3⟩ := R.pins hd j n hj
        omega
      · exact absurd h.2 hlt

def appAV (tt : List (Nat × TE)) (s : XS) (T : Nat) (x y : Option AV) : Option MF :=
  match lk tt T, x with
  | some (.slice e t b), some x => match own1 s e t x with
    | some (p1, s1, r) => match s1.root r, y with
      | some rt, some y => match srcAV s1 y with
        | some (p2, el) => match castL rt.t t rt.x, castL el.t t el.l with
          | some l, some m =>
            if t.flat = true ∨ rt.k = 0 ∨ l = [] then
              some ⟨p1 ∧ p2 ∧ (l.length + m.length) * b ≤ 140737488355328 ∧ l.length + m.length ≤ 9223372036854775807, True, .ref s1.nxt [], s1.redo r ⟨e, t, if t.flat = true then rt.k else 0, l ++ m, none⟩, tchOf x⟩
            else none
          | _, _ => none
        | none => match y with
          | .ref q [] => match s1.root q with
            | some qt => if qt.e = e ∧ qt.h = none ∧ qt.k = rt.k ∧ q ≠ r then match castL rt.t t rt.x, castL qt.t t qt.x with
              | some l, some m => some ⟨p1 ∧ (l.length + m.length) * b ≤ 140737488355328 ∧ l.length + m.length ≤ 9223372036854775807, True, .ref s1.nxt [], s1.redo2 r q ⟨e, t, rt.k, l ++ m, none⟩, tchOf x⟩
              | _, _ => none
              else none
            | none => none
          | _ => none
      | _, _ => none
    | none => none
  | _, _ => none

theorem appAV_ok (htt : ttB P tt = true) (R : RelAt w0 S0 N dr pc s a w S pl) {T ty : Nat} {x y : Option AV} {vx vy : Value} {mf : MF} (hx : ∀ u, x = some u → AVR w S s.rts pl u vx)
    (hy : ∀ u s1 pl1, y = some u → s1.env = s.env → RelAt w0 S0 N dr pc s1 a w S pl1 → AVR w S s1.rts pl1 u vy) (h : appAV tt s T x y = some mf) (hpre : mf.pre) :
    MFok w0 S0 N dr pc s a w pl mf ((Builtin.append_ #[T, T] ty #[vx, vy]).run P w) := by
  unfold appAV at h
  split at h
  · rename_i e t b x' hte
    have hx := hx x' rfl
    split at h
    · rename_i p1 s1 r hown
      split at h
      · rename_i rt y' hr
        split at h
        · rename_i p2 el hsrc
          split at h
          · rename_i l m hl hm
            split at h
            · rename_i hk
              cases h
              obtain ⟨hp1, hp2, hb, hlen⟩ := hpre
              obtain ⟨pl1, rt1, R1, hr1, he, ht, hh, H, htch⟩ := own1_ok R hx hown hp1
              rw [hr] at hr1
              cases hr1
              obtain ⟨e0, t0, k0, x0, h0⟩ := rt
              simp only at he ht hh hl hk H
              subst he ht hh
              simp only [castL_self, Option.some.injEq] at hl
              subst hl
              obtain ⟨el_e, el_t, el_l⟩ := el
              simp only at hm
              obtain ⟨rfl, rfl⟩ := castL_eq hm
              have hy := hy y' s1 pl1 rfl (own1_env hown) R1
              have hsr := srcAV_ok R1 hy hsrc hp2
              obtain ⟨hT, hinf, ⟨inf, hi, hsz, hby⟩, _, _⟩ := slice_te (ttB_get htt hte)
              obtain ⟨inf', z, hi', hsz', hz, hzl, _⟩ := hinf.info
              rw [hi] at hi'; cases hi'
              have H' : Own w S (.list e0 el_t) ((if el_t.flat = true then k0 else 0) + 1) x0 none (pl1 r).ct [vx] (pl1 r).F := by
                rcases hk with hk | hk | hk
                · rw [if_pos hk]; exact H
                · subst hk; split <;> exact H
                · subst hk; exact own_relabel _ H
              obtain ⟨ad, c, rfl, had, hml, hnews⟩ := hsr
              have touch : ∀ n, n < w.heap.size → (∀ r' rt', r' ∈ tchOf x' → s.root r' = some rt' → ¬ (pl r').F n) → ¬ (pl1 r).F n := by
                intro n hn h hF
                obtain ⟨r', rt', q1, q2, q3⟩ := htch n hF
                exact h r' rt' q1 q2 q3
              cases ad with
              | none =>
                have hm0 := had rfl
                simp only at hm0
                subst hm0
                obtain ⟨xs, hrow⟩ := own_rowOf H
                refine ⟨_, w, S, _, run_append_none hT hi hrow, R1.redo hr (rt' := ⟨e0, el_t, if el_t.flat = true then k0 else 0, x0 ++ [], none⟩) (ct' := (pl1 r).ct) (v' := vx) (F' := (pl1 r).F) ?_ (fun n hn => .inl hn) rfl rfl (SameOut.refl w) (Nat.le_refl _) (fun _ _ _ => rfl), ?_, ?_, trivial, fun _ _ _ => rfl⟩
                · simp only [List.append_nil]; exact H'
                · intro rt2 hrt2
                  have : rt2 = ⟨e0, el_t, if el_t.flat = true then k0 else 0, x0 ++ [], none⟩ := by
                    simp only [XS.redo, XS.addRoot, XS.kill, XS.also, lk, if_true, Option.some.injEq] at hrt2; exact hrt2.symm
                  subst this
                  simp only [if_true]
                  have := (H'.hdr (by simp)).1
                  rw [this]
                  simp [RT.at, TV.len, RT.ty, atCT]
                · exact AV.lt_ref (Nat.lt_succ_self _)
              | some ad =>
                obtain ⟨news, hnl, hnc, hnr⟩ := hnews ad rfl
                simp only at hnl hnr hml
                have hst : el_t.flat = true ∨ (if el_t.flat = true then k0 else 0) = 0 := by
                  by_cases hf : el_t.flat = true
                  · exact .inl hf
                  · rw [if_neg hf]; exact .inr rfl
                obtain ⟨v', w', ct', F', hrun, HO, hF', hos, htape, hout, hsize, hold⟩ := own_append (P := P) (ty := ty) H' hT hi hz hsz hby hzl ad c news (y := m) (kids2 := fun _ => CT.of el_t) (F2 := fun _ => noF) hnl hnc
                  (fun i hi => (hnr i hi).own hst) (fun _ _ _ _ _ h => h.elim) (fun _ _ _ h => h.elim) (fun n hn => (R1.Flt r _ n hr hn).1) (fun n hn => ⟨R1.lt n hn, fun h => (R1.Flt r _ n hr h).2 hn⟩)
                  (src_one hnl hnr) hb hlen
                have hF'' : ∀ n, F' n → ((pl1 r).F n) ∨ (w.heap.size ≤ n ∧ n < w'.heap.size) := fun n hn => by
                  rcases hF' n hn with (h | ⟨i, _, h⟩) | h
                  · exact .inl h
                  · exact h.elim
                  · exact .inr h
                refine ⟨v', w', S, _, hrun, R1.redo hr (rt' := ⟨e0, el_t, if el_t.flat = true then k0 else 0, x0 ++ m, none⟩) HO hF'' hos htape hout.all hsize hold, ?_, ?_, trivial, fun n hn h => hold n hn (touch n hn h)⟩
                · intro rt2 hrt2
                  have : rt2 = ⟨e0, el_t, if el_t.flat = true then k0 else 0, x0 ++ m, none⟩ := by
                    simp only [XS.redo, XS.addRoot, XS.kill, XS.also, lk, if_true, Option.some.injEq] at hrt2; exact hrt2.symm
                  subst this
                  simp only [if_true]
                  have := (HO.hdr (by simp)).1
                  rw [this]
                  simp [RT.at, TV.len, RT.ty, atCT]
                · exact AV.lt_ref (Nat.lt_succ_self _)
            · cases h
          · cases h
        · split at h
          · rename_i q hsn
            cases hq : s1.root q with
            | none => rw [hq] at h; cases h
            | some qt =>
              rw [hq] at h
              simp only at h
              split at h
              · rename_i hc
                split at h
                · rename_i l m hl hm
                  cases h
                  obtain ⟨hp1, hb, hlen⟩ := hpre
                  obtain ⟨pl1, rt1, R1, hr1, he, ht, hh, H, htch⟩ := own1_ok R hx hown hp1
                  rw [hr] at hr1
                  cases hr1
                  obtain ⟨e0, t0, k0, x0, h0⟩ := rt
                  obtain ⟨e2, t2, k2, x2, h2⟩ := qt
                  simp only at he ht hh hl H hc
                  obtain ⟨hc1, hc2, hc3, hc4⟩ := hc
                  subst he ht hh hc1 hc2 hc3
                  simp only [castL_self, Option.some.injEq] at hl
                  subst hl
                  simp only at hm
                  obtain ⟨rfl, rfl⟩ := castL_eq hm
                  have hy := hy _ s1 pl1 rfl (own1_env hown) R1
                  obtain ⟨hv, H2⟩ := R1.own _ _ hq
                  have hvv : vy = hv := by
                    have h1 : vy = hdr (atCT [] (RT.ty ⟨e2, t2, k2, m, none⟩) (pl1 q).ct) (RT.at ⟨e2, t2, k2, m, none⟩ []).len := hy _ hq
                    rw [h1]; exact (H2.hdr (by simp)).1.symm
                  subst hvv
                  obtain ⟨hT, hinf, ⟨inf, hi, hsz, hby⟩, _, _⟩ := slice_te (ttB_get htt hte)
                  obtain ⟨inf', z, hi', hsz', hz, hzl, _⟩ := hinf.info
                  rw [hi] at hi'; cases hi'
                  have touch : ∀ n, n < w.heap.size → (∀ r' rt', r' ∈ tchOf x' → s.root r' = some rt' → ¬ (pl r').F n) → ¬ (pl1 r).F n := by
                    intro n hn h hF
                    obtain ⟨r', rt', q1, q2, q3⟩ := htch n hF
                    exact h r' rt' q1 q2 q3
                  obtain ⟨v', w', ct', F', hrun, HO, hF', hos, htape, hout, hsize, hold⟩ := own_cat (P := P) (ty := ty) H H2 hT hi hz hsz hby hzl
                    (fun n h1 h2 => hc4 (R1.disj _ _ _ _ n hq hr h1 h2)) (fun n hn => (R1.Flt r _ n hr hn).1) (fun n hn => (R1.Flt q _ n hq hn).1) (fun n hn => ⟨R1.lt n hn, fun h => (R1.Flt r _ n hr h).2 hn⟩) hb hlen
                  refine ⟨v', w', S, _, hrun, R1.redo2 hr hq (rt' := ⟨e2, t2, k2, x0 ++ m, none⟩) HO hF' hos htape hout.all hsize hold, ?_, ?_, trivial, fun n hn h => hold n hn (touch n hn h)⟩
                  · intro rt2 hrt2
                    have : rt2 = ⟨e2, t2, k2, x0 ++ m, none⟩ := by
                      simp only [XS.redo2, XS.addRoot, XS.kill, XS.also, lk, if_true, Option.some.injEq] at hrt2; exact hrt2.symm
                    subst this
                    simp only [if_true]
                    have := (HO.hdr (by simp)).1
                    rw [this]
                    simp [RT.at, TV.len, RT.ty, atCT]
                  · exact AV.lt_ref (Nat.lt_succ_self _)
                · cases h
              · cases h
          · cases h
      · cases h
    · cases h
  · cases h

end
end Fer

namespace Fer
open Go

theorem rm_rm {α : Type} (j : Nat) : ∀ l : List (Nat × α), rm (rm l j) j = rm l j
  | [] => rfl
  | (i, x) :: l => by
    simp only [rm]
    by_cases h : i = j
    · rw [if_pos h]; exact rm_rm j l
    · rw [if_neg h]; simp only [rm]; rw [if_neg h, rm_rm j l]

def XS.wrote (s : XS) (r : Nat) (rt : RT) (p : List Nat) (y : TV) : XS := { s.setRoot r (rt.wr p y) with env := cutEnv r (safeR rt.ty p) (safeP rt.ty p) s.env }

section
variable {P : Program} {tt : List (Nat × TE)} {w0 : World} {S0 : Nat → Prop} {N : Nat} {dr : Bool} {pc : Pins} {s : XS} {a : Act} {w w' : World} {S : Nat → Prop} {pl : Nat → PL}

theorem RelAt.write (R : RelAt w0 S0 N dr pc s a w S pl) {r : Nat} {rt : RT} (hr : s.root r = some rt) {i : Nat} {p : List Nat} (hh : rt.h = none ∨ rt.h = some (i :: p)) (hok : okS (i :: p) rt.ty rt.x (rt.k + 1))
    {y : TV} {ct' : CT} {cs' : List Value} {F' : Nat → Prop} (Hy : Own w S y.t (dep (i :: p) rt.ty (rt.k + 1)) y.x none ct' cs' F') (hyt : y.t = (rt.at (i :: p)).t)
    (hF' : ∀ b, F' b → b < w.heap.size ∧ ¬ S b ∧ (∀ r2 rt2, s.root r2 = some rt2 → ¬ (pl r2).F b) ∧ (dr = true → ∀ i, pc i b → (i, some r) ∈ s.pins)) :
    ∃ b o arr E, addrP (pl r) rt (i :: p) = .pointer (some ⟨b, o, none⟩) ∧ w.heap[b]? = some (.cells arr E (0, 0)) ∧ o + cs'.length ≤ arr.size ∧ (pl r).F b ∧
      ∃ pl', RelAt w0 S0 N dr pc (s.wrote r rt (i :: p) y) a (w.setRow b (spl arr o cs')) S pl' := by
  rcases hh with hh | hh
  · obtain ⟨b1, o1, cs1, F1, pl1, e1, e2, e3, R1, hct, hsub, hF⟩ := R.punch hr hh hok
    have hr1 : (s.setRoot r (rt.cut (i :: p))).root r = some (rt.cut (i :: p)) := by simp [XS.root, XS.setRoot, lk]
    obtain ⟨b, o, arr, E, q1, q2, q3, q4, pl', R2⟩ := R1.fill hr1 (i := i) (p := p) rfl hok Hy hyt (fun n hn => by
      obtain ⟨g1, g2, g3, g4⟩ := hF' n hn
      refine ⟨g1, g2, fun r2 rt2 h2 h3 => ?_, g4⟩
      simp only [XS.root, XS.setRoot, lk] at h2
      by_cases e : r = r2
      · subst e; exact g3 r rt hr (hsub _ n h3)
      · rw [if_neg e] at h2; exact g3 r2 rt2 (lk_rm_some h2).2 (hsub _ n h3))
    have hadr : addrP (pl1 r) (rt.cut (i :: p)) (i :: p) = addrP (pl r) rt (i :: p) := by
      simp only [addrP, hct]; rfl
    refine ⟨b, o, arr, E, hadr ▸ q1, q2, q3, hsub _ b q4, pl', ?_⟩
    have est : ({ (s.setRoot r (rt.cut (i :: p))).setRoot r ((rt.cut (i :: p)).wr (i :: p) y) with env := cutEnv r (safeR (rt.cut (i :: p)).ty (i :: p)) (safeP (rt.cut (i :: p)).ty (i :: p)) (s.setRoot r (rt.cut (i :: p))).env } : XS) = s.wrote r rt (i :: p) y := by
      simp only [XS.setRoot, XS.wrote, rm, if_true, rm_rm]; rfl
    rw [est] at R2
    exact R2
  · exact R.fill hr hh hok Hy hyt hF'

theorem own_trunc {e : Nat} {t : Ty} {k : Nat} {l : List t.den} {ct : CT} {cs : List Value} {F : Nat → Prop} (H : Own w S (.list e t) (k + 1) l none ct cs F) {n : Nat} (hn : n ≤ l.length) {u : Value} (hu : subR ct t.width 0 n u) :
    ∃ F', (∀ m, F' m → F m) ∧ Own w S (.list e t) (k + 1) (l.take n) none ct [u] F' ∧ ∃ ad c, u = .slice ad n c := by
  rcases own_inv H with ⟨rfl, rfl, rfl, hF⟩ | ⟨b, cap, kids, arr, Fs, rfl, rfl, q2, q3, h4, h5, g1, g2, g3, g4⟩
  · have hu : u = .slice none 0 0 := hu
    subst hu
    have : n = 0 := by simpa using hn
    subst this
    exact ⟨F, fun _ h => h, .inr ⟨by simp, rfl, rfl, hF⟩, none, 0, rfl⟩
  · obtain ⟨ad, rfl, had⟩ := hu
    have had := had (.inr rfl)
    subst had
    have hlen : (l.take n).length = n := by simp; omega
    refine ⟨fun m => m = b ∨ ∃ i, i < n ∧ Fs i m, fun m hm => (g1 m).2 ?_, ?_, _, _, rfl⟩
    · rcases hm with h | ⟨i, h1, h2⟩
      · exact .inl h
      · exact .inr ⟨i, by omega, h2⟩
    · refine .inr ⟨by simp, ?_, by rw [hlen]; omega, q3, arr, h4, h5, Fs, fun m => by rw [hlen], fun i hi => g2 i (by omega), fun i j m hi hj => g3 i j m (by omega) (by omega), fun i hi => ?_⟩
      · simp [hlen]
      · rw [hsub_none]
        have hg := g4 i (by omega)
        have : (l.take n).getD i t.dflt = l.getD i t.dflt := by
          simp only [List.getD_eq_getElem?_getD, List.getElem?_take, if_pos (show i < n by omega)]
        rw [this]
        exact hg

theorem cutRoot (R : RelAt w0 S0 N dr pc s a w S pl) {r : Nat} {rt : RT} (hr : s.root r = some rt) (hh : rt.h = none) {hi : Nat} {v : Value} (hlo : hi ≤ rt.x.length) (hv : subR (pl r).ct rt.t.width 0 hi v) :
    ∃ pl', RelAt w0 S0 N dr pc { s.setRoot r { rt with x := rt.x.take hi } with env := cutEnv r (fun _ => false) (fun _ => true) s.env } a w S pl' ∧ v = hdr (pl' r).ct (rt.x.take hi).length ∧ (pl' r).ct = (pl r).ct := by
  obtain ⟨hv0, H⟩ := R.own r rt hr
  rw [hh] at H
  obtain ⟨F', h1, h2, _⟩ := own_trunc H hlo hv
  refine ⟨_, R.setRoot (w' := w) (rt' := { rt with x := rt.x.take hi }) (kr := fun _ => false) (kp := fun _ => true) hr rfl rfl rfl (SameOut.refl w) (Nat.le_refl _) (fun _ _ _ => rfl) (ct' := (pl r).ct) (F' := F') (hv := v) (by rw [hh]; exact h2) (fun b hb => ⟨(R.Flt r rt b hr (h1 b hb)).1, .inl (h1 b hb)⟩) ⟨(fun _ h => by cases h), (fun _ _ _ _ h => by cases h), fun _ _ => rfl⟩, ?_, ?_⟩
  · simp only [if_true]
    exact (h2.hdr (by simp)).1
  · simp only [if_true]

def Ty.plainL : Ty → Bool
  | .int _ | .bool | .str => true
  | .list _ _ => true
  | .prod a b => a.plainL && b.plainL
  | _ => false
theorem own_dflt {w : World} {S : Nat → Prop} : ∀ {t : Ty} {k : Nat} {ct : CT} {cs : List Value} {F : Nat → Prop}, t.plainL = true → Own w S t k t.dflt none ct cs F → RO w S t t.dflt cs
  | .int _, _, _, _, _, _, h | .bool, _, _, _, _, _, h | .str, _, _, _, _, _, h => by
    rcases h.2 with h | h
    · cases h.1
    · exact h.2
  | .list e t, k, ct, cs, F, _, H => by
    rcases H with H | ⟨_, H⟩
    · simp at H
    · cases k with
      | zero => exact H.2.1
      | succ k =>
        cases ct with
        | nil =>
          obtain ⟨_, rfl, _⟩ := H
          exact ⟨none, 0, rfl, Nat.le_refl _, Nat.zero_le _, fun h => absurd rfl h⟩
        | node b cap kids =>
          obtain ⟨h1, h2, h3, _⟩ := H
          exact ⟨_, cap, h1, h2, h3, fun h => absurd rfl h⟩
        | leaf => exact H.elim
        | pair => exact H.elim
  | .prod a b, k, ct, cs, F, hp, H => by
    simp only [Ty.plainL, Bool.and_eq_true] at hp
    rcases H with H | ⟨_, H⟩
    · simp at H
    · cases ct with
      | pair c d =>
        obtain ⟨c1, c2, F1, F2, rfl, _, _, g3, g4⟩ := H
        exact ⟨c1, c2, rfl, own_dflt hp.1 (by rw [hsub_none] at g3; exact g3), own_dflt hp.2 (by rw [hsub_none] at g4; exact g4)⟩
      | nil => exact H.elim
      | node => exact H.elim
      | leaf => exact H.elim
  | .raw, _, _, _, _, hp, _ | .fn _ _, _, _, _, _, hp, _ | .row _ _, _, _, _, _, hp, _ | .ro _ _, _, _, _, _, hp, _ | .func, _, _, _, _, hp, _ => by simp [Ty.plainL] at hp

def XS.low (s : XS) (r : Nat) (rt : RT) : XS := { s.setRoot r { rt with k := 0 } with env := cutEnv r (safeR rt.ty [0]) (safeP rt.ty [0]) s.env }
theorem RelAt.low (R : RelAt w0 S0 N dr pc s a w S pl) {r : Nat} {rt : RT} (hr : s.root r = some rt) (hh : rt.h = none) (hx : rt.x = [rt.t.dflt]) (hp : rt.t.plainL = true) :
    ∃ pl', RelAt w0 S0 N dr pc (s.low r rt) a w S pl' ∧ (s.low r rt).root r = some { rt with k := 0 } ∧ addrP (pl' r) { rt with k := 0 } [0] = addrP (pl r) rt [0] ∧ ∀ b, (pl' r).F b → (pl r).F b := by
  obtain ⟨hv, H⟩ := R.own r rt hr
  obtain ⟨e, t, k, x, h⟩ := rt
  simp only at hh hx hp
  subst hh
  have hx : x = [t.dflt] := hx
  subst hx
  rcases own_inv H with ⟨_, h, _⟩ | ⟨b, cap, kids, arr, Fs, hct, hv2, q2, q3, hb, hsz, g1, g2, g3, g4⟩
  · cases h
  have hlow : Own w S (.list e t) 1 [t.dflt] none (.node b cap fun _ => CT.of t) [hv] (fun n => n = b) :=
    .inr ⟨by simp, hv2, q2, q3, arr, hb, hsz, fun _ => noF, fun n => ⟨fun h => .inl h, fun h => h.elim id fun ⟨_, _, h⟩ => h.elim⟩, fun _ _ h => h.elim, fun _ _ _ _ _ h => h.elim, fun i hi => by
      have hi0 : i = 0 := Nat.lt_one_iff.1 hi
      subst hi0
      rw [hsub_none]
      exact (own_dflt hp (g4 0 hi)).own (.inr rfl)⟩
  refine ⟨_, R.setRoot (rt' := ⟨e, t, 0, [t.dflt], none⟩) (kr := safeR (.list e t) [0]) (kp := safeP (.list e t) [0]) hr (by cases t <;> simp [safeP]) rfl rfl (SameOut.refl _) (Nat.le_refl _) (fun _ _ _ => rfl) hlow (fun n hn => ?_) ⟨fun p hp => ?_, fun p lo hi v hp h1 h2 h3 => ?_, fun p hp => ?_⟩, by simp [XS.low, XS.root, XS.setRoot, lk], ?_, fun n hn => ?_⟩
  · have hn : n = b := hn
    subst hn
    exact ⟨(R.Flt r _ n hr ((g1 n).2 (.inl rfl))).1, .inl ((g1 n).2 (.inl rfl))⟩
  · cases p with
    | nil => rw [hct]; rfl
    | cons j q => simp [safeR] at hp
  · cases p with
    | nil =>
      refine ⟨h2, ?_⟩
      rw [hct] at h3
      exact h3
    | cons j q => simp [safeR] at hp
  · cases p with
    | nil => rfl
    | cons j q =>
      cases q with
      | nil => rw [hct]; rfl
      | cons j' q => simp [safeP] at hp
  · simp only [if_true]
    unfold addrP
    rw [hct]; rfl
  · simp only [if_true] at hn
    have hn : n = b := hn
    subst hn
    exact (g1 n).2 (.inl rfl)

def Ty.isLL : Ty → Bool
  | .prod (.list _ _) (.list _ _) => true
  | _ => false
theorem Ty.isLL_iff {t : Ty} (h : t.isLL = true) : ∃ e u e' u', t = .prod (.list e u) (.list e' u') := by
  unfold Ty.isLL at h
  split at h
  · exact ⟨_, _, _, _, rfl⟩
  · cases h

def agSt (s : XS) (r : Nat) (rt : RT) (i : Nat) (p : List Nat) (t' : Ty) (l : List AV) : Option (Prop × XS) :=
  match l with
  | [.ref q [], .ref q' []] => if q = r ∨ q' = r ∨ q' = q then none else match s.root q, s.root q' with
    | some qt, some qt' => if qt.h = none ∧ qt'.h = none ∧ Ty.prod qt.ty qt'.ty = t' ∧ dep (i :: p) rt.ty (rt.k + 1) = qt.k + 1 ∧ dep (i :: p) rt.ty (rt.k + 1) = qt'.k + 1 then
        some (okS (i :: p) rt.ty rt.x (rt.k + 1), ((((s.also q r).kill q).also q' r).kill q').wrote r rt (i :: p) ⟨.prod qt.ty qt'.ty, (qt.x, qt'.x)⟩) else none
    | _, _ => none
  | [.ref q [0, 0], .ref q' [0, 1]] => if q = r ∨ q' ≠ q then none else match s.root q with
    | some qt => match qt.x with
      | [v] => if qt.h = none ∧ qt.t = t' ∧ qt.t.isLL = true ∧ dep (i :: p) rt.ty (rt.k + 1) = qt.k ∧ 0 < qt.k then
          some (okS (i :: p) rt.ty rt.x (rt.k + 1), ((s.also q r).kill q).wrote r rt (i :: p) ⟨qt.t, v⟩) else none
      | _ => none
    | none => none
  | _ => none

open Classical in
noncomputable def stAV (tt : List (Nat × TE)) (s : XS) (T : Nat) (x y : Option AV) : Option MF :=
  match (lk tt T).bind TE.ty, x, y with
  | some t', some (.ptr r (i :: p)), some y => match s.root r with
    | some rt =>
      if (rt.at (i :: p)).t = t' ∧ (rt.h = none ∨ rt.h = some (i :: p)) then
        match y with
        | .dat .raw v => match t', v with
          | .list e t, .slice none 0 0 => if dep (i :: p) rt.ty (rt.k + 1) ≠ 0 then some ⟨okS (i :: p) rt.ty rt.x (rt.k + 1), True, .junk, s.wrote r rt (i :: p) ⟨.list e t, []⟩, [r]⟩ else none
          | _, _ => none
        | .dat t v => if t = t' ∧ (t.flat = true ∨ dep (i :: p) rt.ty (rt.k + 1) = 0) then some ⟨okS (i :: p) rt.ty rt.x (rt.k + 1), True, .junk, s.wrote r rt (i :: p) ⟨t, v⟩, [r]⟩ else
          if t = t' ∧ i = 0 ∧ p = [] ∧ rt.h = none ∧ rt.x = [rt.t.dflt] ∧ rt.t.plainL = true then some ⟨True, True, .junk, (s.low r rt).wrote r { rt with k := 0 } [0] ⟨t, v⟩, [r]⟩ else none
        | .sub q p' lo hi => if q = r ∧ p' = i :: p ∧ lo = 0 ∧ rt.h = none then match elAt rt (i :: p) with
          | some el => some ⟨okNode rt (i :: p), True, .junk, s.wrote r rt (i :: p) ⟨.list el.e el.t, el.l.take hi⟩, [r]⟩
          | none => none
          else none
        | .ref q [] => if q = r then none else match s.root q with
          | some qt => if qt.h = none ∧ qt.ty = t' ∧ dep (i :: p) rt.ty (rt.k + 1) = qt.k + 1 then
              some ⟨okS (i :: p) rt.ty rt.x (rt.k + 1), True, .junk, ((s.also q r).kill q).wrote r rt (i :: p) ⟨qt.ty, qt.x⟩, [r]⟩ else none
          | none => none
        | .agg l => (agSt s r rt i p t' l).map fun z => ⟨z.1, True, .junk, z.2, [r]⟩
        | _ => none
      else none
    | none => none
  | _, _, _ => none

theorem stAV_ok (htt : ttB P tt = true) (R : RelAt w0 S0 N dr pc s a w S pl) {T : Nat} {x y : Option AV} {vx vy : Value} {mf : MF} (hx : ∀ u, x = some u → AVR w S s.rts pl u vx)
    (hy : ∀ u, y = some u → AVR w S s.rts pl u vy) (h : stAV tt s T x y = some mf) (hpre : mf.pre) :
    MFok w0 S0 N dr pc s a w pl mf (match (Instr.storeAt T vx vy).run P w with | .ok _ w' => .ok undef w' | .halt e w' => .halt e w') := by
  unfold stAV at h
  split at h
  · rename_i t' r i p y' hte
    have hT := tt_ok htt hte
    split at h
    · rename_i rt hr
      have hvx : vx = addrP (pl r) rt (i :: p) := hx _ rfl rt hr
      split at h
      · rename_i hc
        have go : ∀ (s1 : XS) (pl1 : Nat → PL) (R1 : RelAt w0 S0 N dr pc s1 a w S pl1) (hr1 : s1.root r = some rt) (hpl : pl1 r = pl r) (y : TV) (ct' : CT) (cs' : List Value) (F' : Nat → Prop), okS (i :: p) rt.ty rt.x (rt.k + 1) →
            Own w S y.t (dep (i :: p) rt.ty (rt.k + 1)) y.x none ct' cs' F' → y.t = t' → vy.cells.toList = cs' → (∀ u ∈ cs', u.oneCell' = true) →
            (∀ b, F' b → b < w.heap.size ∧ ¬ S b ∧ (∀ r2 rt2, s1.root r2 = some rt2 → ¬ (pl1 r2).F b) ∧ (dr = true → ∀ i, pc i b → (i, some r) ∈ s1.pins)) →
            MFok w0 S0 N dr pc s a w pl ⟨okS (i :: p) rt.ty rt.x (rt.k + 1), True, .junk, s1.wrote r rt (i :: p) y, [r]⟩ (match (Instr.storeAt T vx vy).run P w with | .ok _ w' => .ok undef w' | .halt e w' => .halt e w') := by
          intro s1 pl1 R1 hr1 hpl y ct' cs' F' hok Hy hyt hcells hone hF'
          obtain ⟨b, o, arr, E, q1, q2, q3, q4, pl', R2⟩ := R1.write hr1 hc.2 hok Hy (hyt.trans hc.1.symm) hF'
          have hrun : (Instr.storeAt T vx vy).run P w = .ok () (w.setRow b (spl arr o cs')) := by
            rw [hvx, ← hpl, q1]
            exact run_store_at hT q2 hcells (by rw [Hy.length, hyt]) q3 hone
          rw [hrun]
          refine ⟨undef, _, S, pl', rfl, R2, trivial, fun r hr => by simp [AV.ids] at hr, trivial, fun n hn h => setRow_other w b n _ fun e => ?_⟩
          subst e
          exact h r rt (by simp) hr (hpl ▸ q4)
        split at h
        · split at h
          · rename_i e t
            split at h
            · rename_i hd
              cases h
              obtain ⟨rfl, _⟩ := AVR.raw (hy _ rfl)
              obtain ⟨k, hk⟩ : ∃ k, dep (i :: p) rt.ty (rt.k + 1) = k + 1 := ⟨_, (Nat.succ_pred_eq_of_pos (Nat.pos_of_ne_zero hd)).symm⟩
              exact go s pl R hr rfl ⟨.list e t, []⟩ .nil [.slice none 0 0] noF hpre (by rw [hk]; exact own_nil) rfl rfl (by simp [Value.oneCell']) fun _ h => h.elim
            · cases h
          · cases h
        · rename_i t v _
          split at h
          · rename_i hd
            cases h
            obtain ⟨cs, rfl, hro⟩ := hy _ rfl
            exact go s pl R hr rfl ⟨t, v⟩ (CT.of t) cs noF hpre (hro.own hd.2) hd.1 (pack_cells hro.length hro.oneCell) hro.oneCell fun _ h => h.elim
          · split at h
            · rename_i hd
              cases h
              obtain ⟨rfl, rfl, rfl, hh, hx0, hpl0⟩ := hd
              obtain ⟨cs, rfl, hro⟩ := hy _ rfl
              obtain ⟨pl0, R0, hr0, ha0, hF0⟩ := R.low hr hh hx0 hpl0
              have hok0 : okS [0] ({ rt with k := 0 } : RT).ty ({ rt with k := 0 } : RT).x 1 := ⟨Nat.one_pos, by show 0 < rt.x.length; rw [hx0]; exact Nat.one_pos, trivial⟩
              obtain ⟨b, o, arr, E, q1, q2, q3, q4, pl', R2⟩ := R0.write hr0 (.inl hh) hok0 (y := ⟨t, v⟩) (ct' := CT.of t) (cs' := cs) (F' := noF) (hro.own (.inr rfl)) hc.1.symm fun _ h => h.elim
              have hrun : (Instr.storeAt T vx (pack t cs)).run P w = .ok () (w.setRow b (spl arr o cs)) := by
                rw [hvx, ← ha0, q1]
                exact run_store_at hT q2 (pack_cells hro.length hro.oneCell) hro.length q3 hro.oneCell
              rw [hrun]
              refine ⟨undef, _, S, pl', rfl, R2, trivial, fun r hr => by simp [AV.ids] at hr, trivial, fun n hn h => setRow_other w b n _ fun e => ?_⟩
              subst e
              exact h r rt (by simp) hr (hF0 _ q4)
            · cases h
        · rename_i q p' lo hi
          split at h
          · rename_i he
            obtain ⟨rfl, rfl, rfl, hh⟩ := he
            split at h
            · rename_i el hel
              cases h
              obtain ⟨hok, hdp⟩ := hpre
              have hat := elAt_eq hel
              have hsv := hy _ rfl rt hr
              obtain ⟨_, hle, hsub⟩ := hsv
              obtain ⟨b1, o1, cs1, F1, pl1, e1, e2, e3, R1, hct, hsb, hF⟩ := R.punch hr hh hok
              have hr1 : (s.setRoot q (rt.cut (i :: p))).root q = some (rt.cut (i :: p)) := by simp [XS.root, XS.setRoot, lk]
              obtain ⟨k, hk⟩ : ∃ k, dep (i :: p) rt.ty (rt.k + 1) = k + 1 := ⟨_, (Nat.succ_pred_eq_of_pos hdp).symm⟩
              have e3' : Own w S (.list el.e el.t) (k + 1) el.l none (atCT (i :: p) rt.ty (pl q).ct) cs1 F1 := by
                have := e3
                rw [hk] at this
                rw [hat] at this
                exact this
              have hle' : hi ≤ el.l.length := by rw [hat] at hle; exact hle
              have hsub' : subR (atCT (i :: p) rt.ty (pl q).ct) el.t.width 0 hi vy := by rw [hat] at hsub; exact hsub
              obtain ⟨F', h1, h2, ad, c, rfl⟩ := own_trunc e3' hle' hsub'
              obtain ⟨b, o, arr, E, q1, q2, q3, q4, pl', R2⟩ := R1.fill hr1 (i := i) (p := p) rfl hok (y := ⟨.list el.e el.t, el.l.take hi⟩) (by rw [show dep (i :: p) (rt.cut (i :: p)).ty ((rt.cut (i :: p)).k + 1) = k + 1 from hk]; exact h2) (show Ty.list el.e el.t = (rt.at (i :: p)).t by rw [hat]) (fun n hn => by
                obtain ⟨g1, g2, g3, g4, g5⟩ := hF n (h1 n hn)
                refine ⟨g2, g3, g4, fun hdd j hj => ?_⟩
                exact g5 hdd j hj)
              have hadr : addrP (pl1 q) (rt.cut (i :: p)) (i :: p) = addrP (pl q) rt (i :: p) := by
                simp only [addrP, hct]; rfl
              have hrun : (Instr.storeAt T vx (.slice ad hi c)).run P w = .ok () (w.setRow b (spl arr o [.slice ad hi c])) := by
                rw [hvx, ← hadr, q1]
                exact run_store_at hT q2 rfl (by rw [h2.length, ← hc.1, hat]) q3 (by simp [Value.oneCell'])
              rw [hrun]
              have est : ({ (s.setRoot q (rt.cut (i :: p))).setRoot q ((rt.cut (i :: p)).wr (i :: p) ⟨.list el.e el.t, el.l.take hi⟩) with env := cutEnv q (safeR (rt.cut (i :: p)).ty (i :: p)) (safeP (rt.cut (i :: p)).ty (i :: p)) (s.setRoot q (rt.cut (i :: p))).env } : XS) = s.wrote q rt (i :: p) ⟨.list el.e el.t, el.l.take hi⟩ := by
                simp only [XS.setRoot, XS.wrote, rm, if_true, rm_rm]; rfl
              rw [est] at R2
              refine ⟨undef, _, S, pl', rfl, R2, trivial, fun r hr => by simp [AV.ids] at hr, trivial, fun n hn h => setRow_other w b n _ fun e => ?_⟩
              subst e
              exact h q rt (by simp) hr (hsb _ _ q4)
            · cases h
          · cases h
        · rename_i q
          split at h
          · cases h
          · rename_i hqr
            split at h
            · rename_i qt hq
              split at h
              · rename_i hd
                cases h
                obtain ⟨hv, H⟩ := R.own q qt hq
                rw [hd.1] at H
                have hvv : vy = hv := by
                  have h1 : vy = hdr (atCT [] qt.ty (pl q).ct) (qt.at []).len := hy _ rfl qt hq
                  rw [h1]; exact (H.hdr (by simp)).1.symm
                subst hvv
                have hk : ∀ r2 rt2, ((s.also q r).kill q).root r2 = some rt2 → r2 ≠ q ∧ s.root r2 = some rt2 := fun r2 rt2 h => lk_rm_some h
                have hslice : ∃ ad l c, vy = .slice ad l c := by
                  have := (H.hdr (by simp)).1
                  rw [this]
                  cases (pl q).ct <;> exact ⟨_, _, _, rfl⟩
                obtain ⟨ad, l, c, rfl⟩ := hslice
                refine go ((s.also q r).kill q) pl ((R.also q r).kill q) (by simp only [XS.root, XS.kill, XS.also]; rw [lk_rm_ne (fun e => hqr e.symm)]; exact hr) rfl ⟨qt.ty, qt.x⟩ (pl q).ct [.slice ad l c] (pl q).F hpre (by rw [hd.2.2]; exact H) hd.2.1 rfl (by simp [Value.oneCell'])
                  fun n hn => ⟨(R.Flt q qt n hq hn).1, (R.Flt q qt n hq hn).2, fun r2 rt2 h2 h3 => (hk r2 rt2 h2).1 (R.disj r2 q rt2 qt n (hk r2 rt2 h2).2 hq h3 hn), fun hdd j hj => ?_⟩
                obtain ⟨q1, h1, _, h3⟩ := R.pins hdd j n hj
                have := h3 q qt hq hn
                subst this
                exact mem_pinAlso_new h1
              · cases h
            · cases h
        · rename_i l
          cases hag : agSt s r rt i p t' l with
          | none => rw [hag] at h; cases h
          | some z =>
            rw [hag] at h
            cases h
            unfold agSt at hag
            split at hag
            · rename_i q q'
              split at hag
              · cases hag
              · rename_i hne
                have hne1 : q ≠ r := fun e => hne (.inl e)
                have hne2 : q' ≠ r := fun e => hne (.inr (.inl e))
                have hne3 : q' ≠ q := fun e => hne (.inr (.inr e))
                split at hag
                · rename_i qt qt' hq hq'
                  split at hag
                  · rename_i hd
                    obtain ⟨d1, d2, rfl, d4, d5⟩ := hd
                    cases hag
                    obtain ⟨vs, rfl, hvs⟩ := hy _ rfl
                    cases hvs with
                    | @cons _ u1 _ vs1 b1 hvs =>
                    cases hvs with
                    | @cons _ u2 _ vs2 b2 hvs =>
                    cases hvs
                    obtain ⟨hv1, H1⟩ := R.own q qt hq
                    obtain ⟨hv2, H2⟩ := R.own q' qt' hq'
                    rw [d1] at H1
                    rw [d2] at H2
                    have g1 := (H1.hdr (by simp)).1
                    have g2 := (H2.hdr (by simp)).1
                    have e1 : u1 = hv1 := by rw [g1]; exact b1 qt hq
                    have e2 : u2 = hv2 := by rw [g2]; exact b2 qt' hq'
                    subst e1 e2
                    have c1 : u1.cells.toList = [u1] := by rw [g1]; unfold hdr; split <;> rfl
                    have c2 : u2.cells.toList = [u2] := by rw [g2]; unfold hdr; split <;> rfl
                    have o1 : u1.oneCell' = true := by rw [g1]; unfold hdr; split <;> rfl
                    have o2 : u2.oneCell' = true := by rw [g2]; unfold hdr; split <;> rfl
                    have hk : ∀ r2 rt2, ((((s.also q r).kill q).also q' r).kill q').root r2 = some rt2 → r2 ≠ q' ∧ r2 ≠ q ∧ s.root r2 = some rt2 := fun r2 rt2 h => by
                      obtain ⟨k1, k2⟩ := lk_rm_some h
                      obtain ⟨k3, k4⟩ := lk_rm_some (show lk (rm s.rts q) r2 = some rt2 from k2)
                      exact ⟨k1, k3, k4⟩
                    have hq2 : ((s.also q r).kill q).root q' = some qt' := by simp only [XS.root, XS.kill, XS.also]; rw [lk_rm_ne hne3]; exact hq'
                    refine go ((((s.also q r).kill q).also q' r).kill q') pl ((((R.also q r).kill q).also q' r).kill q') (by simp only [XS.root, XS.kill, XS.also]; rw [lk_rm_ne (Ne.symm hne2), lk_rm_ne (Ne.symm hne1)]; exact hr) rfl ⟨.prod qt.ty qt'.ty, (qt.x, qt'.x)⟩ (.pair (pl q).ct (pl q').ct) [u1, u2] (fun n => (pl q).F n ∨ (pl q').F n) hpre
                      (.inr ⟨by simp, [u1], [u2], (pl q).F, (pl q').F, rfl, fun _ => Iff.rfl, fun n n1 n2 => hne3 (R.disj q' q qt' qt n hq' hq n2 n1), by rw [hsub_none, d4]; exact H1, by rw [hsub_none, d5]; exact H2⟩) rfl ?_ ?_ fun n hn => ⟨?_, ?_, fun r2 rt2 h2 h3 => ?_, fun hdd j hj => ?_⟩
                    · show (List.flatMap (fun u : Value => u.cells.toList) [u1, u2]).toArray.toList = _
                      simp only [List.flatMap_cons, List.flatMap_nil, c1, c2, List.append_nil, List.cons_append, List.nil_append]
                    · intro u hu
                      simp only [List.mem_cons, List.not_mem_nil, or_false] at hu
                      rcases hu with rfl | rfl
                      · exact o1
                      · exact o2
                    · exact hn.elim (fun h => (R.Flt q qt n hq h).1) fun h => (R.Flt q' qt' n hq' h).1
                    · exact hn.elim (fun h => (R.Flt q qt n hq h).2) fun h => (R.Flt q' qt' n hq' h).2
                    · obtain ⟨k1, k2, k3⟩ := hk r2 rt2 h2
                      rcases hn with hn | hn
                      · exact k2 (R.disj r2 q rt2 qt n k3 hq h3 hn)
                      · exact k1 (R.disj r2 q' rt2 qt' n k3 hq' h3 hn)
                    · obtain ⟨q1, h1, _, h3⟩ := R.pins hdd j n hj
                      rcases hn with hn | hn
                      · have := h3 q qt hq hn
                        subst this
                        exact mem_pinAlso (mem_pinAlso_new h1)
                      · have := h3 q' qt' hq' hn
                        subst this
                        exact mem_pinAlso_new (mem_pinAlso h1)
                  · cases hag
                · cases hag
            · rename_i q q'
              split at hag
              · cases hag
              · rename_i hne
                have hne1 : q ≠ r := fun e => hne (.inl e)
                have hne2 : q' = q := Classical.byContradiction fun e => hne (.inr e)
                subst hne2
                split at hag
                · rename_i qt hq
                  split at hag
                  · rename_i v hx
                    split at hag
                    · rename_i hd
                      obtain ⟨d1, d2, d3, d4, d5⟩ := hd
                      cases hag
                      obtain ⟨vs, rfl, hvs⟩ := hy _ rfl
                      cases hvs with
                      | @cons _ u1 _ vs1 b1 hvs =>
                      cases hvs with
                      | @cons _ u2 _ vs2 b2 hvs =>
                      cases hvs
                      have b1 := b1 qt hq
                      have b2 := b2 qt hq
                      obtain ⟨hv, H⟩ := R.own q' qt hq
                      obtain ⟨qe, qty, qk, qx, qh⟩ := qt
                      change qty.den at v
                      simp only at d1 d2 d3 d4 d5 hx
                      subst d1 hx
                      obtain ⟨ea, ta, eb, tb, rfl⟩ := Ty.isLL_iff d3
                      rcases own_inv H with ⟨_, hl0, _, _⟩ | ⟨b, cap, kids, arr, Fs, hct, hv1, q2, q3, h4, h5, g1, g2, g3, g4⟩
                      · cases hl0
                      have h0 : Own w S (.prod (.list ea ta) (.list eb tb)) qk v none (kids 0) (cellsAt arr (0 * (Ty.prod (.list ea ta) (.list eb tb)).width) (Ty.prod (.list ea ta) (.list eb tb)).width) (Fs 0) := g4 0 (by simp)
                      rw [hct] at b1 b2
                      have h00 := h0
                      rcases h0 with h0 | ⟨_, h0⟩
                      · simp at h0
                      obtain ⟨c0, hki⟩ : ∃ c0, kids 0 = c0 := ⟨_, rfl⟩
                      rw [hki] at h0 h00
                      cases c0 with
                      | nil => exact h0.elim
                      | node => exact h0.elim
                      | leaf => exact h0.elim
                      | pair cl cr =>
                      obtain ⟨w1, w2, F1, F2, hcs, _, _, p3, p4⟩ := h0
                      rw [hsub_none] at p3 p4
                      obtain ⟨v1, rfl, _⟩ := pack_one (t := .list ea ta) rfl p3.length
                      obtain ⟨v2, rfl, _⟩ := pack_one (t := .list eb tb) rfl p4.length
                      obtain ⟨k', rfl⟩ : ∃ k', qk = k' + 1 := ⟨qk - 1, by omega⟩
                      have e1 : u1 = v1 := by rw [(p3.hdr (by simp)).1]; rw [b1]; simp only [atCT, hki]; rfl
                      have e2 : u2 = v2 := by rw [(p4.hdr (by simp)).1]; rw [b2]; simp only [atCT, hki]; rfl
                      subst e1 e2
                      have hk : ∀ r2 rt2, ((s.also q' r).kill q').root r2 = some rt2 → r2 ≠ q' ∧ s.root r2 = some rt2 := fun r2 rt2 h => lk_rm_some h
                      have c1 : u1.cells.toList = [u1] := by rw [(p3.hdr (by simp)).1]; unfold hdr; split <;> rfl
                      have c2 : u2.cells.toList = [u2] := by rw [(p4.hdr (by simp)).1]; unfold hdr; split <;> rfl
                      have o1 : u1.oneCell' = true := by rw [(p3.hdr (by simp)).1]; unfold hdr; split <;> rfl
                      have o2 : u2.oneCell' = true := by rw [(p4.hdr (by simp)).1]; unfold hdr; split <;> rfl
                      have hin : ∀ n, Fs 0 n → (pl q').F n := fun n hn => (g1 n).2 (.inr ⟨0, by simp, hn⟩)
                      refine go ((s.also q' r).kill q') pl ((R.also q' r).kill q') (by simp only [XS.root, XS.kill, XS.also]; rw [lk_rm_ne (Ne.symm hne1)]; exact hr) rfl ⟨_, v⟩ (.pair cl cr) [u1, u2] (Fs 0) hpre (by rw [d4]; rw [hcs] at h00; exact h00) d2 ?_ ?_
                        fun n hn => ⟨(R.Flt q' _ n hq (hin n hn)).1, (R.Flt q' _ n hq (hin n hn)).2, fun r2 rt2 h2 h3 => (hk r2 rt2 h2).1 (R.disj r2 q' rt2 _ n (hk r2 rt2 h2).2 hq h3 (hin n hn)), fun hdd j hj => ?_⟩
                      · show (List.flatMap (fun u : Value => u.cells.toList) [u1, u2]).toArray.toList = _
                        simp only [List.flatMap_cons, List.flatMap_nil, c1, c2, List.append_nil, List.cons_append, List.nil_append]
                      · intro u hu
                        simp only [List.mem_cons, List.not_mem_nil, or_false] at hu
                        rcases hu with rfl | rfl
                        · exact o1
                        · exact o2
                      · obtain ⟨q1, h1, _, h3⟩ := R.pins hdd j n hj
                        have := h3 q' _ hq (hin n hn)
                        subst this
                        exact mem_pinAlso_new h1
                    · cases hag
                  · cases hag
                · cases hag
            · cases hag
        · cases h
      · cases h
    · cases h
  · cases h

end
end Fer

namespace Fer
open Go

def Ty.lev : Ty → Nat
  | .list _ t => t.lev + 1
  | .prod a b => max a.lev b.lev
  | .fn _ _ => 1
  | .row _ _ => 1
  | .ro _ _ => 1
  | _ => 0

def CT.zero : Ty → CT
  | .list _ _ => .nil
  | .prod a b => .pair (CT.zero a) (CT.zero b)
  | _ => .leaf

section
variable {P : Program} {tt : List (Nat × TE)} {w0 : World} {S0 : Nat → Prop} {N : Nat} {dr : Bool} {pc : Pins} {s : XS} {a : Act} {w w' : World} {S : Nat → Prop} {pl : Nat → PL}

theorem zeroB_slice {e : Nat} {t : Ty} {cs : List Value} (h : zeroB (.list e t) cs = true) : cs = [.slice none 0 0] := by
  unfold zeroB at h
  split at h <;> first | rfl | (simp_all; done) | skip
  all_goals simp at *

theorem zero_own : ∀ (t : Ty) (k : Nat) (cs : List Value), zeroB t cs = true → 0 < k → Own w S t k t.dflt none (CT.zero t) cs noF
  | .list e t, k, cs, h, hk => by
    obtain ⟨k, rfl⟩ : ∃ k', k = k' + 1 := ⟨k - 1, by omega⟩
    rw [zeroB_slice h]; exact own_nil
  | .prod a b, k, cs, h, hk => by
    simp only [zeroB, Bool.and_eq_true] at h
    exact .inr ⟨by simp, _, _, noF, noF, (List.take_append_drop a.width cs).symm, by simp [noF], by simp [noF], zero_own a k _ h.1 hk, zero_own b k _ h.2 hk⟩
  | .int _, k, cs, h, _ => (zeroB_ok w S _ cs h).own (.inl rfl)
  | .bool, k, cs, h, _ => (zeroB_ok w S _ cs h).own (.inl rfl)
  | .str, k, cs, h, _ => (zeroB_ok w S _ cs h).own (.inl rfl)
  | .raw, k, cs, h, _ => (zeroB_ok w S _ cs h).own (.inl rfl)
  | .fn _ _, k, cs, h, _ => by simp [zeroB] at h
  | .row _ _, k, cs, h, _ => by simp [zeroB] at h
  | .ro _ _, k, cs, h, _ => ⟨fun _ h => h, .inr ⟨rfl, zeroB_ok w S (.ro _ _) cs h⟩⟩
  | .func, k, cs, h, _ => (zeroB_ok w S _ cs h).own (.inl rfl)

theorem flat_lev : ∀ {t : Ty}, t.lev = 0 → t.flat = true
  | .int _, _ | .bool, _ | .str, _ | .raw, _ | .func, _ => rfl
  | .ro _ _, h => by simp [Ty.lev] at h
  | .fn _ _, h => by simp [Ty.lev] at h
  | .row _ _, h => by simp [Ty.lev] at h
  | .list _ _, h => by simp [Ty.lev] at h
  | .prod a b, h => by
    simp only [Ty.lev] at h
    have h1 : a.lev = 0 := by omega
    have h2 : b.lev = 0 := by omega
    simp [Ty.flat, flat_lev h1, flat_lev h2]

theorem zero_own' (t : Ty) (cs : List Value) (h : zeroB t cs = true) : ∃ ct, Own w S t t.lev t.dflt none ct cs noF := by
  by_cases hk : 0 < t.lev
  · exact ⟨_, zero_own t _ cs h hk⟩
  · exact ⟨_, (zeroB_ok w S t cs h).own (.inl (flat_lev (by omega)))⟩

theorem RelAt.newRow (R : RelAt w0 S0 N dr pc s a w S pl) {E : Nat} {t : Ty} {k : Nat} {l : List t.den} {cells : Array Value} {cap : Nat} {kids : Nat → CT} {Fs : Nat → Nat → Prop}
    (hs : cells.size = cap * t.width) (hl : l.length ≤ cap) (hc : cap ≤ maxLen)
    (hel : ∀ i, i < l.length → Own w S t k (l.getD i t.dflt) none (kids i) (cellsAt cells (i * t.width) t.width) (Fs i))
    (hd : ∀ i j n, i < l.length → j < l.length → Fs i n → Fs j n → i = j)
    (hF : ∀ i n, i < l.length → Fs i n → n < w.heap.size ∧ ¬ S n ∧ (∀ r2 rt2, s.root r2 = some rt2 → ¬ (pl r2).F n) ∧ (dr = true → ∀ i, pc i n → (i, some s.nxt) ∈ s.pins)) :
    ∃ pl', RelAt w0 S0 N dr pc (s.addRoot ⟨E, t, k, l, none⟩) a (w.alloc (.cells cells E)) S pl' ∧
      AVR (w.alloc (.cells cells E)) S (s.addRoot ⟨E, t, k, l, none⟩).rts pl' (.ref s.nxt []) (.slice (some ⟨w.heap.size, 0, none⟩) l.length cap) ∧
      AVR (w.alloc (.cells cells E)) S (s.addRoot ⟨E, t, k, l, none⟩).rts pl' (.ptr s.nxt [0]) (.pointer (some ⟨w.heap.size, 0, none⟩)) := by
  have g := Grew.alloc w cells E
  have hfr : ∀ n, S n → S n ∧ (w.alloc (.cells cells E)).heap[n]? = w.heap[n]? := fun n hn => ⟨hn, g.old n (R.lt n hn)⟩
  have H := own_row (w := w.alloc (.cells cells E)) (S := S) (e := E) (t := t) (k := k) (l := l) (b := w.heap.size) (cap := cap) (arr := cells) (kids := kids) (Fs := Fs) (heap_alloc_new w _) hs hl hc
    (fun i hi => (hel i hi).frame hfr fun n hn => g.old n (hF i n hi hn).1) (fun i hi h => absurd (hF i _ hi h).1 (Nat.lt_irrefl _)) hd
  refine ⟨_, R.addRoot g (rt := ⟨E, t, k, l, none⟩) H (fun n hn => ?_), ?_, ?_⟩
  · rcases hn with rfl | ⟨i, hi, hn⟩
    · exact ⟨by simp, .inl (Nat.le_refl _)⟩
    · obtain ⟨g1, g2, g3, g4⟩ := hF i n hi hn
      exact ⟨Nat.lt_of_lt_of_le g1 g.size, .inr ⟨g2, g3, g4⟩⟩
  · intro rt2 hrt2
    have : rt2 = ⟨E, t, k, l, none⟩ := by
      simp only [XS.addRoot, lk, if_true, Option.some.injEq] at hrt2; exact hrt2.symm
    subst this
    simp [RT.at, TV.len, RT.ty, atCT, hdr]
  · intro rt2 hrt2
    have : rt2 = ⟨E, t, k, l, none⟩ := by
      simp only [XS.addRoot, lk, if_true, Option.some.injEq] at hrt2; exact hrt2.symm
    subst this
    simp [addrP, RT.ty, addrOf]

theorem run_alloc {T : Nat} {inf : TypeInfo} {z : Value} (hi : P.info? T = some inf) (hz : inf.zero = some z) :
    (Instr.alloc T true (.tuple #[])).run P w = .ok (.pointer (some ⟨w.heap.size, 0, none⟩)) (w.alloc (.cells z.cells T)) := by
  simp [Instr.alloc, zeroValue, typeInfo, hi, hz, newVar, newRow]

theorem run_box {T : Nat} {v : Value} : (Instr.box T v).run P w = .ok (.pointer (some ⟨w.heap.size, 0, none⟩)) (w.alloc (.cells v.cells T)) := by
  simp [Instr.box, newVar, newRow]

def alAV (tt : List (Nat × TE)) (s : XS) (T : Nat) : Option MF :=
  match lk tt T with
  | some (.arr n _ t) => if n ≤ 9223372036854775807 then some ⟨True, True, .ptr s.nxt [0], s.addRoot ⟨T, t, t.lev, List.replicate n t.dflt, none⟩, []⟩ else none
  | some te => match te.ty with
    | some t => if t.flat = true then some ⟨True, True, .ptr s.nxt [0], s.addRoot ⟨T, t, t.lev, [t.dflt], none⟩, []⟩
      else some ⟨True, True, .ptr s.nxt [0], { s.addRoot ⟨T, t, t.lev, [t.dflt], none⟩ with env := (100000 + s.nxt, .one s.nxt) :: s.env }, []⟩
    | none => none
  | none => none

theorem te_zero {T : Nat} {te : TE} {t : Ty} (h : teB P T te = true) (ht : te.ty = some t) : infoB P T t = true := by
  cases te with
  | basic t' =>
    simp only [TE.ty, Option.some.injEq] at ht; subst ht
    simp only [teB, Bool.and_eq_true] at h
    exact h.1.1.1
  | slice e t' b =>
    simp only [TE.ty, Option.some.injEq] at ht; subst ht
    simp only [teB, Bool.and_eq_true] at h
    exact h.2
  | arr n e t' => simp [TE.ty] at ht
  | map k v => simp [TE.ty] at ht
  | mapP k v => simp [TE.ty] at ht
  | struct ts =>
    simp only [teB, Bool.and_eq_true, decide_eq_true_eq] at h
    simp only [TE.ty, h.1.1.1, if_true, Option.some.injEq] at ht
    subst ht
    exact h.1.2
  | pair e t' =>
    simp only [TE.ty, Option.some.injEq] at ht; subst ht
    exact (pair_te h).2.2.2

theorem RelAt.fact (R : RelAt w0 S0 N dr pc s a w S pl) {n : Nat} {av : AV} (h : ∀ v, AVR w S s.rts pl av v) (hl : av.lt s.nxt) (hp : av.plain = true) : RelAt w0 S0 N dr pc { s with env := (n, av) :: s.env } a w S pl := by
  refine { defers := R.defers, size := R.size, os := R.os, tape := R.tape, output := R.output, grow := R.grow, stay := R.stay, base := R.base, lt := R.lt, own := R.own, Flt := R.Flt, disj := R.disj, ids := R.ids, env := fun i u hi => ?_, pins := R.pins, news := fun i c f hi => ?_ }
  · simp only [XS.get, lk] at hi
    split at hi
    · cases hi; exact ⟨h _, hl⟩
    · exact R.env i u hi
  · simp only [XS.get, lk] at hi
    split at hi
    · cases hi; cases hp
    · exact R.news i c f hi

theorem alAV_ok (htt : ttB P tt = true) (R : RelAt w0 S0 N dr pc s a w S pl) {T : Nat} {mf : MF} (h : alAV tt s T = some mf) :
    MFok w0 S0 N dr pc s a w pl mf ((Instr.alloc T true (.tuple #[])).run P w) := by
  unfold alAV at h
  split at h
  · rename_i n e t hte
    split at h
    · rename_i hn
      cases h
      have hB := ttB_get htt hte
      simp only [teB, Bool.and_eq_true] at hB
      obtain ⟨⟨⟨h1, h2⟩, h3⟩, h4⟩ := hB
      split at h4
      · rename_i inf hinf
        split at h4
        · rename_i z hz
          simp only [Bool.and_eq_true, beq_iff_eq, List.all_eq_true, List.mem_range] at h4
          obtain ⟨h5, h6, h7⟩ := h4
          have hel : ∀ i, i < n → ∃ ct, Own w S t t.lev t.dflt none ct (cellsAt z.cells (i * t.width) t.width) noF := fun i hi => zero_own' t _ (h7 i hi)
          have hel' : ∀ i, ∃ ct, i < n → Own w S t t.lev t.dflt none ct (cellsAt z.cells (i * t.width) t.width) noF := fun i => by
            by_cases hi : i < n
            · obtain ⟨c, hc⟩ := hel i hi; exact ⟨c, fun _ => hc⟩
            · exact ⟨.leaf, fun h => absurd h hi⟩
          obtain ⟨pl', R', _, r2⟩ := R.newRow (E := T) (t := t) (k := t.lev) (l := List.replicate n t.dflt) (cells := z.cells) (cap := n) (kids := fun i => (hel' i).choose) (Fs := fun _ => noF) h6 (by simp) (by simpa [maxLen] using hn)
            (fun i hi => by
              have hi' : i < n := by simpa using hi
              have e1 : (List.replicate n t.dflt).getD i t.dflt = t.dflt := by simp [List.getD_eq_getElem?_getD, hi']
              rw [e1]; exact (hel' i).choose_spec hi') (fun _ _ _ _ _ h => h.elim) (fun _ _ _ h => h.elim)
          exact ⟨_, _, S, pl', run_alloc hinf hz, R', r2, AV.lt_ptr (Nat.lt_succ_self _), trivial, fun n hn _ => (Grew.alloc w _ _).old n hn⟩
        · simp at h4
      · cases h4
    · cases h
  · rename_i te hna hte
    split at h
    · rename_i t ht
      obtain ⟨inf, z, hi, hsz, hz, hzl, hzb⟩ := infoB_z (te_zero (ttB_get htt hte) ht)
      obtain ⟨ct, hct⟩ := zero_own' (w := w) (S := S) t _ hzb
      have hck : cellsAt z.cells 0 t.width = z.cells.toList := by
        simp only [cellsAt, List.drop_zero]; exact List.take_of_length_le (by rw [hzl]; exact Nat.le_refl _)
      obtain ⟨pl', R', r1, r2⟩ := R.newRow (E := T) (t := t) (k := t.lev) (l := [t.dflt]) (cells := z.cells) (cap := 1) (kids := fun _ => ct) (Fs := fun _ => noF) (by rw [Nat.one_mul, ← hzl]; rfl) (by simp) (by simp [maxLen])
        (fun i hi => by
          have hi' : i = 0 := by simpa using hi
          subst hi'
          rw [Nat.zero_mul, hck]; exact hct) (fun _ _ _ _ _ h => h.elim) (fun _ _ _ h => h.elim)
      split at h
      · cases h
        exact ⟨_, _, S, pl', run_alloc hi hz, R', r2, AV.lt_ptr (Nat.lt_succ_self _), trivial, fun n hn _ => (Grew.alloc w _ _).old n hn⟩
      · cases h
        exact ⟨_, _, S, pl', run_alloc hi hz, R'.fact (n := 100000 + s.nxt) (av := .one s.nxt) (fun _ rt hrt => ⟨_, (r1 rt hrt).symm⟩) (fun q hq => by simp only [AV.ids, List.mem_singleton] at hq; subst hq; exact Nat.lt_succ_self _) rfl, r2, AV.lt_ptr (Nat.lt_succ_self _), trivial, fun n hn _ => (Grew.alloc w _ _).old n hn⟩
    · cases h
  · cases h

def bxAV (s : XS) (T : Nat) (x : Option AV) : Option MF :=
  match x with
  | some (.dat t v) => if t.flat = true then some ⟨True, True, .ptr s.nxt [0], s.addRoot ⟨T, t, t.lev, [v], none⟩, []⟩
    else some ⟨True, True, .ptr s.nxt [0], s.addRoot ⟨T, t, 0, [v], none⟩, []⟩
  | _ => none

theorem bxAV_ok (R : RelAt w0 S0 N dr pc s a w S pl) {T : Nat} {x : Option AV} {vx : Value} {mf : MF} (hx : ∀ u, x = some u → AVR w S s.rts pl u vx) (h : bxAV s T x = some mf) :
    MFok w0 S0 N dr pc s a w pl mf ((Instr.box T vx).run P w) := by
  unfold bxAV at h
  split at h
  · rename_i t v
    have key : ∀ k, (t.flat = true ∨ k = 0) → MFok w0 S0 N dr pc s a w pl ⟨True, True, .ptr s.nxt [0], s.addRoot ⟨T, t, k, [v], none⟩, []⟩ ((Instr.box T vx).run P w) := by
      intro k hf
      obtain ⟨cs, rfl, hro⟩ := hx _ rfl
      have hcl := pack_cells hro.length hro.oneCell
      have hsz : (pack t cs).cells.size = 1 * t.width := by
        have h9 : (pack t cs).cells.toList.length = t.width := by rw [hcl]; exact hro.length
        rw [Nat.one_mul]; exact h9
      have hck : cellsAt (pack t cs).cells 0 t.width = cs := by
        simp only [cellsAt, List.drop_zero, hcl]; exact List.take_of_length_le (by rw [hro.length]; exact Nat.le_refl _)
      obtain ⟨pl', R', _, r2⟩ := R.newRow (E := T) (t := t) (k := k) (l := [v]) (cells := (pack t cs).cells) (cap := 1) (kids := fun _ => CT.of t) (Fs := fun _ => noF) hsz (by simp) (by simp [maxLen])
        (fun i hi => by
          have hi' : i = 0 := by simpa using hi
          subst hi'
          rw [Nat.zero_mul, hck]; exact hro.own hf) (fun _ _ _ _ _ h => h.elim) (fun _ _ _ h => h.elim)
      exact ⟨_, _, S, pl', run_box, R', r2, AV.lt_ptr (Nat.lt_succ_self _), trivial, fun n hn _ => (Grew.alloc w _ _).old n hn⟩
    split at h
    · rename_i hf
      cases h
      exact key _ (.inl hf)
    · cases h
      exact key 0 (.inr rfl)
  · cases h


def mkAV (tt : List (Nat × TE)) (s : XS) (T : Nat) (l c : Option AV) : Option MF :=
  match lk tt T, l, c with
  | some (.slice e t b), some (.dat (.int _) n), some (.dat (.int _) m) =>
    some ⟨0 ≤ n ∧ n ≤ m ∧ (b : Int) * m ≤ 281474976710656 ∧ m ≤ 9223372036854775807, True, .ref s.nxt [], s.addRoot ⟨e, t, t.lev, List.replicate n.toNat t.dflt, none⟩, []⟩
  | _, _, _ => none

theorem made_chunk {z : Array Value} {n i m : Nat} (hz : z.toList.length = n) (hi : i < m) : cellsAt (madeCells z (m * n)) (i * n) n = z.toList := by
  have hzs : z.size = n := hz
  apply List.ext_getElem?
  intro j
  simp only [cellsAt, List.getElem?_take, List.getElem?_drop]
  by_cases hj : j < n
  · rw [if_pos hj]
    have hlt : i * n + j < m * n := by have := mul_fit (w := n) hi (Nat.le_refl m); omega
    have hmod : (i * n + j) % n = j := by rw [Nat.add_comm, Nat.add_mul_mod_self_right, Nat.mod_eq_of_lt hj]
    simp only [madeCells, Array.getElem?_toList, Array.getElem?_map, Array.getElem?_range, hlt, if_true, Option.map_some, hzs, hmod]
    rw [getElem!_pos z j (by omega)]
    rw [Array.getElem?_eq_getElem (by omega)]
  · rw [if_neg hj, List.getElem?_eq_none (by omega)]

theorem mkAV_ok (htt : ttB P tt = true) (R : RelAt w0 S0 N dr pc s a w S pl) {T : Nat} {l c : Option AV} {vl vc : Value} {mf : MF} (hl : ∀ u, l = some u → AVR w S s.rts pl u vl) (hc : ∀ u, c = some u → AVR w S s.rts pl u vc)
    (h : mkAV tt s T l c = some mf) (hpre : mf.pre) : MFok w0 S0 N dr pc s a w pl mf ((Instr.makeSlice T vl vc).run P w) := by
  unfold mkAV at h
  split at h
  · rename_i e t b k1 n k2 m hte
    cases h
    change Int at n
    change Int at m
    obtain ⟨p1, p2, p3, p4⟩ : (0 : Int) ≤ n ∧ n ≤ m ∧ (b : Int) * m ≤ 281474976710656 ∧ m ≤ 9223372036854775807 := hpre
    have e1 := AVR.int (hl _ rfl)
    have e2 := AVR.int (hc _ rfl)
    subst e1 e2
    have hB := ttB_get htt hte
    obtain ⟨hT, _, ⟨inf, hi, hsz, hby⟩, _, _⟩ := slice_te hB
    simp only [teB, Bool.and_eq_true] at hB
    obtain ⟨inf', z, hi', _, hz, hzl, hzb⟩ := infoB_z hB.1.1.1.1
    rw [hi] at hi'; cases hi'
    have hr := run_make (P := P) w T e inf z hT hi hz k1 k2 n m p1 p2 (by rw [hby]; exact p3) p4
    obtain ⟨ct, hct⟩ := zero_own' (w := w) (S := S) t _ hzb
    obtain ⟨pl', R', r1, _⟩ := R.newRow (E := e) (t := t) (k := t.lev) (l := List.replicate n.toNat t.dflt) (cells := madeCells z.cells (m.toNat * inf.size)) (cap := m.toNat) (kids := fun _ => ct) (Fs := fun _ => noF)
      (by rw [size_madeCells, hsz]) (by simp; omega) (by simp only [maxLen]; omega)
      (fun i hi => by
        have hi' : i < n.toNat := by simpa using hi
        have e1 : (List.replicate n.toNat t.dflt).getD i t.dflt = t.dflt := by simp [List.getD_eq_getElem?_getD, hi']
        rw [e1, hsz, made_chunk hzl (by omega)]; exact hct) (fun _ _ _ _ _ h => h.elim) (fun _ _ _ h => h.elim)
    refine ⟨_, _, S, pl', hr, R', ?_, AV.lt_ref (Nat.lt_succ_self _), trivial, fun n hn _ => (Grew.alloc w _ _).old n hn⟩
    have : (List.replicate n.toNat t.dflt).length = n.toNat := by simp
    rw [this] at r1
    exact r1
  · cases h


def castV (t t' : Ty) (v : t.den) : Option t'.den := if h : t = t' then some (h ▸ v) else none
@[simp] theorem castV_self (t : Ty) (v : t.den) : castV t t v = some v := by simp [castV]
theorem castV_eq {t t' : Ty} {v : t.den} {v' : t'.den} (h : castV t t' v = some v') : ∃ e : t = t', v' = e ▸ v := by
  unfold castV at h; split at h
  · rename_i e; cases h; exact ⟨e, rfl⟩
  · cases h

def datOf (t : Ty) : AV → Option t.den
  | .dat t' v => match t', v with
    | .raw, u => match t, u with
      | .list _ _, .slice none 0 0 => some []
      | .raw, .slice none 0 0 => some (.slice none 0 0)
      | _, _ => none
    | t', v => castV t' t v
  | _ => none

def datsOf (s : XS) (t : Ty) : Nat → List (Nat × Operand) → Option (List t.den)
  | _, [] => some []
  | n, (i, x) :: l => if i = n then opt2 (fun u m => (datOf t u).map (· :: m)) (s.ev x) (datsOf s t (n + 1) l) else none

end
end Fer

namespace Fer
open Go

def XS.took (s : XS) (q : Nat) (rt : RT) : XS := ((s.also q s.nxt).kill q).addRoot rt

def isNil : AV → Bool
  | .dat .raw (.slice none 0 0) => true
  | _ => false

def bsAV (tt : List (Nat × TE)) (s : XS) (T len : Nat) (parts : List (Nat × Operand)) : Option MF :=
  match lk tt T with
  | some (.slice e t _) =>
    if len = 0 then (if parts.length = 0 then some ⟨True, True, .ref s.nxt [], s.addRoot ⟨e, t, t.lev, [], none⟩, []⟩ else none)
    else if parts.length = len ∧ len * t.width ≤ 16777216 then
      match t, parts.map (fun x => (x.1, s.ev x.2)) with
      | .list e' t', [(0, some (.ref q []))] => match s.root q with
        | some qt => if qt.h = none ∧ qt.e = e' ∧ qt.t = t' then some ⟨True, True, .ref s.nxt [], s.took q ⟨e, qt.ty, qt.k + 1, [qt.x], none⟩, []⟩ else none
        | none => none
      | .list e' t', [(0, some (.dat .raw v))] => if isNil (.dat .raw v) = true then some ⟨True, True, .ref s.nxt [], s.addRoot ⟨e, .list e' t', (Ty.list e' t').lev, [[]], none⟩, []⟩ else none
      | .prod (.list e' t') (.int k'), [(0, some (.agg [.ref q [], .dat (.int k'') n]))] => match s.root q with
        | some qt => if qt.h = none ∧ qt.e = e' ∧ qt.t = t' ∧ k' = k'' then some ⟨True, True, .ref s.nxt [], s.took q ⟨e, .prod qt.ty (.int k''), qt.k + 1, [(qt.x, n)], none⟩, []⟩ else none
        | none => none
      | t, _ => match datsOf s t 0 parts with
        | some l => some ⟨True, True, .ref s.nxt [], s.addRoot ⟨e, t, 0, l, none⟩, []⟩
        | none => none
    else none
  | _ => none

section
variable {P : Program} {tt : List (Nat × TE)} {w0 : World} {S0 : Nat → Prop} {N : Nat} {dr : Bool} {pc : Pins} {s : XS} {a : Act} {w w' : World} {S : Nat → Prop} {pl : Nat → PL}

theorem datOf_ok {t : Ty} {av : AV} {rts : List (Nat × RT)} {v : Value} {x : t.den} (h : datOf t av = some x) (hv : AVR w S rts pl av v) : ∃ cs, v = pack t cs ∧ RO w S t x cs := by
  unfold datOf at h
  split at h
  · rename_i t' v' 
    split at h
    · rename_i u
      split at h
      · rename_i e t' _
        cases h
        obtain ⟨rfl, _⟩ := AVR.raw hv
        exact ⟨[.slice none 0 0], rfl, none, 0, rfl, Nat.le_refl _, Nat.zero_le _, fun h => absurd rfl h⟩
      · cases h
        obtain ⟨rfl, h1⟩ := AVR.raw hv
        exact ⟨[.slice none 0 0], rfl, rfl, h1⟩
      · cases h
    · obtain ⟨rfl, rfl⟩ := castV_eq h
      exact hv
  · cases h

theorem datsOf_ok (R : RelAt w0 S0 N dr pc s a w S pl) {t : Ty} : ∀ (parts : List (Nat × Operand)) (n : Nat) (l : List t.den), datsOf s t n parts = some l →
    ∃ vs : List Value, (parts.map fun x => (x.1, a.eval x.2)) = (vs.zipIdx n).map (fun x => (x.2, x.1)) ∧ vs.length = l.length ∧
      ∀ i v, vs[i]? = some v → v.cells.toList.length = t.width ∧ RO w S t (l.getD i t.dflt) v.cells.toList
  | [], n, l, h => by
    simp only [datsOf, Option.some.injEq] at h
    subst h
    exact ⟨[], rfl, rfl, by simp⟩
  | (i, x) :: parts, n, l, h => by
    simp only [datsOf] at h
    split at h
    · rename_i e
      subst e
      obtain ⟨u, m, h1, h2, h3⟩ := opt2_some h
      cases hd : datOf t u with
      | none => rw [hd] at h3; cases h3
      | some y =>
        rw [hd] at h3
        simp only [Option.map_some, Option.some.injEq] at h3
        subst h3
        obtain ⟨vs, e1, e2, e3⟩ := datsOf_ok R parts (i + 1) m h2
        obtain ⟨cs, hcs, hro⟩ := datOf_ok hd (R.ev h1).1
        have hc : (a.eval x).cells.toList = cs := by rw [hcs]; exact pack_cells hro.length hro.oneCell
        refine ⟨a.eval x :: vs, by simp [e1, List.zipIdx_cons], by simp [e2], fun j v hj => ?_⟩
        cases j with
        | zero =>
          simp only [List.getElem?_cons_zero, Option.some.injEq] at hj
          subst hj
          rw [hc]; exact ⟨hro.length, hro⟩
        | succ j =>
          simp only [List.getElem?_cons_succ] at hj
          exact e3 j v hj
    · cases h

theorem flat_chunk {vs : List Value} {n i : Nat} {v : Value} (hn : 0 < n) (h : ∀ v ∈ vs, v.cells.size = n) (hi : vs[i]? = some v) :
    cellsAt (vs.flatMap fun v => v.cells.toList).toArray (i * n) n = v.cells.toList := by
  have hvs : v.cells.size = n := h v (List.mem_of_getElem? hi)
  apply List.ext_getElem?
  intro j
  simp only [cellsAt, List.getElem?_take, List.getElem?_drop]
  by_cases hj : j < n
  · rw [if_pos hj, Great.flat_get hn vs h]
    have h1 : (i * n + j) / n = i := by rw [Nat.add_comm, Nat.add_mul_div_right _ _ hn, Nat.div_eq_of_lt hj]; simp
    have h2 : (i * n + j) % n = j := by rw [Nat.add_comm, Nat.add_mul_mod_self_right, Nat.mod_eq_of_lt hj]
    rw [h1, h2, hi]
    simp
  · rw [if_neg hj, List.getElem?_eq_none (by simpa [hvs] using hj)]

theorem flat_size {n : Nat} : ∀ {vs : List Value}, (∀ v ∈ vs, v.cells.size = n) → (vs.flatMap fun v => v.cells.toList).length = vs.length * n
  | [], _ => by simp
  | v :: vs, h => by
    have h1 : v.cells.toList.length = n := by simpa using h v (by simp)
    rw [List.flatMap_cons, List.length_append, flat_size fun u hu => h u (by simp [hu]), h1, List.length_cons, Nat.add_mul, Nat.one_mul, Nat.add_comm]

theorem run_bs {T e : Nat} {t : Ty} {b len : Nat} (hB : teB P T (.slice e t b) = true) (h0 : len ≠ 0) (hle : len * t.width ≤ 16777216) {parts : Array (Nat × Value)} {vs : List Value} (hp : parts.toList = (vs.zipIdx 0).map fun x => (x.2, x.1))
    (hl : vs.length = len) (hs : ∀ v ∈ vs, v.cells.size = t.width) :
    (Instr.buildSlice T len parts).run P w = .ok (.slice (some ⟨w.heap.size, 0, none⟩) len len) (w.alloc (.cells (vs.flatMap fun v => v.cells.toList).toArray e)) := by
  obtain ⟨hT, hinf, ⟨inf, hi, hsz, hby⟩, _, _⟩ := slice_te hB
  obtain ⟨inf', z, hi', hsz', hz, hzl, _⟩ := hinf.info
  rw [hi] at hi'; cases hi'
  have hpos := t.width_pos
  refine run_buildSlice w T e len parts _ inf z hT hi hz (by rw [hsz]; omega) (by rw [hsz]; exact Nat.mul_ne_zero h0 (by omega)) ?_
  rw [hp, hsz]
  exact Great.fill_whole hpos vs _ hs (by simp [hl])

theorem run_bs0 {T e : Nat} {t : Ty} {b : Nat} (hB : teB P T (.slice e t b) = true) :
    (Instr.buildSlice T 0 #[]).run P w = .ok (.slice (some ⟨w.heap.size, 0, none⟩) 0 0) (w.alloc (.cells #[] e)) := by
  obtain ⟨hT, hinf, ⟨inf, hi, hsz, hby⟩, _, _⟩ := slice_te hB
  have e0 : Array.map (fun x : Nat => (default : Value)) (Array.range 0) = #[] := by simp
  simp [Instr.buildSlice, run_underlying hT, Go.sizeOf, typeInfo, hi, Instr.fill, newRow, e0]

theorem RelAt.tookRow (R : RelAt w0 S0 N dr pc s a w S pl) {q : Nat} {qt : RT} (hq : s.root q = some qt) (hh : qt.h = none) {v : Value} (hv : AVR w S s.rts pl (.ref q []) v) (E : Nat) :
    ∃ pl', RelAt w0 S0 N dr pc (s.took q ⟨E, qt.ty, qt.k + 1, [qt.x], none⟩) a (w.alloc (.cells v.cells E)) S pl' ∧ v.cells.size = 1 ∧
      AVR (w.alloc (.cells v.cells E)) S (s.took q ⟨E, qt.ty, qt.k + 1, [qt.x], none⟩).rts pl' (.ref s.nxt []) (.slice (some ⟨w.heap.size, 0, none⟩) 1 1) ∧
      AVR (w.alloc (.cells v.cells E)) S (s.took q ⟨E, qt.ty, qt.k + 1, [qt.x], none⟩).rts pl' (.ptr s.nxt [0]) (.pointer (some ⟨w.heap.size, 0, none⟩)) := by
  obtain ⟨hv', H⟩ := R.own q qt hq
  rw [hh] at H
  have hvv : v = hv' := by
    have h1 : v = hdr (atCT [] qt.ty (pl q).ct) (qt.at []).len := hv qt hq
    rw [h1]; exact (H.hdr (by simp)).1.symm
  subst hvv
  have hk : ∀ r2 rt2, ((s.also q s.nxt).kill q).root r2 = some rt2 → r2 ≠ q ∧ s.root r2 = some rt2 := fun r2 rt2 h => lk_rm_some h
  have hslice : ∃ ad l c, v = .slice ad l c := by
    have := (H.hdr (by simp)).1
    rw [this]
    cases (pl q).ct <;> exact ⟨_, _, _, rfl⟩
  obtain ⟨ad, l, c, rfl⟩ := hslice
  obtain ⟨pl', R', r1, r2⟩ := ((R.also q s.nxt).kill q).newRow (E := E) (t := qt.ty) (k := qt.k + 1) (l := [qt.x]) (cells := (Value.slice ad l c).cells) (cap := 1) (kids := fun _ => (pl q).ct) (Fs := fun _ => (pl q).F)
    (by rfl) (Nat.le_refl 1) (by simp [maxLen]) (fun i hi => by
      have hi' : i = 0 := Nat.lt_one_iff.1 hi
      subst hi'
      exact H) (fun i j n hi hj _ _ => (Nat.lt_one_iff.1 hi).trans (Nat.lt_one_iff.1 hj).symm)
    (fun i n hi hn => ⟨(R.Flt q qt n hq hn).1, (R.Flt q qt n hq hn).2, fun r2 rt2 h2 h3 => (hk r2 rt2 h2).1 (R.disj r2 q rt2 qt n (hk r2 rt2 h2).2 hq h3 hn), fun hdd j hj => by
      obtain ⟨q1, h1, _, h3⟩ := R.pins hdd j n hj
      have := h3 q qt hq hn
      subst this
      exact mem_pinAlso_new h1⟩)
  exact ⟨pl', R', rfl, r1, r2⟩

theorem RelAt.tookStruct (R : RelAt w0 S0 N dr pc s a w S pl) {q : Nat} {qt : RT} (hq : s.root q = some qt) (hh : qt.h = none) {v : Value} {k' : IntKind} {n : Int} (hv : AVR w S s.rts pl (.agg [.ref q [], .dat (.int k') n]) v) (E : Nat) :
    ∃ pl', RelAt w0 S0 N dr pc (s.took q ⟨E, .prod qt.ty (.int k'), qt.k + 1, [(qt.x, n)], none⟩) a (w.alloc (.cells v.cells E)) S pl' ∧ v.cells.size = 2 ∧
      AVR (w.alloc (.cells v.cells E)) S (s.took q ⟨E, .prod qt.ty (.int k'), qt.k + 1, [(qt.x, n)], none⟩).rts pl' (.ref s.nxt []) (.slice (some ⟨w.heap.size, 0, none⟩) 1 1) := by
  obtain ⟨hv', H⟩ := R.own q qt hq
  rw [hh] at H
  obtain ⟨vs, hvs, hB⟩ := hv
  obtain ⟨v1, h1, b1⟩ := hB.get 0 _ rfl
  obtain ⟨v2, h2, b2⟩ := hB.get 1 _ rfl
  have hlen : vs.length = 2 := by
    cases hB with
    | cons _ t => cases t with
      | cons _ t => cases t; rfl
  have hvl : vs = [v1, v2] := by
    match vs, hlen with
    | [x, y], _ =>
      simp at h1 h2
      rw [h1, h2]
  subst hvl
  have hvv : v1 = hv' := by
    have h1 : v1 = hdr (atCT [] qt.ty (pl q).ct) (qt.at []).len := b1 qt hq
    rw [h1]; exact (H.hdr (by simp)).1.symm
  subst hvv
  have hslice : ∃ ad l c, v1 = .slice ad l c := by
    have := (H.hdr (by simp)).1
    rw [this]
    cases (pl q).ct <;> exact ⟨_, _, _, rfl⟩
  obtain ⟨ad, l, c, rfl⟩ := hslice
  obtain ⟨cs2, p2, hcs2⟩ := b2
  have hcs2 : cs2 = [.int k' n] := hcs2
  subst hcs2
  have p2 : v2 = .int k' n := p2
  subst p2
  have hcv : v.cells = #[.slice ad l c, .int k' n] := by rw [hvs]; rfl
  have hk : ∀ r2 rt2, ((s.also q s.nxt).kill q).root r2 = some rt2 → r2 ≠ q ∧ s.root r2 = some rt2 := fun r2 rt2 h => lk_rm_some h
  obtain ⟨pl', R', r1, _⟩ := ((R.also q s.nxt).kill q).newRow (E := E) (t := .prod qt.ty (.int k')) (k := qt.k + 1) (l := [(qt.x, n)]) (cells := v.cells) (cap := 1) (kids := fun _ => .pair (pl q).ct .leaf) (Fs := fun _ => (pl q).F)
    (by rw [hcv]; rfl) (Nat.le_refl 1) (by simp [maxLen]) (fun i hi => by
      have hi' : i = 0 := Nat.lt_one_iff.1 hi
      subst hi'
      rw [hcv]
      exact .inr ⟨by simp, [.slice ad l c], [.int k' n], (pl q).F, noF, rfl, fun n => ⟨fun h => .inl h, fun h => h.elim id fun h => h.elim⟩, fun _ _ h => h, H, fun _ h => h, .inr ⟨rfl, rfl⟩⟩) (fun i j n hi hj _ _ => (Nat.lt_one_iff.1 hi).trans (Nat.lt_one_iff.1 hj).symm)
    (fun i n hi hn => ⟨(R.Flt q qt n hq hn).1, (R.Flt q qt n hq hn).2, fun r2 rt2 h2 h3 => (hk r2 rt2 h2).1 (R.disj r2 q rt2 qt n (hk r2 rt2 h2).2 hq h3 hn), fun hdd j hj => by
      obtain ⟨q1, h1, _, h3⟩ := R.pins hdd j n hj
      have := h3 q qt hq hn
      subst this
      exact mem_pinAlso_new h1⟩)
  exact ⟨pl', R', by rw [hcv]; rfl, r1⟩

theorem bsAV_ok (htt : ttB P tt = true) (R : RelAt w0 S0 N dr pc s a w S pl) {T len : Nat} {parts : Array (Nat × Operand)} {mf : MF} (h : bsAV tt s T len parts.toList = some mf) :
    MFok w0 S0 N dr pc s a w pl mf ((Instr.buildSlice T len (parts.map fun (i, x) => (i, a.eval x))).run P w) := by
  have hmap : (parts.map fun (i, x) => (i, a.eval x)).toList = parts.toList.map fun x => (x.1, a.eval x.2) := by simp
  unfold bsAV at h
  split at h
  · rename_i e t b hte
    have hB := ttB_get htt hte
    split at h
    · rename_i h0
      subst h0
      split at h
      · rename_i hp
        cases h
        have hnil : (parts.map fun (i, x) => (i, a.eval x)) = #[] := by
          have : parts = #[] := Array.eq_empty_of_size_eq_zero hp
          subst this; simp
        obtain ⟨pl', R', r1, _⟩ := R.newRow (E := e) (t := t) (k := t.lev) (l := []) (cells := #[]) (cap := 0) (kids := fun _ => .leaf) (Fs := fun _ => noF) (by simp) (by simp) (by simp) (by simp) (by simp) (by simp)
        rw [hnil]
        exact ⟨_, _, S, pl', run_bs0 hB, R', r1, AV.lt_ref (Nat.lt_succ_self _), trivial, fun n hn _ => (Grew.alloc w _ _).old n hn⟩
      · cases h
    · rename_i h0
      split at h
      · rename_i hlen
        have gen : ∀ (vs : List Value) (l : List t.den) (k : Nat) (kids : Nat → CT), parts.toList.map (fun x => (x.1, a.eval x.2)) = (vs.zipIdx 0).map (fun x => (x.2, x.1)) → vs.length = l.length → (∀ v ∈ vs, v.cells.size = t.width) →
            (∀ i v, vs[i]? = some v → Own w S t k (l.getD i t.dflt) none (kids i) v.cells.toList noF) →
            MFok w0 S0 N dr pc s a w pl ⟨True, True, .ref s.nxt [], s.addRoot ⟨e, t, k, l, none⟩, []⟩ ((Instr.buildSlice T len (parts.map fun (i, x) => (i, a.eval x))).run P w) := by
          intro vs l k kids e1 e2 e4 e3
          have hvl : vs.length = len := by
            have := congrArg List.length e1
            simp only [List.length_map, List.length_zipIdx] at this
            rw [← this]; exact hlen.1
          have hr := run_bs (P := P) (w := w) hB h0 hlen.2 (parts := parts.map fun (i, x) => (i, a.eval x)) (vs := vs) (by rw [hmap, e1]) hvl e4
          have hlm : len ≤ maxLen := by
            have : len * 1 ≤ len * t.width := Nat.mul_le_mul_left _ t.width_pos
            simp only [maxLen]; omega
          obtain ⟨pl', R', r1, _⟩ := R.newRow (E := e) (t := t) (k := k) (l := l) (cells := (vs.flatMap fun v => v.cells.toList).toArray) (cap := len) (kids := kids) (Fs := fun _ => noF)
            (by rw [← hvl]; simpa using flat_size e4) (by omega) hlm
            (fun i hi => by
              have hi' : i < vs.length := by omega
              have hv : vs[i]? = some vs[i] := List.getElem?_eq_getElem hi'
              rw [flat_chunk t.width_pos e4 hv]
              exact e3 i _ hv) (fun _ _ _ _ _ h => h.elim) (fun _ _ _ h => h.elim)
          refine ⟨_, _, S, pl', hr, R', ?_, AV.lt_ref (Nat.lt_succ_self _), trivial, fun n hn _ => (Grew.alloc w _ _).old n hn⟩
          rw [← e2, hvl] at r1
          exact r1
        have gen0 : ∀ l : List t.den, datsOf s t 0 parts.toList = some l → MFok w0 S0 N dr pc s a w pl ⟨True, True, .ref s.nxt [], s.addRoot ⟨e, t, 0, l, none⟩, []⟩ ((Instr.buildSlice T len (parts.map fun (i, x) => (i, a.eval x))).run P w) := by
          intro l hl
          obtain ⟨vs, e1, e2, e3⟩ := datsOf_ok R parts.toList 0 l hl
          exact gen vs l 0 (fun _ => CT.of t) e1 e2 (fun v hv => by obtain ⟨i, hi⟩ := List.mem_iff_getElem?.1 hv; simpa using (e3 i v hi).1) fun i v hi => (e3 i v hi).2.own (.inr rfl)
        have one : ∀ (n : Nat) (u : AV), parts.toList.map (fun x => (x.1, s.ev x.2)) = [(n, some u)] → ∃ x, parts.toList = [(n, x)] ∧ s.ev x = some u := by
          intro n u hm
          cases hpp : parts.toList with
          | nil => rw [hpp] at hm; simp at hm
          | cons y rest =>
            obtain ⟨n', x⟩ := y
            rw [hpp] at hm
            simp only [List.map_cons, List.cons.injEq, Prod.mk.injEq, List.map_eq_nil_iff] at hm
            obtain ⟨⟨rfl, h2⟩, rfl⟩ := hm
            exact ⟨x, rfl, h2⟩
        split at h
        · rename_i e' t' q hm
          obtain ⟨x, hp, hx⟩ := one _ _ hm
          split at h
          · rename_i qt hq
            split at h
            · rename_i hc
              cases h
              obtain ⟨rfl, rfl⟩ := hc.2
              have hlen1 : len = 1 := by rw [← hlen.1, hp]; rfl
              subst hlen1
              obtain ⟨pl', R', hsz, r1, _⟩ := R.tookRow hq hc.1 (R.ev hx).1 e
              have hr := run_bs (P := P) (w := w) hB h0 hlen.2 (parts := parts.map fun (i, x) => (i, a.eval x)) (vs := [a.eval x]) (by rw [hmap, hp]; rfl) rfl (by simpa [Ty.width] using hsz)
              have hcells : (List.flatMap (fun v : Value => v.cells.toList) [a.eval x]).toArray = (a.eval x).cells := by simp
              rw [hcells] at hr
              exact ⟨_, _, S, pl', hr, R', r1, AV.lt_ref (Nat.lt_succ_self _), trivial, fun n hn _ => (Grew.alloc w _ _).old n hn⟩
            · cases h
          · cases h
        · rename_i e' t' v hm
          obtain ⟨x, hp, hx⟩ := one _ _ hm
          split at h
          · rename_i hnil
            cases h
            obtain ⟨hav, _⟩ := AVR.raw (R.ev hx).1
            have hv : v = .slice none 0 0 := by
              unfold isNil at hnil
              split at hnil
              · rename_i h; simp at h; exact h
              · cases hnil
            subst hv
            refine gen [a.eval x] [[]] _ (fun _ => .nil) (by rw [hp]; rfl) rfl (by rw [hav]; simp [Value.cells, Ty.width]) fun i v hi => ?_
            cases i with
            | zero =>
              simp only [List.getElem?_cons_zero, Option.some.injEq] at hi
              subst hi
              rw [hav]
              exact own_nil
            | succ i => simp at hi
          · cases h
        · rename_i e' t' k' q k'' n hm
          obtain ⟨x, hp, hx⟩ := one _ _ hm
          split at h
          · rename_i qt hq
            split at h
            · rename_i hc
              cases h
              obtain ⟨hc0, rfl, rfl, rfl⟩ := hc
              have hlen1 : len = 1 := by rw [← hlen.1, hp]; rfl
              subst hlen1
              obtain ⟨pl', R', hsz, r1⟩ := R.tookStruct hq hc0 (R.ev hx).1 e
              have hr := run_bs (P := P) (w := w) hB h0 hlen.2 (parts := parts.map fun (i, x) => (i, a.eval x)) (vs := [a.eval x]) (by rw [hmap, hp]; rfl) rfl (by simpa [Ty.width] using hsz)
              have hcells : (List.flatMap (fun v : Value => v.cells.toList) [a.eval x]).toArray = (a.eval x).cells := by simp
              rw [hcells] at hr
              exact ⟨_, _, S, pl', hr, R', r1, AV.lt_ref (Nat.lt_succ_self _), trivial, fun n hn _ => (Grew.alloc w _ _).old n hn⟩
            · cases h
          · cases h
        · split at h
          · rename_i l hl
            cases h
            exact gen0 l hl
          · cases h
      · cases h
  · cases h

end
end Fer

namespace Fer
open Go

def cpL {α : Type} (l : List α) (lo hi : Nat) (m : List α) : List α := l.take lo ++ m.take (min m.length (hi - lo)) ++ l.drop (lo + min m.length (hi - lo))

theorem cpL_length {α : Type} {l : List α} {lo hi : Nat} {m : List α} (h1 : lo ≤ hi) (h2 : hi ≤ l.length) : (cpL l lo hi m).length = l.length := by
  simp only [cpL, List.length_append, List.length_take, List.length_drop]; omega

section
variable {P : Program} {tt : List (Nat × TE)} {w0 : World} {S0 : Nat → Prop} {N : Nat} {dr : Bool} {pc : Pins} {s : XS} {a : Act} {w w' : World} {S : Nat → Prop} {pl : Nat → PL}

theorem at_num {e : Nat} {k : IntKind} {kk : Nat} {l l' : List Int} {h : Option (List Nat)} (hl : l'.length = l.length) (p : List Nat) :
    ((⟨e, .int k, kk, l', h⟩ : RT).at p).len = ((⟨e, .int k, kk, l, h⟩ : RT).at p).len ∧ ((⟨e, .int k, kk, l', h⟩ : RT).at p).ew = ((⟨e, .int k, kk, l, h⟩ : RT).at p).ew := by
  cases p with
  | nil => exact ⟨hl, rfl⟩
  | cons i p =>
    cases p with
    | nil => exact ⟨rfl, rfl⟩
    | cons j p => exact ⟨rfl, rfl⟩

theorem BVR.renum {r e : Nat} {k : IntKind} {kk : Nat} {l l' : List Int} {h : Option (List Nat)} (hr : lk s.rts r = some ⟨e, .int k, kk, l, h⟩) (hl : l'.length = l.length) (hS : ∀ b, S b → w'.heap[b]? = w.heap[b]?) {av : AV} {v : Value}
    (H : BVR w S s.rts pl av v) : BVR w' S ((r, ⟨e, .int k, kk, l', h⟩) :: rm s.rts r) pl av v := by
  have look : ∀ q rt, lk ((r, (⟨e, .int k, kk, l', h⟩ : RT)) :: rm s.rts r) q = some rt → (q = r ∧ rt = ⟨e, .int k, kk, l', h⟩) ∨ (q ≠ r ∧ lk s.rts q = some rt) := by
    intro q rt hq
    simp only [lk] at hq
    by_cases e1 : r = q
    · rw [if_pos e1] at hq; cases hq; exact .inl ⟨e1.symm, rfl⟩
    · rw [if_neg e1] at hq; exact .inr ⟨fun e2 => e1 e2.symm, (lk_rm_some hq).2⟩
  cases av with
  | dat t x => obtain ⟨cs, h1, h2⟩ := H; exact ⟨cs, h1, h2.frame fun b hb => ⟨hb, hS b hb⟩⟩
  | rptr t x =>
    obtain ⟨b, o, arr, E, fr, h1, h2, h3, h4, h5⟩ := H
    exact ⟨b, o, arr, E, fr, h1, h2, (hS b h2).trans h3, h4, h5.frame fun b hb => ⟨hb, hS b hb⟩⟩
  | rpl b t x =>
    obtain ⟨h1, arr, E, fr, h2, h3, h4, h5⟩ := H
    exact ⟨h1, arr, E, fr, h2, (hS b h2).trans h3, h4, h5.frame fun b hb => ⟨hb, hS b hb⟩⟩
  | ref q p =>
    intro rt hq
    rcases look q rt hq with ⟨rfl, rfl⟩ | ⟨hne, hq⟩
    · rw [(at_num hl p).1]; exact H _ hr
    · exact H rt hq
  | sub q p lo hi =>
    intro rt hq
    rcases look q rt hq with ⟨rfl, rfl⟩ | ⟨hne, hq⟩
    · rw [(at_num hl p).1, (at_num hl p).2]; exact H _ hr
    · exact H rt hq
  | ptr q p =>
    intro rt hq
    rcases look q rt hq with ⟨rfl, rfl⟩ | ⟨hne, hq⟩
    · have h1 := H _ hr
      exact h1
    · exact H rt hq
  | clo f caps =>
    obtain ⟨vs, h1, h2, h3⟩ := H
    refine ⟨vs, h1, h2, fun i c rt u hc hq hu => ?_⟩
    rcases look c rt hq with ⟨rfl, rfl⟩ | ⟨hne, hq⟩
    · have h4 := h3 i _ _ u hc hr hu
      exact h4
    · exact h3 i c rt u hc hq hu
  | one q =>
    intro rt hq
    rcases look q rt hq with ⟨rfl, rfl⟩ | ⟨hne, hq⟩
    · obtain ⟨b, h1⟩ := H _ hr
      exact ⟨b, by rw [(at_num hl []).1]; exact h1⟩
    · exact H rt hq
  | loc q b =>
    intro rt hq
    rcases look q rt hq with ⟨rfl, rfl⟩ | ⟨hne, hq⟩
    · have h1 := H _ hr
      exact h1
    · exact H rt hq
  | tup l => exact H.elim
  | agg l => exact H.elim
  | mp b f => exact H.elim
  | junk => trivial

theorem BVRs.renum {r e : Nat} {k : IntKind} {kk : Nat} {l l' : List Int} {h : Option (List Nat)} (hr : lk s.rts r = some ⟨e, .int k, kk, l, h⟩) (hl : l'.length = l.length) (hS : ∀ b, S b → w'.heap[b]? = w.heap[b]?) {avs : List AV} {vs : List Value}
    (H : BVRs w S s.rts pl avs vs) : BVRs w' S ((r, ⟨e, .int k, kk, l', h⟩) :: rm s.rts r) pl avs vs := by
  induction H with
  | nil => exact .nil
  | cons h1 _ ih => exact .cons (h1.renum hr hl hS) ih

theorem AVR.renum {r e : Nat} {k : IntKind} {kk : Nat} {l l' : List Int} {h : Option (List Nat)} (hr : lk s.rts r = some ⟨e, .int k, kk, l, h⟩) (hl : l'.length = l.length) (hS : ∀ b, S b → w'.heap[b]? = w.heap[b]?) {av : AV} {v : Value}
    (H : AVR w S s.rts pl av v) : AVR w' S ((r, ⟨e, .int k, kk, l', h⟩) :: rm s.rts r) pl av v := by
  cases av with
  | tup l => obtain ⟨vs, h1, h2⟩ := H; exact ⟨vs, h1, h2.renum hr hl hS⟩
  | agg l => obtain ⟨vs, h1, h2⟩ := H; exact ⟨vs, h1, h2.renum hr hl hS⟩
  | dat t x => exact BVR.renum (pl := pl) (av := .dat t x) hr hl hS H
  | rptr t x => exact BVR.renum (pl := pl) (av := .rptr t x) hr hl hS H
  | rpl b t x => exact BVR.renum (pl := pl) (av := .rpl b t x) hr hl hS H
  | ref q p => exact BVR.renum (pl := pl) (av := .ref q p) hr hl hS H
  | sub q p lo hi => exact BVR.renum (pl := pl) (av := .sub q p lo hi) hr hl hS H
  | ptr q p => exact BVR.renum (pl := pl) (av := .ptr q p) hr hl hS H
  | clo f c => exact BVR.renum (pl := pl) (av := .clo f c) hr hl hS H
  | one q => exact BVR.renum (pl := pl) (av := .one q) (v := v) hr hl hS H
  | loc q b => exact BVR.renum (pl := pl) (av := .loc q b) (v := v) hr hl hS H
  | mp b f =>
    obtain ⟨h1, h2, o, h3, h4⟩ := H
    exact ⟨h1, h2, o, (hS b h2).trans h3, h4⟩
  | junk => trivial

theorem RelAt.renum (R : RelAt w0 S0 N dr pc s a w S pl) {r e : Nat} {k : IntKind} {kk : Nat} {l l' : List Int} (hr : s.root r = some ⟨e, .int k, kk, l, none⟩) (hl : l'.length = l.length) {hv : Value}
    (H : Own w' S (.list e (.int k)) (kk + 1) l' none (pl r).ct [hv] (pl r).F) (hos : w'.os = w.os) (htape : w'.tape = w.tape) (hout : SameOut S0 w w') (hsz : w'.heap.size = w.heap.size) (hold : ∀ n, ¬ (pl r).F n → w'.heap[n]? = w.heap[n]?) :
    RelAt w0 S0 N dr pc (s.setRoot r ⟨e, .int k, kk, l', none⟩) a w' S pl := by
  have hS : ∀ b, S b → w'.heap[b]? = w.heap[b]? := fun b hb => hold b fun h => (R.Flt r _ b hr h).2 hb
  have look : ∀ q rt, (s.setRoot r (⟨e, .int k, kk, l', none⟩ : RT)).root q = some rt → (q = r ∧ rt = ⟨e, .int k, kk, l', none⟩) ∨ (q ≠ r ∧ s.root q = some rt) := by
    intro q rt hq
    simp only [XS.root, XS.setRoot, lk] at hq
    by_cases e1 : r = q
    · rw [if_pos e1] at hq; cases hq; exact .inl ⟨e1.symm, rfl⟩
    · rw [if_neg e1] at hq; exact .inr ⟨fun e2 => e1 e2.symm, (lk_rm_some hq).2⟩
  have any : ∀ q rt, (s.setRoot r (⟨e, .int k, kk, l', none⟩ : RT)).root q = some rt → ∃ rt2, s.root q = some rt2 := fun q rt hq => by
    rcases look q rt hq with ⟨rfl, _⟩ | ⟨_, h⟩
    · exact ⟨_, hr⟩
    · exact ⟨_, h⟩
  refine { defers := R.defers, size := R.size, os := hos.trans R.os, tape := htape.trans R.tape, output := hout.trans R.output, grow := by rw [hsz]; exact R.grow, stay := fun b hb => (hS b (R.base b hb)).trans (R.stay b hb), base := R.base, lt := fun b hb => by rw [hsz]; exact R.lt b hb, own := ?_, Flt := ?_, disj := ?_, ids := ?_, env := ?_, pins := ?_, news := R.news }
  · intro q rt hq
    rcases look q rt hq with ⟨rfl, rfl⟩ | ⟨hne, hq⟩
    · exact ⟨hv, H⟩
    · obtain ⟨hv2, H2⟩ := R.own q rt hq
      exact ⟨hv2, H2.frame (fun b hb => ⟨hb, hS b hb⟩) fun b hb => hold b fun h => hne (R.disj q r rt _ b hq hr hb h)⟩
  · intro q rt b hq hb
    obtain ⟨rt2, h2⟩ := any q rt hq
    rw [hsz]
    exact R.Flt q rt2 b h2 hb
  · intro q q' rt rt' b hq hq' hb hb'
    obtain ⟨rt2, h2⟩ := any q rt hq
    obtain ⟨rt3, h3⟩ := any q' rt' hq'
    exact R.disj q q' rt2 rt3 b h2 h3 hb hb'
  · intro q rt hq
    obtain ⟨rt2, h2⟩ := any q rt hq
    exact R.ids q rt2 h2
  · intro i av hi
    exact ⟨(R.env i av hi).1.renum hr hl hS, (R.env i av hi).2⟩
  · intro hd i b hp
    obtain ⟨q, h1, h2, h3⟩ := R.pins hd i b hp
    refine ⟨q, h1, by rw [hsz]; exact h2, fun r2 rt2 h4 h5 => ?_⟩
    obtain ⟨rt3, h6⟩ := any r2 rt2 h4
    exact h3 r2 rt3 h6 h5

def cpAV (tt : List (Nat × TE)) (s : XS) (T : Nat) (x y : Option AV) : Option MF :=
  match lk tt T, x, y with
  | some (.slice _ (.int k) _), some (.sub r [] lo hi), some y => match s.root r with
    | some rt => match srcAV s y with
      | some (p, el) => match castL rt.t (.int k) rt.x, castL el.t (.int k) el.l with
        | some l, some m => if rt.h = none then
            some ⟨p, lo ≤ hi ∧ hi ≤ List.length l, .dat (.int .i64) ((min (List.length m) (hi - lo) : Nat) : Int), s.setRoot r ⟨rt.e, .int k, rt.k, cpL l lo hi m, none⟩, [r]⟩ else none
        | _, _ => none
      | none => none
    | none => none
  | _, _, _ => none

theorem cellsAt_get {arr : Array Value} {o : Nat} {v : Value} (h : arr.toList[o]? = some v) : cellsAt arr o 1 = [v] := by
  obtain ⟨hlt, h⟩ := List.getElem?_eq_some_iff.1 h
  unfold cellsAt
  rw [List.drop_eq_getElem_cons hlt]
  simp [h]

theorem get_cellsAt {arr : Array Value} {o : Nat} {v : Value} (h : cellsAt arr o 1 = [v]) : arr.toList[o]? = some v := by
  unfold cellsAt at h
  by_cases hlt : o < arr.toList.length
  · rw [List.drop_eq_getElem_cons hlt] at h
    simp only [List.take_succ_cons, List.take_zero, List.cons.injEq, and_true] at h
    rw [List.getElem?_eq_getElem hlt, h]
  · rw [List.drop_eq_nil_of_le (by omega)] at h
    simp at h

theorem cpL_zero {α : Type} {l : List α} {lo hi : Nat} {m : List α} (h : min m.length (hi - lo) = 0) : cpL l lo hi m = l := by
  unfold cpL; rw [h]; simp

theorem cpL_getD {l : List Int} {lo hi : Nat} {m : List Int} (h1 : lo ≤ hi) (h2 : hi ≤ l.length) {i : Nat} : (cpL l lo hi m).getD i 0 = if lo ≤ i ∧ i < lo + min m.length (hi - lo) then m.getD (i - lo) 0 else l.getD i 0 := by
  have e1 : (l.take lo).length = lo := by rw [List.length_take]; omega
  have e2 : (m.take (min m.length (hi - lo))).length = min m.length (hi - lo) := by rw [List.length_take]; omega
  unfold cpL
  simp only [List.getD_eq_getElem?_getD]
  by_cases c1 : i < lo
  · rw [List.append_assoc, List.getElem?_append_left (by omega), List.getElem?_take, if_pos c1, if_neg (by omega)]
  · by_cases c2 : i < lo + min m.length (hi - lo)
    · rw [List.getElem?_append_left (by rw [List.length_append]; omega), List.getElem?_append_right (by omega), e1, List.getElem?_take, if_pos (by omega), if_pos (by omega)]
    · rw [List.getElem?_append_right (by rw [List.length_append]; omega), List.length_append, e1, e2, List.getElem?_drop, if_neg (by omega)]
      congr 2
      omega

theorem cpAV_ok (htt : ttB P tt = true) (R : RelAt w0 S0 N dr pc s a w S pl) {T T' ty : Nat} {x y : Option AV} {vx vy : Value} {mf : MF} (hx : ∀ u, x = some u → AVR w S s.rts pl u vx)
    (hy : ∀ u, y = some u → AVR w S s.rts pl u vy) (h : cpAV tt s T x y = some mf) (hpre : mf.pre) : MFok w0 S0 N dr pc s a w pl mf ((Builtin.copy_ #[T, T'] ty #[vx, vy]).run P w) := by
  unfold cpAV at h
  split at h
  · rename_i e k bb r lo hi y' hte
    obtain ⟨hT, _, ⟨inf, hi1, hsz, _⟩, _, _⟩ := slice_te (ttB_get htt hte)
    have hs1 : (P.info? e).map (·.size) = some 1 := by rw [hi1]; simp [hsz, Ty.width]
    split at h
    · rename_i rt hr
      split at h
      · rename_i p el hsrc
        split at h
        · rename_i l m hl hm
          split at h
          · rename_i hh
            cases h
            obtain ⟨e0, t0, kk, x0, h0⟩ := rt
            obtain ⟨el_e, el_t, el_l⟩ := el
            simp only at hl hm hh
            obtain ⟨rfl, rfl⟩ := castL_eq hl
            obtain ⟨rfl, rfl⟩ := castL_eq hm
            subst hh
            obtain ⟨b1, b2, b3⟩ := hx _ rfl _ hr
            have b2 : hi ≤ List.length l := b2
            have hsr := srcAV_ok R (hy _ rfl) hsrc hpre
            obtain ⟨ad, c, rfl, had, hml, hnews⟩ := hsr
            obtain ⟨hv, H⟩ := R.own r _ hr
            have hcl : (cpL l lo hi m).length = l.length := cpL_length b1 b2
            simp only at *
            have same : min (List.length m) (hi - lo) = 0 → MFok w0 S0 N dr pc s a w pl ⟨p, lo ≤ hi ∧ hi ≤ List.length l, .dat (.int .i64) ((min (List.length m) (hi - lo) : Nat) : Int), s.setRoot r ⟨e0, .int k, kk, cpL l lo hi m, none⟩, [r]⟩ (.ok (goInt 0) w) := fun hn => by
              refine ⟨_, w, S, pl, rfl, ?_, ?_, AV.lt_dat, ⟨b1, b2⟩, fun _ _ _ => rfl⟩
              · rw [cpL_zero hn]
                exact R.renum hr rfl H rfl rfl (SameOut.refl w) rfl fun _ _ => rfl
              · rw [hn]; exact AVR.mkInt _ _ _
            rcases own_inv H with ⟨hct, hl0, _, _⟩ | ⟨b, cap, kids, arr, Fs, hct, hv1, q2, q3, h4, h5, g1, g2, g3, g4⟩
            · have hct : (pl r).ct = .nil := hct
              have b3 : vx = .slice none 0 0 := by
                have := b3
                simp only [RT.at, getS, atCT, hct, subR] at this
                exact this
              subst b3
              have hl1 : List.length l = 0 := by rw [hl0]; rfl
              have hn : min (List.length m) (hi - lo) = 0 := by omega
              rw [run_copy_none w T T' ty e none ad 0 0 m.length c hT hs1 (Nat.min_zero _)]
              exact same hn
            · have hct : (pl r).ct = .node b cap kids := hct
              have b3 : ∃ ad, vx = .slice ad (hi - lo) (cap - lo) ∧ (lo < cap ∨ lo = 0 → ad = some ⟨b, lo * 1, none⟩) := by
                have := b3
                simp only [RT.at, getS, atCT, hct, subR] at this
                exact this
              obtain ⟨adx, rfl, hadx⟩ := b3
              by_cases hn : min (List.length m) (hi - lo) = 0
              · rw [run_copy_none w T T' ty e adx ad (hi - lo) (cap - lo) m.length c hT hs1 hn]
                exact same hn
              · have hlo : lo < cap := by omega
                rw [hadx (.inl hlo)]
                have hane : ad ≠ none := fun he => by have := had he; rw [this] at hn; simp at hn
                obtain ⟨ad', rfl⟩ := Option.ne_none_iff_exists'.1 hane
                obtain ⟨news, n1, n2, n3⟩ := hnews ad' rfl
                simp only [Ty.width, Nat.mul_one] at n1 n3 h5 g4
                have hn4 : ∀ j, j < m.length → news[j]? = some (.int k (m.getD j 0)) := fun j hj => by
                  have := n3 j hj
                  simp only [RO] at this
                  have h9 := get_cellsAt this
                  exact h9
                have ha4 : ∀ j, j < l.length → arr.toList[j]? = some (.int k (l.getD j 0)) := fun j hj => by
                  rcases (g4 j hj).2 with ⟨hc, _⟩ | ⟨_, hc⟩
                  · cases hc
                  · simp only [RO] at hc
                    exact get_cellsAt hc
                have hcs : (news.take (min m.length (hi - lo))).length = Nat.min m.length (hi - lo) := by rw [List.length_take, n1]; show min (min _ _) _ = min _ _; omega
                have hrun := run_copy_row (P := P) w T T' ty e b (lo * 1) (hi - lo) (cap - lo) ad' m.length c arr e0 (news.take (min m.length (hi - lo))) hT hs1 h4 hcs
                  (fun j v hj => n2 j v (by rw [List.getElem?_take] at hj; split at hj; exact hj; cases hj)) (by rw [hcs, h5]; show lo * 1 + min _ _ ≤ _; omega)
                  (fun v hv => by
                    have hv := List.mem_of_mem_take hv
                    obtain ⟨j, hj, rfl⟩ := List.getElem_of_mem hv
                    have := hn4 j (by omega)
                    rw [List.getElem?_eq_getElem hj] at this
                    rw [Option.some.inj this]; rfl)
                rw [hrun]
                have hcs' : (news.take (min m.length (hi - lo))).length = min m.length (hi - lo) := hcs
                have hA : ∀ j, j < l.length → (arr.toList.take (lo * 1) ++ news.take (min m.length (hi - lo)) ++ arr.toList.drop (lo * 1 + (news.take (min m.length (hi - lo))).length))[j]? = some (.int k ((cpL l lo hi m).getD j 0)) := by
                  intro j hj
                  have hal : arr.toList.length = cap := by rw [Array.length_toList]; exact h5
                  have e1 : (arr.toList.take (lo * 1)).length = lo := by rw [List.length_take]; omega
                  rw [cpL_getD b1 b2, hcs']
                  by_cases c1 : j < lo
                  · rw [List.append_assoc, List.getElem?_append_left (by omega), List.getElem?_take, if_pos (by omega), if_neg (by omega)]
                    exact ha4 j hj
                  · by_cases c2 : j < lo + min m.length (hi - lo)
                    · rw [List.getElem?_append_left (by rw [List.length_append]; omega), List.getElem?_append_right (by omega), e1, List.getElem?_take, if_pos (by omega), if_pos (by omega)]
                      exact hn4 _ (by omega)
                    · rw [List.getElem?_append_right (by rw [List.length_append]; omega), List.length_append, e1, hcs', List.getElem?_drop, if_neg (by omega), show lo * 1 + min m.length (hi - lo) + (j - (lo + min m.length (hi - lo))) = j by omega]
                      exact ha4 j hj
                have hbF : (pl r).F b := (g1 b).2 (.inl rfl)
                refine ⟨_, _, S, pl, rfl, R.renum hr hcl (hv := hv) ?_ rfl rfl (sameOut_setRow h4) (setRow_size _ _ _) (fun n hn => setRow_other w b n _ fun e => hn (e ▸ hbF)), ?_, AV.lt_dat, ⟨b1, b2⟩, fun n _ hn => setRow_other w b n _ fun e => hn r _ (by simp) hr (e ▸ hbF)⟩
                · have hv1' : hv = .slice (some ⟨b, 0, none⟩) l.length cap := by simpa using hv1
                  rw [hct, hv1']
                  refine .inr ⟨by simp, by rw [hcl], by rw [hcl]; exact q2, q3, _, setRow_heap w b arr _ e0 (0, 0) h4, ?_, Fs, fun n => by rw [hcl]; exact g1 n, fun i hi => g2 i (by rw [← hcl]; exact hi), fun i j n hi hj => g3 i j n (by rw [← hcl]; exact hi) (by rw [← hcl]; exact hj), fun i hi => ⟨(g4 i (by rw [← hcl]; exact hi)).1, .inr ⟨rfl, ?_⟩⟩⟩
                  · simp only [List.size_toArray, List.length_append, List.length_take, List.length_drop, Array.length_toList, Ty.width, Nat.mul_one, n1, h5]
                    omega
                  · simp only [RO, Ty.width, Nat.mul_one]
                    refine cellsAt_get ?_
                    have h9 := hA i (by rw [← hcl]; exact hi)
                    rw [Nat.mul_one] at h9
                    rw [List.toList_toArray]
                    exact h9
                · have : goInt (news.take (min m.length (hi - lo))).length = .int .i64 ((min m.length (hi - lo) : Nat) : Int) := by rw [hcs']; rfl
                  rw [this]
                  exact AVR.mkInt _ _ _
          · cases h
        · cases h
      · cases h
    · cases h
  · cases h

def clAV (tt : List (Nat × TE)) (s : XS) (T : Nat) (x : Option AV) : Option MF :=
  match lk tt T, x with
  | some (.slice _ (.int k) _), some (.sub r [] lo hi) => match s.root r with
    | some rt => match castL rt.t (.int k) rt.x with
      | some l => if rt.h = none then
          some ⟨True, lo ≤ hi ∧ hi ≤ List.length l, .tup [], s.setRoot r ⟨rt.e, .int k, rt.k, cpL l lo hi (List.replicate (hi - lo) 0), none⟩, [r]⟩ else none
      | none => none
    | none => none
  | _, _ => none

theorem clAV_ok (htt : ttB P tt = true) (R : RelAt w0 S0 N dr pc s a w S pl) {T ty : Nat} {x : Option AV} {vx : Value} {mf : MF} (hx : ∀ u, x = some u → AVR w S s.rts pl u vx)
    (h : clAV tt s T x = some mf) : MFok w0 S0 N dr pc s a w pl mf ((Builtin.clear_ #[T] ty #[vx]).run P w) := by
  unfold clAV at h
  split at h
  · rename_i e k bb r lo hi hte
    have hB := ttB_get htt hte
    obtain ⟨hT, _, ⟨inf, hi1, hsz, _⟩, _, _⟩ := slice_te hB
    simp only [teB, Bool.and_eq_true] at hB
    obtain ⟨inf', z, hi', _, hz, hzl, hzb⟩ := infoB_z hB.1.1.1.1
    rw [hi1] at hi'; cases hi'
    have hzc : z.cells.toList = [.int k 0] := by
      generalize z.cells.toList = zc at hzb
      unfold zeroB at hzb
      split at hzb <;> first | (simp_all; done) | skip
      all_goals simp at *
    have hzv : ∀ w : World, (zeroValue e).run P w = .ok z w := fun w => by simp [zeroValue, typeInfo, hi1, hz]
    split at h
    · rename_i rt hr
      split at h
      · rename_i l hl
        split at h
        · rename_i hh
          cases h
          obtain ⟨e0, t0, kk, x0, h0⟩ := rt
          simp only at hl hh
          obtain ⟨rfl, rfl⟩ := castL_eq hl
          subst hh
          obtain ⟨b1, b2, b3⟩ := hx _ rfl _ hr
          have b2 : hi ≤ List.length l := b2
          obtain ⟨hv, H⟩ := R.own r _ hr
          have hml : (List.replicate (hi - lo) (0 : Int)).length = hi - lo := List.length_replicate
          have hcl : (cpL l lo hi (List.replicate (hi - lo) (0 : Int))).length = l.length := cpL_length b1 b2
          simp only at *
          have same : hi - lo = 0 → MFok w0 S0 N dr pc s a w pl ⟨True, lo ≤ hi ∧ hi ≤ List.length l, .tup [], s.setRoot r ⟨e0, .int k, kk, cpL l lo hi (List.replicate (hi - lo) (0 : Int)), none⟩, [r]⟩ (.ok (.tuple #[]) w) := fun hn => by
            refine ⟨_, w, S, pl, rfl, ?_, ⟨[], rfl, .nil⟩, fun r hr => by simp [AV.ids] at hr, ⟨b1, b2⟩, fun _ _ _ => rfl⟩
            rw [cpL_zero (by rw [hml, hn]; rfl)]
            exact R.renum hr rfl H rfl rfl (SameOut.refl w) rfl fun _ _ => rfl
          rcases own_inv H with ⟨hct, hl0, _, _⟩ | ⟨b, cap, kids, arr, Fs, hct, hv1, q2, q3, h4, h5, g1, g2, g3, g4⟩
          · have hct : (pl r).ct = .nil := hct
            have b3 : vx = .slice none 0 0 := by
              have := b3
              simp only [RT.at, getS, atCT, hct, subR] at this
              exact this
            subst b3
            have hl1 : List.length l = 0 := by rw [hl0]; rfl
            have : (Builtin.clear_ #[T] ty #[.slice none 0 0]).run P w = .ok (.tuple #[]) w := by simp [Builtin.clear_, run_underlying hT]
            rw [this]
            exact same (by omega)
          · have hct : (pl r).ct = .node b cap kids := hct
            have b3 : ∃ ad, vx = .slice ad (hi - lo) (cap - lo) ∧ (lo < cap ∨ lo = 0 → ad = some ⟨b, lo * 1, none⟩) := by
              have := b3
              simp only [RT.at, getS, atCT, hct, subR] at this
              exact this
            obtain ⟨adx, rfl, hadx⟩ := b3
            by_cases hn : hi - lo = 0
            · have : (Builtin.clear_ #[T] ty #[.slice adx (hi - lo) (cap - lo)]).run P w = .ok (.tuple #[]) w := by
                rw [hn]
                cases adx <;> simp [Builtin.clear_, run_underlying hT]
              rw [this]
              exact same hn
            · have hlo : lo < cap := by omega
              rw [hadx (.inl hlo)]
              simp only [Ty.width, Nat.mul_one] at h5 g4
              have ha4 : ∀ j, j < l.length → arr.toList[j]? = some (.int k (l.getD j 0)) := fun j hj => by
                rcases (g4 j hj).2 with ⟨hc, _⟩ | ⟨_, hc⟩
                · cases hc
                · simp only [RO] at hc
                  exact get_cellsAt hc
              obtain ⟨news, hnews⟩ : ∃ news : List Value, news = List.replicate (hi - lo) (.int k 0) := ⟨_, rfl⟩
              have hnl : news.length = hi - lo := by rw [hnews, List.length_replicate]
              have hn4 : ∀ j, j < hi - lo → news[j]? = some (.int k 0) := fun j hj => by rw [hnews, List.getElem?_replicate, if_pos hj]
              have hzn : (Builtin.zeroCells z.cells (hi - lo)).toList = news := by
                have hz1 : z.cells = #[.int k 0] := by rw [← Array.toArray_toList (xs := z.cells), hzc]
                rw [hz1, hnews]
                simp [Builtin.zeroCells]
                apply List.ext_getElem
                · simp
                · intro i h1 h2
                  simp [Nat.mod_one]
              have hst := run_storeCells_at P b (lo * 1) e0 news 0 arr w h4 (by rw [hnl, h5]; omega) (fun v hv => by
                rw [hnews] at hv
                rw [List.eq_of_mem_replicate hv]; rfl)
              have hrun : (Builtin.clear_ #[T] ty #[.slice (some ⟨b, lo * 1, none⟩) (hi - lo) (cap - lo)]).run P w = .ok (.tuple #[]) (w.setRow b (arr.toList.take (lo * 1) ++ news ++ arr.toList.drop (lo * 1 + news.length)).toArray) := by
                obtain ⟨m, hm⟩ : ∃ m, hi - lo = m + 1 := ⟨hi - lo - 1, by omega⟩
                rw [hm] at hzn ⊢
                simp only [Nat.add_zero, Nat.mul_one] at hst
                simp only [Nat.mul_one]
                simp [Builtin.clear_, run_underlying hT, hzv, hzn, hst]
              rw [hrun]
              have hA : ∀ j, j < l.length → (arr.toList.take (lo * 1) ++ news ++ arr.toList.drop (lo * 1 + news.length))[j]? = some (.int k ((cpL l lo hi (List.replicate (hi - lo) (0 : Int))).getD j 0)) := by
                intro j hj
                have hal : arr.toList.length = cap := by rw [Array.length_toList]; exact h5
                have e1 : (arr.toList.take (lo * 1)).length = lo := by rw [List.length_take]; omega
                rw [cpL_getD b1 b2, hml, Nat.min_self]
                by_cases c1 : j < lo
                · rw [List.append_assoc, List.getElem?_append_left (by omega), List.getElem?_take, if_pos (by omega), if_neg (by omega)]
                  exact ha4 j hj
                · by_cases c2 : j < lo + (hi - lo)
                  · rw [List.getElem?_append_left (by rw [List.length_append]; omega), List.getElem?_append_right (by omega), e1, if_pos (by omega), hn4 _ (by omega)]
                    rw [List.getD_eq_getElem?_getD, List.getElem?_replicate, if_pos (by omega)]
                    rfl
                  · rw [List.getElem?_append_right (by rw [List.length_append]; omega), List.length_append, e1, hnl, List.getElem?_drop, if_neg (by omega), show lo * 1 + (hi - lo) + (j - (lo + (hi - lo))) = j by omega]
                    exact ha4 j hj
              have hbF : (pl r).F b := (g1 b).2 (.inl rfl)
              refine ⟨_, _, S, pl, rfl, R.renum hr hcl (hv := hv) ?_ rfl rfl (sameOut_setRow h4) (setRow_size _ _ _) (fun n hn => setRow_other w b n _ fun e => hn (e ▸ hbF)), ⟨[], rfl, .nil⟩, fun r hr => by simp [AV.ids] at hr, ⟨b1, b2⟩, fun n _ hn => setRow_other w b n _ fun e => hn r _ (by simp) hr (e ▸ hbF)⟩
              have hv1' : hv = .slice (some ⟨b, 0, none⟩) l.length cap := by simpa using hv1
              rw [hct, hv1']
              refine .inr ⟨by simp, by rw [hcl], by rw [hcl]; exact q2, q3, _, setRow_heap w b arr _ e0 (0, 0) h4, ?_, Fs, fun n => by rw [hcl]; exact g1 n, fun i hi => g2 i (by rw [← hcl]; exact hi), fun i j n hi hj => g3 i j n (by rw [← hcl]; exact hi) (by rw [← hcl]; exact hj), fun i hi => ⟨(g4 i (by rw [← hcl]; exact hi)).1, .inr ⟨rfl, ?_⟩⟩⟩
              · simp only [List.size_toArray, List.length_append, List.length_take, List.length_drop, Array.length_toList, Ty.width, Nat.mul_one, hnl, h5]
                omega
              · simp only [RO, Ty.width, Nat.mul_one]
                refine cellsAt_get ?_
                have h9 := hA i (by rw [← hcl]; exact hi)
                rw [Nat.mul_one] at h9
                rw [List.toList_toArray]
                exact h9
        · cases h
      · cases h
    · cases h
  · cases h

end
end Fer
