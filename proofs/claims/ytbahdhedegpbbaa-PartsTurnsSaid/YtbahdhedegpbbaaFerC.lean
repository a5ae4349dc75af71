/- The abstract state (what slots hold, which trees are owned) and its relation to the machine's. Over any program. -/
import Derived.Test.YtbahdhedegpbbaaFerB
import Derived.Test.YtbahdhedegpbbaaFerD
namespace Fer
open Go

inductive AV where
  | dat (t : Ty) (x : t.den)
  | ref (r : Nat) (p : List Nat)
  | sub (r : Nat) (p : List Nat) (lo hi : Nat)
  | ptr (r : Nat) (p : List Nat)
  | rptr (t : Ty) (x : t.den)
  | clo (f : Nat) (caps : List Nat)
  | tup (l : List AV)
  | agg (l : List AV)
  | junk

structure RT where
  e : Nat
  t : Ty
  k : Nat
  x : List t.den
  h : Option (List Nat)

structure XS where
  env : List (Nat × AV)
  rts : List (Nat × RT)
  nxt : Nat
  pins : List (Nat × Option Nat)

/-- Look-up; removal. -/
def lk {α : Type} : List (Nat × α) → Nat → Option α
  | [], _ => none
  | (i, x) :: l, j => if i = j then some x else lk l j

def rm {α : Type} : List (Nat × α) → Nat → List (Nat × α)
  | [], _ => []
  | (i, x) :: l, j => if i = j then rm l j else (i, x) :: rm l j

theorem lk_rm_same {α : Type} (j : Nat) : ∀ l : List (Nat × α), lk (rm l j) j = none
  | [] => rfl
  | (i, x) :: l => by
    simp only [rm]; split
    · exact lk_rm_same j l
    · rename_i h; simp [lk, h, lk_rm_same j l]

theorem lk_rm_ne {α : Type} {j k : Nat} (h : k ≠ j) : ∀ l : List (Nat × α), lk (rm l j) k = lk l k
  | [] => rfl
  | (i, x) :: l => by
    simp only [rm, lk]; split
    · rename_i hi; subst hi; rw [if_neg (fun e => h e.symm)]; exact lk_rm_ne h l
    · simp only [lk, lk_rm_ne h l]

theorem lk_rm_some {α : Type} {j k : Nat} {l : List (Nat × α)} {x : α} (h : lk (rm l j) k = some x) : k ≠ j ∧ lk l k = some x := by
  by_cases hk : k = j
  · subst hk; rw [lk_rm_same] at h; cases h
  · exact ⟨hk, by rwa [lk_rm_ne hk] at h⟩

def XS.get (s : XS) (i : Nat) : Option AV := lk s.env i
def XS.put (s : XS) (d : Option Nat) (av : AV) : XS := match d with | some i => { s with env := (i, av) :: s.env } | none => s
def XS.root (s : XS) (r : Nat) : Option RT := lk s.rts r

structure PL where
  ct : CT
  F : Nat → Prop

def hdr : CT → Nat → Value
  | .node b cap _, len => .slice (some ⟨b, 0, none⟩) len cap
  | _, _ => .slice none 0 0

/-- A part of a slice. (Of an empty part at the very end the address is left open.) -/
def subR (c : CT) (w lo hi : Nat) (v : Value) : Prop :=
  match c with
  | .node b cap _ => ∃ ad, v = .slice ad (hi - lo) (cap - lo) ∧ (lo < cap ∨ lo = 0 → ad = some ⟨b, lo * w, none⟩)
  | _ => v = .slice none 0 0

def pack : Ty → List Value → Value
  | .prod _ _, cs => .agg cs.toArray
  | _, cs => cs.headD undef

@[reducible] def RT.ty (rt : RT) : Ty := .list rt.e rt.t
def RT.at (rt : RT) (p : List Nat) : TV := getS p rt.ty rt.x

def TV.len (v : TV) : Nat := match v with | ⟨.list _ _, l⟩ => List.length l | _ => 0
def TV.ew (v : TV) : Nat := match v.t with | .list _ t => t.width | _ => 0

def addrP (pl : PL) (rt : RT) (p : List Nat) : Value := .pointer (some ⟨(addrOf p rt.ty pl.ct (0, 0)).1, (addrOf p rt.ty pl.ct (0, 0)).2, none⟩)

/-- What a slot's plain value is. -/
def BVR (w : World) (S : Nat → Prop) (rts : List (Nat × RT)) (pl : Nat → PL) : AV → Value → Prop
  | .dat t x, v => ∃ cs, v = pack t cs ∧ RO w S t x cs
  | .ref r p, v => ∀ rt, lk rts r = some rt → v = hdr (atCT p rt.ty (pl r).ct) (rt.at p).len
  | .sub r p lo hi, v => ∀ rt, lk rts r = some rt → lo ≤ hi ∧ hi ≤ (rt.at p).len ∧ subR (atCT p rt.ty (pl r).ct) (rt.at p).ew lo hi v
  | .ptr r p, v => ∀ rt, lk rts r = some rt → v = addrP (pl r) rt p
  | .rptr t x, v => ∃ b o arr E fr, v = .pointer (some ⟨b, o, none⟩) ∧ S b ∧ w.heap[b]? = some (.cells arr E fr) ∧ o + t.width ≤ arr.size ∧ RO w S t x (cellsAt arr o t.width)
  | .clo f caps, v => ∃ vs : List Value, v = .func (.func f) #[] vs.toArray ∧ vs.length = caps.length ∧
      ∀ (i c : Nat) (rt : RT) (u : Value), caps[i]? = some c → lk rts c = some rt → vs[i]? = some u → u = addrP (pl c) rt [0]
  | .junk, _ => True
  | _, _ => False

inductive BVRs (w : World) (S : Nat → Prop) (rts : List (Nat × RT)) (pl : Nat → PL) : List AV → List Value → Prop
  | nil : BVRs w S rts pl [] []
  | cons {a v l vs} (h : BVR w S rts pl a v) (t : BVRs w S rts pl l vs) : BVRs w S rts pl (a :: l) (v :: vs)

def AVR (w : World) (S : Nat → Prop) (rts : List (Nat × RT)) (pl : Nat → PL) : AV → Value → Prop
  | .tup l, v => ∃ vs, v = .tuple vs.toArray ∧ BVRs w S rts pl l vs
  | .agg l, v => ∃ vs : List Value, v = .agg (vs.flatMap fun u => u.cells.toList).toArray ∧ BVRs w S rts pl l vs
  | av, v => BVR w S rts pl av v

/-- The roots that a plain value names. -/
def AV.ids : AV → List Nat
  | .ref r _ => [r] | .sub r _ _ _ => [r] | .ptr r _ => [r] | .clo _ c => c
  | _ => []
def AV.lt (n : Nat) : AV → Prop
  | .tup l => ∀ a ∈ l, ∀ r ∈ a.ids, r < n
  | .agg l => ∀ a ∈ l, ∀ r ∈ a.ids, r < n
  | a => ∀ r ∈ a.ids, r < n

/-- What is written out, and what is frozen, has not turned. -/
structure SameOut (w w' : World) : Prop where
  out : w'.output = w.output
  fz : ∀ a, w'.frozen? a = w.frozen? a

theorem SameOut.refl (w : World) : SameOut w w := ⟨rfl, fun _ => rfl⟩
theorem SameOut.trans {a b c : World} (k : SameOut b c) (h : SameOut a b) : SameOut a c := ⟨k.out.trans h.out, fun x => (k.fz x).trans (h.fz x)⟩

structure RelAt (w0 : World) (S0 : Nat → Prop) (N : Nat) (dr : Bool) (pc : Pins) (s : XS) (a : Act) (w : World) (S : Nat → Prop) (pl : Nat → PL) : Prop where
  defers : a.defers = []
  size : a.tmps.size = N
  os : w.os = w0.os
  tape : w.tape = w0.tape
  output : SameOut w0 w
  grow : w0.heap.size ≤ w.heap.size
  stay : ∀ b, S0 b → w.heap[b]? = w0.heap[b]?
  base : ∀ b, S0 b → S b
  lt : ∀ b, S b → b < w.heap.size
  own : ∀ r rt, s.root r = some rt → ∃ hv, Own w S rt.ty (rt.k + 1) rt.x rt.h (pl r).ct [hv] (pl r).F
  Flt : ∀ r rt b, s.root r = some rt → (pl r).F b → b < w.heap.size ∧ ¬ S b
  disj : ∀ r r' rt rt' b, s.root r = some rt → s.root r' = some rt' → (pl r).F b → (pl r').F b → r = r'
  ids : ∀ r rt, s.root r = some rt → r < s.nxt
  env : ∀ i av, s.get i = some av → AVR w S s.rts pl av (a.tmps.getD i undef) ∧ av.lt s.nxt
  pins : dr = true → ∀ i b, pc i b → ∃ q, (i, q) ∈ s.pins ∧ b < w.heap.size ∧ ∀ r rt, s.root r = some rt → (pl r).F b → q = some r

def Rel (w0 : World) (S0 : Nat → Prop) (N : Nat) (dr : Bool) (pc : Pins) (s : XS) (a : Act) (w : World) : Prop :=
  ∃ S pl, RelAt w0 S0 N dr pc s a w S pl

theorem Own.hdr {w : World} {S : Nat → Prop} {e : Nat} {t : Ty} {k : Nat} {x : List t.den} {h : Option (List Nat)} {ct : CT} {v : Value} {F : Nat → Prop}
    (H : Own w S (.list e t) (k + 1) x h ct [v] F) (hh : h ≠ some []) : v = Fer.hdr ct x.length ∧ x.length ≤ maxLen := by
  rcases H with H | ⟨_, H⟩
  · exact absurd H.1 hh
  · cases ct with
    | nil => obtain ⟨rfl, h2, _⟩ := H; simp at h2; exact ⟨h2, Nat.zero_le _⟩
    | node b cap kids => obtain ⟨h1, h2, h3, _⟩ := H; simp at h1; exact ⟨h1, Nat.le_trans h2 h3⟩
    | leaf => exact H.elim
    | pair => exact H.elim

/-! ### Values that stay what they are -/

theorem BVR.frame {w w' : World} {S S' : Nat → Prop} {rts rts' : List (Nat × RT)} {pl pl' : Nat → PL} (hS : ∀ b, S b → S' b ∧ w'.heap[b]? = w.heap[b]?)
    {n : Nat} (hr : ∀ r, r < n → lk rts' r = none ∨ (lk rts' r = lk rts r ∧ pl' r = pl r)) {av : AV} {v : Value} (hn : ∀ r ∈ av.ids, r < n) (h : BVR w S rts pl av v) : BVR w' S' rts' pl' av v := by
  cases av with
  | dat t x => obtain ⟨cs, h1, h2⟩ := h; exact ⟨cs, h1, h2.frame hS⟩
  | rptr t x =>
    obtain ⟨b, o, arr, E, fr, h1, h2, h3, h4, h5⟩ := h
    exact ⟨b, o, arr, E, fr, h1, (hS b h2).1, ((hS b h2).2).trans h3, h4, h5.frame hS⟩
  | ref r p =>
    intro rt hrt
    rcases hr r (hn r (by simp [AV.ids])) with e | ⟨e1, e2⟩
    · rw [e] at hrt; cases hrt
    · rw [e2]; exact h rt (e1 ▸ hrt)
  | sub r p lo hi =>
    intro rt hrt
    rcases hr r (hn r (by simp [AV.ids])) with e | ⟨e1, e2⟩
    · rw [e] at hrt; cases hrt
    · rw [e2]; exact h rt (e1 ▸ hrt)
  | ptr r p =>
    intro rt hrt
    rcases hr r (hn r (by simp [AV.ids])) with e | ⟨e1, e2⟩
    · rw [e] at hrt; cases hrt
    · rw [e2]; exact h rt (e1 ▸ hrt)
  | clo f caps =>
    obtain ⟨vs, h1, h2, h3⟩ := h
    refine ⟨vs, h1, h2, fun i c rt u hc hrt hu => ?_⟩
    rcases hr c (hn c (by simp only [AV.ids]; exact List.mem_of_getElem? hc)) with e | ⟨e1, e2⟩
    · rw [e] at hrt; cases hrt
    · rw [e2]; exact h3 i c rt u hc (e1 ▸ hrt) hu
  | tup l => exact h.elim
  | agg l => exact h.elim
  | junk => trivial

theorem BVRs.frame {w w' : World} {S S' : Nat → Prop} {rts rts' : List (Nat × RT)} {pl pl' : Nat → PL} (hS : ∀ b, S b → S' b ∧ w'.heap[b]? = w.heap[b]?)
    {n : Nat} (hr : ∀ r, r < n → lk rts' r = none ∨ (lk rts' r = lk rts r ∧ pl' r = pl r)) {l : List AV} {vs : List Value} (hn : ∀ a ∈ l, ∀ r ∈ a.ids, r < n) (h : BVRs w S rts pl l vs) : BVRs w' S' rts' pl' l vs := by
  induction h with
  | nil => exact .nil
  | cons h t ih => exact .cons (h.frame hS hr (hn _ (by simp))) (ih fun a ha => hn a (by simp [ha]))

theorem AVR.frame {w w' : World} {S S' : Nat → Prop} {rts rts' : List (Nat × RT)} {pl pl' : Nat → PL} (hS : ∀ b, S b → S' b ∧ w'.heap[b]? = w.heap[b]?)
    {n : Nat} (hr : ∀ r, r < n → lk rts' r = none ∨ (lk rts' r = lk rts r ∧ pl' r = pl r)) {av : AV} {v : Value} (hn : av.lt n) (h : AVR w S rts pl av v) : AVR w' S' rts' pl' av v := by
  cases av with
  | tup l => obtain ⟨vs, h1, h2⟩ := h; exact ⟨vs, h1, h2.frame hS hr hn⟩
  | agg l => obtain ⟨vs, h1, h2⟩ := h; exact ⟨vs, h1, h2.frame hS hr hn⟩
  | junk => trivial
  | _ => exact BVR.frame (n := n) hS hr hn h

/-- A slot is written. -/
theorem RelAt.put {w0 : World} {S0 : Nat → Prop} {N : Nat} {dr : Bool} {pc : Pins} {s : XS} {a : Act} {w : World} {S : Nat → Prop} {pl : Nat → PL}
    (R : RelAt w0 S0 N dr pc s a w S pl) {d : Option Nat} {av : AV} {v : Value} (hd : ∀ i, d = some i → i < N) (h : AVR w S s.rts pl av v) (hl : av.lt s.nxt) :
    RelAt w0 S0 N dr pc (s.put d av) (a.put d v) w S pl := by
  cases d with
  | none => exact R
  | some i =>
    have hi := hd i rfl
    refine { defers := R.defers, size := by simp [Act.put, R.size], os := R.os, tape := R.tape, output := R.output, grow := R.grow, stay := R.stay, base := R.base, lt := R.lt, own := R.own, Flt := R.Flt, disj := R.disj, ids := R.ids, env := ?_, pins := R.pins }
    intro j av' hj
    simp only [XS.get, XS.put, lk] at hj
    by_cases hij : i = j
    · subst hij
      simp only [if_true, Option.some.injEq] at hj
      subst hj
      refine ⟨?_, hl⟩
      have : (a.tmps.setIfInBounds i v).getD i undef = v := by simp [R.size, hi]
      simp only [Act.put]
      rw [this]
      exact h
    · rw [if_neg hij] at hj
      have : (a.tmps.setIfInBounds i v).getD j undef = a.tmps.getD j undef := by simp [Array.getElem?_setIfInBounds_ne hij]
      simp only [Act.put]
      rw [this]
      exact R.env j av' hj

/-- A slot forgets. -/
theorem RelAt.junk {w0 : World} {S0 : Nat → Prop} {N : Nat} {dr : Bool} {pc : Pins} {s : XS} {a : Act} {w : World} {S : Nat → Prop} {pl : Nat → PL}
    (R : RelAt w0 S0 N dr pc s a w S pl) (d : Option Nat) (v : Value) :
    RelAt w0 S0 N dr pc (match d with | some i => { s with env := rm s.env i } | none => s) (a.put d v) w S pl := by
  cases d with
  | none => exact R
  | some i =>
    refine { defers := R.defers, size := by simp [Act.put, R.size], os := R.os, tape := R.tape, output := R.output, grow := R.grow, stay := R.stay, base := R.base, lt := R.lt, own := R.own, Flt := R.Flt, disj := R.disj, ids := R.ids, env := ?_, pins := R.pins }
    intro j av' hj
    obtain ⟨hij, hj⟩ := lk_rm_some hj
    have : (a.tmps.setIfInBounds i v).getD j undef = a.tmps.getD j undef := by simp [Array.getElem?_setIfInBounds_ne (Ne.symm hij)]
    simp only [Act.put]
    rw [this]
    exact R.env j av' hj

end Fer
