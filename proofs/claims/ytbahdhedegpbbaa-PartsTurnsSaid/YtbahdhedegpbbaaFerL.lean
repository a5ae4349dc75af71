/- State-level: nil slices, what is read of a source, appending, storing. Over any program. -/
import Derived.Test.YtbahdhedegpbbaaFerK
namespace Fer
open Go

section
variable {P : Program} {tt : List (Nat × TE)} {w0 : World} {S0 : Nat → Prop} {N : Nat} {dr : Bool} {pc : Pins} {s : XS} {a : Act} {w w' : World} {S : Nat → Prop} {pl : Nat → PL}

/-- Memory that nobody owns has turned. -/
theorem RelAt.moved (R : RelAt w0 S0 N dr pc s a w S pl) (hos : w'.os = w.os) (htape : w'.tape = w.tape) (hout : SameOut w w') (hsz : w.heap.size ≤ w'.heap.size)
    (hold : ∀ n, n < w.heap.size → (S n ∨ ∃ r rt, s.root r = some rt ∧ (pl r).F n) → w'.heap[n]? = w.heap[n]?) : RelAt w0 S0 N dr pc s a w' S pl where
  defers := R.defers
  size := R.size
  os := hos.trans R.os
  tape := htape.trans R.tape
  output := hout.trans R.output
  grow := Nat.le_trans R.grow hsz
  stay := fun b hb => (hold b (R.lt b (R.base b hb)) (.inl (R.base b hb))).trans (R.stay b hb)
  base := R.base
  lt := fun b hb => Nat.lt_of_lt_of_le (R.lt b hb) hsz
  own := fun r rt hr => by
    obtain ⟨hv, H⟩ := R.own r rt hr
    exact ⟨hv, H.frame (fun b hb => ⟨hb, hold b (R.lt b hb) (.inl hb)⟩) fun b hb => hold b (R.Flt r rt b hr hb).1 (.inr ⟨r, rt, hr, hb⟩)⟩
  Flt := fun r rt b hr hb => ⟨Nat.lt_of_lt_of_le (R.Flt r rt b hr hb).1 hsz, (R.Flt r rt b hr hb).2⟩
  disj := R.disj
  ids := R.ids
  env := fun i av h => ⟨(R.env i av h).1.frame (n := s.nxt) (fun b hb => ⟨hb, hold b (R.lt b hb) (.inl hb)⟩) (fun _ _ => .inr ⟨rfl, rfl⟩) (R.env i av h).2, (R.env i av h).2⟩
  pins := fun hd i b hp => by
    obtain ⟨q, h1, h2, h3⟩ := R.pins hd i b hp
    exact ⟨q, h1, Nat.lt_of_lt_of_le h2 hsz, h3⟩

theorem own_nil {e : Nat} {t : Ty} {k : Nat} : Own w S (.list e t) (k + 1) [] none .nil [.slice none 0 0] noF := .inr ⟨by simp, rfl, rfl, fun _ h => h⟩

def nilRT (e : Nat) (t : Ty) : RT := ⟨e, t, 0, [], none⟩

/-- A nil slice is owned. -/
theorem RelAt.nilRoot (R : RelAt w0 S0 N dr pc s a w S pl) (e : Nat) (t : Ty) :
    RelAt w0 S0 N dr pc (s.addRoot (nilRT e t)) a w S (fun r => if r = s.nxt then ⟨.nil, noF⟩ else pl r) :=
  R.addRoot (Grew.refl w) (rt := nilRT e t) (ct := .nil) (F := noF) (hv := .slice none 0 0) own_nil fun _ h => h.elim

/-! ### What is read of a source -/

/-- The elements of a list, as cells that lie somewhere. -/
def Src (w : World) (S : Nat → Prop) (t : Ty) (y : List t.den) (v : Value) : Prop :=
  ∃ ad c, v = .slice ad y.length c ∧ (ad = none → y = []) ∧ y.length ≤ maxLen ∧ ∀ ad', ad = some ad' → ∃ news : List Value, news.length = y.length * t.width ∧
    (∀ j u, news[j]? = some u → w.cell? (ad'.add j) = some u) ∧ ∀ i, i < y.length → RO w S t (y.getD i t.dflt) (cellsAt news.toArray (i * t.width) t.width)

theorem chunk_mem {t : Ty} {n : Nat} {news : List Value} (hl : news.length = n * t.width) {u : Value} (hu : u ∈ news) : ∃ i, i < n ∧ u ∈ cellsAt news.toArray (i * t.width) t.width := by
  obtain ⟨j, hj, rfl⟩ := List.getElem_of_mem hu
  have hw := t.width_pos
  refine ⟨j / t.width, Nat.div_lt_of_lt_mul (by rw [Nat.mul_comm, ← hl]; exact hj), ?_⟩
  have : (cellsAt news.toArray (j / t.width * t.width) t.width)[j % t.width]? = some news[j] := by
    simp only [cellsAt, List.getElem?_take, List.getElem?_drop]
    rw [if_pos (Nat.mod_lt _ hw)]
    have e : j / t.width * t.width + j % t.width = j := by rw [Nat.mul_comm]; exact Nat.div_add_mod j t.width
    rw [e]
    exact List.getElem?_eq_getElem hj
  exact List.mem_of_getElem? this

theorem src_one {t : Ty} {y : List t.den} {news : List Value} (hl : news.length = y.length * t.width) (h : ∀ i, i < y.length → RO w S t (y.getD i t.dflt) (cellsAt news.toArray (i * t.width) t.width)) :
    ∀ u ∈ news, u.oneCell' = true := by
  intro u hu
  obtain ⟨i, hi, hm⟩ := chunk_mem hl hu
  exact (h i hi).oneCell u hm

theorem cellsAt_sub {arr : Array Value} {o n o2 n2 : Nat} (h : o2 + n2 ≤ n) : cellsAt (cellsAt arr o n).toArray o2 n2 = cellsAt arr (o + o2) n2 := by
  simp only [cellsAt, List.drop_take, List.take_take, List.drop_drop]
  rw [Nat.min_eq_left (by omega)]

/-- Elements that lie in a block. -/
theorem src_row {t : Ty} {y : List t.den} {b o len c : Nat} {arr : Array Value} {E : Nat} {fr : Nat × Nat} (hb : w.heap[b]? = some (.cells arr E fr)) (hl : len = y.length) (hfit : o + y.length * t.width ≤ arr.size) (hm : y.length ≤ maxLen)
    (h : ∀ i, i < y.length → RO w S t (y.getD i t.dflt) (cellsAt arr (o + i * t.width) t.width)) : Src w S t y (.slice (some ⟨b, o, none⟩) len c) := by
  subst hl
  refine ⟨_, _, rfl, (by simp), hm, fun ad' h' => ?_⟩
  cases h'
  refine ⟨cellsAt arr o (y.length * t.width), length_cellsAt hfit, fun j u hu => ?_, fun i hi => ?_⟩
  · rw [Addr.add_mid]; exact cells_range hb hfit j u hu
  · rw [cellsAt_sub (mul_fit hi (Nat.le_refl _))]; exact h i hi

theorem src_ro {e : Nat} {t : Ty} {l : List t.den} {v : Value} (h : RO w S (.list e t) l [v]) : Src w S t l v := by
  obtain ⟨ad, cap, hv, h1, h2, h3⟩ := h
  simp at hv; subst hv
  by_cases hl : l = []
  · subst hl
    cases ad with
    | none => exact ⟨none, cap, rfl, fun _ => rfl, Nat.zero_le _, fun _ h => by cases h⟩
    | some ad => exact ⟨some ad, cap, rfl, (by simp), Nat.zero_le _, fun ad' h' => ⟨[], by simp, by simp, by simp⟩⟩
  · obtain ⟨b, off, arr, E, fr, rfl, _, hb, hfit, hel⟩ := h3 hl
    exact src_row hb rfl hfit (Nat.le_trans h1 h2) hel

structure EL where
  e : Nat
  t : Ty
  l : List t.den

def castL (t t' : Ty) (l : List t.den) : Option (List t'.den) := if h : t = t' then some (h ▸ l) else none
@[simp] theorem castL_self (t : Ty) (l : List t.den) : castL t t l = some l := by simp [castL]
theorem castL_eq {t t' : Ty} {l : List t.den} {l' : List t'.den} (h : castL t t' l = some l') : ∃ e : t = t', l' = e ▸ l := by
  unfold castL at h; split at h
  · rename_i e; cases h; exact ⟨e, rfl⟩
  · cases h

/-- The list at a node; what must hold for that. -/
def elAt (rt : RT) (p : List Nat) : Option EL :=
  match rt.at p with
  | ⟨.list e t, l⟩ => some ⟨e, t, l⟩
  | _ => none

theorem elAt_eq {rt : RT} {p : List Nat} {el : EL} (h : elAt rt p = some el) : rt.at p = ⟨.list el.e el.t, el.l⟩ := by
  unfold elAt at h
  split at h
  · rename_i e; cases h; exact e
  · cases h

def okNode (rt : RT) (p : List Nat) : Prop := okS p rt.ty rt.x (rt.k + 1) ∧ 0 < dep p rt.ty (rt.k + 1)

def srcAV (s : XS) : AV → Option (Prop × EL)
  | .dat (.list e t) l => some (True, ⟨e, t, l⟩)
  | .ref r p => match s.root r with
    | some rt => match elAt rt p with
      | some el => if rt.h = none ∧ (el.t.flat = true ∨ dep p rt.ty (rt.k + 1) = 1) then some (okNode rt p, el) else none
      | none => none
    | none => none
  | .sub r p lo hi => match s.root r with
    | some rt => match elAt rt p with
      | some el => if rt.h = none ∧ (el.t.flat = true ∨ dep p rt.ty (rt.k + 1) = 1) then some (okNode rt p, ⟨el.e, el.t, (el.l.take hi).drop lo⟩) else none
      | none => none
    | none => none
  | _ => none

/-- The node with a list, that a name in a root without a hole means. -/
theorem RelAt.nodeL (R : RelAt w0 S0 N dr pc s a w S pl) {r : Nat} {rt : RT} (hr : s.root r = some rt) (hh : rt.h = none) {p : List Nat} {el : EL} (hel : elAt rt p = some el) (hok : okNode rt p) :
    ∃ k v F', dep p rt.ty (rt.k + 1) = k + 1 ∧ Own w S (.list el.e el.t) (k + 1) el.l none (atCT p rt.ty (pl r).ct) [v] F' ∧ v = hdr (atCT p rt.ty (pl r).ct) (rt.at p).len ∧ (∀ n, F' n → (pl r).F n) := by
  obtain ⟨hv, H⟩ := R.own r rt hr
  rw [hh] at H
  have hat := elAt_eq hel
  obtain ⟨k, hk⟩ : ∃ k, dep p rt.ty (rt.k + 1) = k + 1 := ⟨_, (Nat.succ_pred_eq_of_pos hok.2).symm⟩
  cases p with
  | nil =>
    simp only [dep] at hk
    have e1 : rt.e = el.e ∧ rt.t = el.t := by have : Ty.list rt.e rt.t = Ty.list el.e el.t := congrArg TV.t hat; simpa using this
    cases rt with
    | mk e t k' x h =>
      cases el with
      | mk e' t' l =>
        obtain ⟨rfl, rfl⟩ := e1
        have hat : (⟨.list e t, x⟩ : TV) = ⟨.list e t, l⟩ := hat
        simp only [TV.mk.injEq, heq_eq_eq, true_and] at hat
        subst hat
        exact ⟨k, hv, (pl r).F, hk, by rw [← hk]; exact H, (H.hdr (by simp)).1, fun _ h => h⟩
  | cons i p =>
    obtain ⟨cs, F', h', e2, e3, e4, e5, e6, _⟩ := nodeAt (i :: p) rt.ty (rt.k + 1) rt.x none (pl r).ct [hv] (pl r).F 0 0 H hok.1 rfl (.inl ⟨_, _, _, _, rfl, rfl⟩)
    have hh' := e6 rfl
    subst hh'
    change Own w S (rt.at (i :: p)).t _ (rt.at (i :: p)).x none _ cs F' at e3
    rw [hat, hk] at e3
    obtain ⟨v, rfl, _⟩ := pack_one (t := .list el.e el.t) rfl e3.length
    refine ⟨k, v, F', hk, e3, ?_, e4⟩
    rw [hat]
    exact (e3.hdr (by simp)).1

theorem own_src {e : Nat} {t : Ty} {k : Nat} {l : List t.den} {ct : CT} {v : Value} {F : Nat → Prop} (h : t.flat = true ∨ k = 0) (H : Own w S (.list e t) (k + 1) l none ct [v] F) : Src w S t l v := by
  rcases own_inv H with ⟨_, rfl, hv, _⟩ | ⟨b, cap, kids, arr, Fs, _, hv, h2, h3, h4, h5, g1, g2, g3, g4⟩
  · simp at hv; subst hv
    exact ⟨none, 0, rfl, fun _ => rfl, Nat.zero_le _, fun _ h => by cases h⟩
  · simp at hv; subst hv
    refine src_row h4 rfl ?_ (Nat.le_trans h2 h3) fun i hi => ?_
    · rw [h5, Nat.zero_add]; exact Nat.mul_le_mul_right _ h2
    · rw [Nat.zero_add]; exact ((g4 i hi).stable h).1

theorem own_src_sub {e : Nat} {t : Ty} {k : Nat} {l : List t.den} {ct : CT} {v u : Value} {F : Nat → Prop} (h : t.flat = true ∨ k = 0) (H : Own w S (.list e t) (k + 1) l none ct [v] F) {lo hi : Nat} (h1 : lo ≤ hi) (h2 : hi ≤ l.length)
    (hu : subR ct t.width lo hi u) : Src w S t ((l.take hi).drop lo) u := by
  have hlen : ((l.take hi).drop lo).length = hi - lo := by rw [List.length_drop, List.length_take, Nat.min_eq_left h2]
  rcases own_inv H with ⟨rfl, rfl, hv, _⟩ | ⟨b, cap, kids, arr, Fs, rfl, hv, q2, q3, h4, h5, g1, g2, g3, g4⟩
  · simp only [subR] at hu; subst hu
    have : ((List.take hi ([] : List t.den)).drop lo) = [] := by simp
    rw [this]
    exact ⟨none, 0, rfl, fun _ => rfl, Nat.zero_le _, fun _ h => by cases h⟩
  · obtain ⟨ad, rfl, had⟩ := hu
    have hmax : ((l.take hi).drop lo).length ≤ maxLen := by rw [hlen]; omega
    by_cases hz : hi - lo = 0
    · have hnil : (l.take hi).drop lo = [] := List.eq_nil_of_length_eq_zero (by rw [hlen]; exact hz)
      refine ⟨ad, cap - lo, by rw [hlen], fun _ => hnil, hmax, fun ad' _ => ⟨[], by rw [hlen, hz]; simp, by simp, fun i hi => by rw [hlen] at hi; omega⟩⟩
    · have := had (.inl (by omega))
      subst this
      refine src_row h4 hlen.symm ?_ hmax fun i hi' => ?_
      · rw [hlen, h5, ← Nat.add_mul]; exact Nat.mul_le_mul_right _ (by omega)
      · rw [hlen] at hi'
        have e1 : ((l.take hi).drop lo).getD i t.dflt = l.getD (lo + i) t.dflt := by
          simp only [List.getD_eq_getElem?_getD, List.getElem?_drop, List.getElem?_take]
          rw [if_pos (by omega)]
        rw [e1, ← Nat.add_mul]
        exact ((g4 (lo + i) (by omega)).stable h).1

theorem srcAV_ok (R : RelAt w0 S0 N dr pc s a w S pl) {x : AV} {v : Value} (hx : AVR w S s.rts pl x v) {q : Prop} {el : EL} (h : srcAV s x = some (q, el)) (hq : q) : Src w S el.t el.l v := by
  cases x with
  | dat t y =>
    cases t with
    | list e t =>
      simp only [srcAV, Option.some.injEq, Prod.mk.injEq] at h
      obtain ⟨_, rfl⟩ := h
      obtain ⟨ad, cap, rfl, h2, _⟩ := AVR.list hx
      exact src_ro h2
    | int | bool | str | raw | prod => simp [srcAV] at h
  | ref r p =>
    simp only [srcAV] at h
    cases hr : s.root r with
    | none => rw [hr] at h; cases h
    | some rt =>
      rw [hr] at h
      simp only at h
      cases hel : elAt rt p with
      | none => rw [hel] at h; cases h
      | some el' =>
        rw [hel] at h
        simp only at h
        split at h
        · rename_i hc
          simp only [Option.some.injEq, Prod.mk.injEq] at h
          obtain ⟨rfl, rfl⟩ := h
          obtain ⟨k, v', F', hk, H, hv', _⟩ := R.nodeL hr hc.1 hel hq
          have : v = v' := by rw [hv']; exact hx rt hr
          subst this
          refine own_src ?_ H
          rcases hc.2 with h | h
          · exact .inl h
          · rw [hk] at h; exact .inr (by omega)
        · cases h
  | sub r p lo hi =>
    simp only [srcAV] at h
    cases hr : s.root r with
    | none => rw [hr] at h; cases h
    | some rt =>
      rw [hr] at h
      simp only at h
      cases hel : elAt rt p with
      | none => rw [hel] at h; cases h
      | some el' =>
        rw [hel] at h
        simp only at h
        split at h
        · rename_i hc
          simp only [Option.some.injEq, Prod.mk.injEq] at h
          obtain ⟨rfl, rfl⟩ := h
          obtain ⟨k, v', F', hk, H, hv', _⟩ := R.nodeL hr hc.1 hel hq
          obtain ⟨q1, q2, q3⟩ := hx rt hr
          rw [elAt_eq hel] at q2 q3
          refine own_src_sub ?_ H q1 q2 q3
          rcases hc.2 with h | h
          · exact .inl h
          · rw [hk] at h; exact .inr (by omega)
        · cases h
  | ptr => simp [srcAV] at h
  | rptr => simp [srcAV] at h
  | clo => simp [srcAV] at h
  | tup => simp [srcAV] at h
  | agg => simp [srcAV] at h
  | junk => simp [srcAV] at h

end
end Fer
