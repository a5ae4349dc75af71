/- Machine and plain facts, over any program (several texts in one). No condition. -/
import Derived.Test.YtmaahmcdejoclaaFerMa
/- Families of paths: the search, over whatever says which points are gone. Plain. -/
namespace Fer

abbrev Pt := Int × Int
/-- What a search is of. -/
structure SEnv where
  starts : List Pt
  ends : List Pt
  way : List Int
  lim : Int
  stop : Bool
def SEnv.fin (E : SEnv) (k : Int) : Pt := E.ends.getD (E.way.getD k.toNat 0).toNat (0, 0)
/-- Steps; how many families; the first one; by how many steps it was found. -/
structure SSt where
  steps : Int
  n : Int
  first : List ByteArray
  found : Int
def SSt.tick (s : SSt) : SSt := { s with steps := s.steps + 1 }
def SSt.hit (s : SSt) (now : List ByteArray) : SSt := ⟨s.steps, s.n + 1, if s.n = 0 then now else s.first, if s.n = 0 then s.steps else s.found⟩
def sR : ByteArray := ⟨#[82]⟩
def sU : ByteArray := ⟨#[85]⟩

section
variable {α β : Type}

/-- From a point on, the k-th path. -/
def srch (blk : α → Pt → Bool) (add : α → Pt → α) (E : SEnv) : Nat → Int → Pt → ByteArray → α → List ByteArray → SSt → Bool × SSt
  | 0, _, _, _, _, _, st => (true, st)
  | f + 1, k, p, path, a, now, st =>
    if blk a p = true then (true, st) else
    if E.lim < st.steps + 1 then (false, st.tick) else
    if p = E.fin k then (if k + 1 < E.starts.length then srch blk add E f (k + 1) (E.starts.getD (k + 1).toNat (0, 0)) ByteArray.empty (add a p) (now ++ [path]) st.tick else (!E.stop, st.tick.hit (now ++ [path])))
    else
      let r := if p.1 < (E.fin k).1 then srch blk add E f k (p.1 + 1, p.2) (path ++ sR) (add a p) now st.tick else (true, st.tick)
      if r.1 = true ∧ p.2 < (E.fin k).2 then srch blk add E f k (p.1, p.2 + 1) (path ++ sU) (add a p) now r.2 else r
def nxt (blk : α → Pt → Bool) (add : α → Pt → α) (E : SEnv) (f : Nat) (k : Int) (a : α) (now : List ByteArray) (st : SSt) : Bool × SSt :=
  if k < E.starts.length then srch blk add E f k (E.starts.getD k.toNat (0, 0)) ByteArray.empty a now st else (!E.stop, st.hit now)

theorem srch_succ {blk : α → Pt → Bool} {add : α → Pt → α} {E : SEnv} {f : Nat} {k : Int} {p : Pt} {path : ByteArray} {a : α} {now : List ByteArray} {st : SSt} :
    srch blk add E (f + 1) k p path a now st = if blk a p = true then (true, st) else if E.lim < st.steps + 1 then (false, st.tick) else
      if p = E.fin k then nxt blk add E f (k + 1) (add a p) (now ++ [path]) st.tick
      else
        let r := if p.1 < (E.fin k).1 then srch blk add E f k (p.1 + 1, p.2) (path ++ sR) (add a p) now st.tick else (true, st.tick)
        if r.1 = true ∧ p.2 < (E.fin k).2 then srch blk add E f k (p.1, p.2 + 1) (path ++ sU) (add a p) now r.2 else r := rfl

/-- Two that say the same of what is gone. -/
theorem srch_sim {blk : α → Pt → Bool} {add : α → Pt → α} {blk' : β → Pt → Bool} {add' : β → Pt → β} {E : SEnv} (Rl : α → β → Prop) (In : Pt → Prop) (hb : ∀ a b p, Rl a b → In p → blk a p = blk' b p)
    (ha : ∀ a b p, Rl a b → In p → blk a p = false → Rl (add a p) (add' b p)) (hs : ∀ k : Int, 0 ≤ k → k < E.starts.length → In (E.starts.getD k.toNat (0, 0)))
    (hR : ∀ (k : Int) p, In p → p.1 < (E.fin k).1 → In (p.1 + 1, p.2)) (hU : ∀ (k : Int) p, In p → p.2 < (E.fin k).2 → In (p.1, p.2 + 1)) :
    ∀ (f : Nat) (k : Int) (p : Pt) (path : ByteArray) (a : α) (b : β) (now : List ByteArray) (st : SSt), 0 ≤ k → In p → Rl a b → srch blk add E f k p path a now st = srch blk' add' E f k p path b now st
  | 0, _, _, _, _, _, _, _, _, _, _ => rfl
  | f + 1, k, p, path, a, b, now, st, hk, hp, hab => by
    rw [srch_succ, srch_succ, ← hb a b p hab hp]
    by_cases h1 : blk a p = true
    · rw [if_pos h1, if_pos h1]
    · have hab' := ha a b p hab hp (by simpa using h1)
      rw [if_neg h1, if_neg h1]
      split
      · rfl
      · split
        · unfold nxt
          split
          · rename_i hlt
            exact srch_sim Rl In hb ha hs hR hU f (k + 1) _ _ _ _ _ _ (by omega) (hs _ (by omega) hlt) hab'
          · rfl
        · have e1 : (if p.1 < (E.fin k).1 then srch blk add E f k (p.1 + 1, p.2) (path ++ sR) (add a p) now st.tick else (true, st.tick)) = (if p.1 < (E.fin k).1 then srch blk' add' E f k (p.1 + 1, p.2) (path ++ sR) (add' b p) now st.tick else (true, st.tick)) := by
            split
            · rename_i hlt
              exact srch_sim Rl In hb ha hs hR hU f k _ _ _ _ _ _ hk (hR k p hp hlt) hab'
            · rfl
          simp only [e1]
          generalize (if p.1 < (E.fin k).1 then srch blk' add' E f k (p.1 + 1, p.2) (path ++ sR) (add' b p) now st.tick else (true, st.tick)) = r
          split
          · rename_i hc
            exact srch_sim Rl In hb ha hs hR hU f k _ _ _ _ _ _ hk (hU k p hp hc.2) hab'
          · rfl

/-- What holds throughout. -/
structure SInv (E : SEnv) (st : SSt) : Prop where
  n0 : 0 ≤ st.n
  ns : st.n ≤ st.steps
  s1 : st.steps ≤ E.lim + 1
  fd : (st.n = 0 ∧ st.found = 0) ∨ (0 < st.n ∧ 0 < st.found)

theorem srch_inv {blk : α → Pt → Bool} {add : α → Pt → α} {E : SEnv} : ∀ (f : Nat) (k : Int) (p : Pt) (path : ByteArray) (a : α) (now : List ByteArray) (st : SSt), SInv E st → st.steps ≤ E.lim →
    SInv E (srch blk add E f k p path a now st).2 ∧ st.steps ≤ (srch blk add E f k p path a now st).2.steps ∧ ((srch blk add E f k p path a now st).1 = true → (srch blk add E f k p path a now st).2.steps ≤ E.lim)
  | 0, _, _, _, _, _, _, h, h1 => ⟨h, Int.le_refl _, fun _ => h1⟩
  | f + 1, k, p, path, a, now, st, h, h1 => by
    rw [srch_succ]
    have ht : SInv E st.tick := ⟨h.n0, by have := h.ns; show st.n ≤ st.steps + 1; omega, by show st.steps + 1 ≤ E.lim + 1; omega, h.fd⟩
    split
    · exact ⟨h, Int.le_refl _, fun _ => h1⟩
    · split
      · exact ⟨ht, by show st.steps ≤ st.steps + 1; omega, fun h => by cases h⟩
      · rename_i hl
        have hl2 : st.tick.steps ≤ E.lim := by show st.steps + 1 ≤ E.lim; omega
        have hmono : ∀ {x : Int}, st.tick.steps ≤ x → st.steps ≤ x := fun {x} hx => by
          have : st.steps + 1 ≤ x := hx
          omega
        split
        · unfold nxt
          split
          · obtain ⟨g1, g2, g3⟩ := srch_inv f (k + 1) (E.starts.getD (k + 1).toNat (0, 0)) ByteArray.empty (add a p) (now ++ [path]) st.tick ht hl2
            exact ⟨g1, hmono g2, g3⟩
          · have h2 : st.n ≤ st.steps := h.ns
            have h3 := h.n0
            refine ⟨⟨by show 0 ≤ st.n + 1; omega, by show st.n + 1 ≤ st.steps + 1; omega, ht.s1, .inr ⟨by show 0 < st.n + 1; omega, ?_⟩⟩, hmono (Int.le_refl _), fun _ => hl2⟩
            show 0 < if st.n = 0 then st.steps + 1 else st.found
            rcases h.fd with h4 | h4
            · rw [if_pos h4.1]; omega
            · rw [if_neg (by omega)]; exact h4.2
        · have key : SInv E (if p.1 < (E.fin k).1 then srch blk add E f k (p.1 + 1, p.2) (path ++ sR) (add a p) now st.tick else (true, st.tick)).2 ∧ st.tick.steps ≤ (if p.1 < (E.fin k).1 then srch blk add E f k (p.1 + 1, p.2) (path ++ sR) (add a p) now st.tick else (true, st.tick)).2.steps ∧
              ((if p.1 < (E.fin k).1 then srch blk add E f k (p.1 + 1, p.2) (path ++ sR) (add a p) now st.tick else (true, st.tick)).1 = true → (if p.1 < (E.fin k).1 then srch blk add E f k (p.1 + 1, p.2) (path ++ sR) (add a p) now st.tick else (true, st.tick)).2.steps ≤ E.lim) := by
            split
            · exact srch_inv f k _ _ _ _ _ ht hl2
            · exact ⟨ht, Int.le_refl _, fun _ => hl2⟩
          generalize (if p.1 < (E.fin k).1 then srch blk add E f k (p.1 + 1, p.2) (path ++ sR) (add a p) now st.tick else (true, st.tick)) = r at key
          obtain ⟨g1, g2, g3⟩ := key
          simp only
          split
          · rename_i hc
            obtain ⟨q1, q2, q3⟩ := srch_inv f k (p.1, p.2 + 1) (path ++ sU) (add a p) now r.2 g1 (g3 hc.1)
            exact ⟨q1, hmono (Int.le_trans g2 q2), q3⟩
          · exact ⟨g1, hmono g2, g3⟩

/-- What has been found first stays. -/
theorem srch_first {blk : α → Pt → Bool} {add : α → Pt → α} {E : SEnv} : ∀ (f : Nat) (k : Int) (p : Pt) (path : ByteArray) (a : α) (now : List ByteArray) (st : SSt), 0 < st.n →
    0 < (srch blk add E f k p path a now st).2.n ∧ (srch blk add E f k p path a now st).2.first = st.first
  | 0, _, _, _, _, _, _, h => ⟨h, rfl⟩
  | f + 1, k, p, path, a, now, st, h => by
    rw [srch_succ]
    have ht : 0 < st.tick.n := h
    split
    · exact ⟨h, rfl⟩
    · split
      · exact ⟨h, rfl⟩
      · split
        · unfold nxt
          split
          · obtain ⟨g1, g2⟩ := srch_first f (k + 1) (E.starts.getD (k + 1).toNat (0, 0)) ByteArray.empty (add a p) (now ++ [path]) st.tick ht
            exact ⟨g1, g2⟩
          · refine ⟨by show 0 < st.n + 1; omega, ?_⟩
            show (if st.n = 0 then _ else st.first) = st.first
            rw [if_neg (by omega)]
        · have key : 0 < (if p.1 < (E.fin k).1 then srch blk add E f k (p.1 + 1, p.2) (path ++ sR) (add a p) now st.tick else (true, st.tick)).2.n ∧ (if p.1 < (E.fin k).1 then srch blk add E f k (p.1 + 1, p.2) (path ++ sR) (add a p) now st.tick else (true, st.tick)).2.first = st.first := by
            split
            · exact srch_first f k _ _ _ _ _ ht
            · exact ⟨h, rfl⟩
          generalize (if p.1 < (E.fin k).1 then srch blk add E f k (p.1 + 1, p.2) (path ++ sR) (add a p) now st.tick else (true, st.tick)) = r at key
          obtain ⟨g1, g2⟩ := key
          simp only
          split
          · obtain ⟨q1, q2⟩ := srch_first f k (p.1, p.2 + 1) (path ++ sU) (add a p) now r.2 g1
            exact ⟨q1, q2.trans g2⟩
          · exact ⟨g1, g2⟩

/-- A search that stops at the first one, beside one that goes on. -/
theorem srch_stop {blk : α → Pt → Bool} {add : α → Pt → α} {E E' : SEnv} (hE : E.stop = false) (hE' : E' = { E with stop := true }) : ∀ (f : Nat) (k : Int) (p : Pt) (path : ByteArray) (a : α) (now : List ByteArray) (st : SSt), st.n = 0 →
    ((srch blk add E f k p path a now st).2.n = 0 ∧ srch blk add E' f k p path a now st = srch blk add E f k p path a now st) ∨
    (0 < (srch blk add E f k p path a now st).2.n ∧ (srch blk add E' f k p path a now st).1 = false ∧ (srch blk add E' f k p path a now st).2.n = 1 ∧ (srch blk add E' f k p path a now st).2.first = (srch blk add E f k p path a now st).2.first)
  | 0, _, _, _, _, _, _, h => .inl ⟨h, rfl⟩
  | f + 1, k, p, path, a, now, st, h => by
    have ef : ∀ k, E'.fin k = E.fin k := fun k => by rw [hE']; rfl
    have el : E'.lim = E.lim := by rw [hE']
    have es : E'.starts = E.starts := by rw [hE']
    have et : E'.stop = true := by rw [hE']
    rw [srch_succ, srch_succ, ef, el]
    have ht : st.tick.n = 0 := h
    split
    · exact .inl ⟨h, rfl⟩
    · split
      · exact .inl ⟨h, rfl⟩
      · split
        · unfold nxt
          rw [es, et, hE]
          split
          · exact srch_stop hE hE' f (k + 1) _ _ _ _ _ ht
          · refine .inr ⟨by show 0 < st.n + 1; omega, rfl, by show st.n + 1 = 1; omega, rfl⟩
        · have key : ((if p.1 < (E.fin k).1 then srch blk add E f k (p.1 + 1, p.2) (path ++ sR) (add a p) now st.tick else (true, st.tick)).2.n = 0 ∧ (if p.1 < (E.fin k).1 then srch blk add E' f k (p.1 + 1, p.2) (path ++ sR) (add a p) now st.tick else (true, st.tick)) = (if p.1 < (E.fin k).1 then srch blk add E f k (p.1 + 1, p.2) (path ++ sR) (add a p) now st.tick else (true, st.tick))) ∨
              (0 < (if p.1 < (E.fin k).1 then srch blk add E f k (p.1 + 1, p.2) (path ++ sR) (add a p) now st.tick else (true, st.tick)).2.n ∧ (if p.1 < (E.fin k).1 then srch blk add E' f k (p.1 + 1, p.2) (path ++ sR) (add a p) now st.tick else (true, st.tick)).1 = false ∧
                (if p.1 < (E.fin k).1 then srch blk add E' f k (p.1 + 1, p.2) (path ++ sR) (add a p) now st.tick else (true, st.tick)).2.n = 1 ∧ (if p.1 < (E.fin k).1 then srch blk add E' f k (p.1 + 1, p.2) (path ++ sR) (add a p) now st.tick else (true, st.tick)).2.first = (if p.1 < (E.fin k).1 then srch blk add E f k (p.1 + 1, p.2) (path ++ sR) (add a p) now st.tick else (true, st.tick)).2.first) := by
            split
            · exact srch_stop hE hE' f k _ _ _ _ _ ht
            · exact .inl ⟨h, rfl⟩
          generalize (if p.1 < (E.fin k).1 then srch blk add E' f k (p.1 + 1, p.2) (path ++ sR) (add a p) now st.tick else (true, st.tick)) = r' at key
          generalize (if p.1 < (E.fin k).1 then srch blk add E f k (p.1 + 1, p.2) (path ++ sR) (add a p) now st.tick else (true, st.tick)) = r at key
          simp only
          rcases key with ⟨g1, rfl⟩ | ⟨g1, g2, g3, g4⟩
          · split
            · exact srch_stop hE hE' f k _ _ _ _ _ g1
            · exact .inl ⟨g1, rfl⟩
          · have hn : ¬ (r'.1 = true ∧ p.2 < (E.fin k).2) := by rw [g2]; simp
            rw [if_neg hn]
            split
            · obtain ⟨q1, q2⟩ := srch_first (blk := blk) (add := add) (E := E) f k (p.1, p.2 + 1) (path ++ sU) (add a p) now r.2 g1
              exact .inr ⟨q1, g2, g3, g4.trans q2.symm⟩
            · exact .inr ⟨g1, g2, g3, g4⟩
end
end Fer

/- Grids: which points are free; orders of ends. Plain. -/
namespace Fer

def inG (W H : Int) (p : Pt) : Prop := 0 ≤ p.1 ∧ 0 ≤ p.2 ∧ p.1 < W ∧ p.2 < H
instance (W H : Int) (p : Pt) : Decidable (inG W H p) := inferInstanceAs (Decidable (_ ∧ _ ∧ _ ∧ _))
def gridOK (W H : Int) (bar : List Pt) : Prop := (1 ≤ W ∧ 1 ≤ H ∧ W ≤ 8 ∧ H ≤ 8) ∧ (∀ p ∈ bar, inG W H p) ∧ bar.Nodup
def pix (W : Int) (p : Pt) : Int := p.2 * W + p.1
def ptOf (W : Int) (i : Nat) : Pt := ((i : Int) % W, (i : Int) / W)
def freeOf (W H : Int) (occ : List Pt) : List Bool := (List.range (W * H).toNat).map fun i => decide (ptOf W i ∉ occ)

theorem pix_lt {W H : Int} {p : Pt} (hW : 1 ≤ W) (h : inG W H p) : 0 ≤ pix W p ∧ pix W p < W * H := by
  obtain ⟨h1, h2, h3, h4⟩ := h
  unfold pix
  have e1 : 0 ≤ p.2 * W := Int.mul_nonneg h2 (by omega)
  have e2 : (p.2 + 1) * W ≤ H * W := Int.mul_le_mul_of_nonneg_right (by omega) (by omega)
  rw [Int.add_mul, Int.one_mul, Int.mul_comm H W] at e2
  omega
theorem ptOf_pix {W H : Int} {p : Pt} (hW : 1 ≤ W) (h : inG W H p) : ptOf W (pix W p).toNat = p := by
  obtain ⟨h0, _⟩ := pix_lt hW h
  obtain ⟨h1, h2, h3, h4⟩ := h
  unfold ptOf
  rw [Int.toNat_of_nonneg h0]
  unfold pix
  refine Prod.ext ?_ ?_
  · simp only
    rw [Int.add_comm, Int.add_mul_emod_self_right, Int.emod_eq_of_lt h1 h3]
  · simp only
    rw [Int.add_comm, Int.add_mul_ediv_right _ _ (by omega), Int.ediv_eq_zero_of_lt h1 h3, Int.zero_add]
theorem ptOf_in {W H : Int} {i : Nat} (hW : 1 ≤ W) (hH : 1 ≤ H) (hi : i < (W * H).toNat) : inG W H (ptOf W i) ∧ (pix W (ptOf W i)).toNat = i := by
  have hi' : (i : Int) < W * H := by omega
  unfold ptOf inG pix
  simp only
  refine ⟨⟨Int.emod_nonneg _ (by omega), Int.ediv_nonneg (by omega) (by omega), Int.emod_lt_of_pos _ (by omega), ?_⟩, ?_⟩
  · exact Int.ediv_lt_of_lt_mul (by omega) (by rw [Int.mul_comm H W]; exact hi')
  · rw [Int.mul_comm, Int.mul_ediv_add_emod]; omega

theorem freeOf_len (W H : Int) (occ : List Pt) : (freeOf W H occ).length = (W * H).toNat := by simp [freeOf]
theorem freeOf_get {W H : Int} {occ : List Pt} {p : Pt} (hW : 1 ≤ W) (h : inG W H p) : (freeOf W H occ).getD (pix W p).toNat false = decide (p ∉ occ) := by
  obtain ⟨h1, h2⟩ := pix_lt hW h
  unfold freeOf
  rw [List.getD_eq_getElem?_getD, List.getElem?_map, List.getElem?_range (by omega)]
  simp only [Option.map_some, Option.getD_some, ptOf_pix hW h]
theorem freeOf_add {W H : Int} {occ : List Pt} {p : Pt} (hW : 1 ≤ W) (hH : 1 ≤ H) (h : inG W H p) : (freeOf W H occ).set (pix W p).toNat false = freeOf W H (occ ++ [p]) := by
  obtain ⟨h1, h2⟩ := pix_lt hW h
  apply List.ext_getElem?
  intro i
  rw [List.getElem?_set]
  unfold freeOf
  simp only [List.getElem?_map, List.length_map, List.length_range]
  by_cases hi : i < (W * H).toNat
  · rw [List.getElem?_range hi]
    by_cases e : (pix W p).toNat = i
    · rw [if_pos e, if_pos (by omega)]
      subst e
      simp [ptOf_pix hW h]
    · rw [if_neg e]
      simp only [Option.map_some, List.mem_append, List.mem_singleton]
      have : ptOf W i ≠ p := fun e2 => e (by rw [← e2]; exact (ptOf_in hW hH hi).2)
      simp [this]
  · rw [List.getElem?_eq_none (by simp; omega)]
    rw [if_neg (by omega)]
    rfl

/-- How many are free. -/
def cntT (l : List Bool) : Nat := l.count true
theorem cntT_set : ∀ {l : List Bool} {i : Nat}, l.getD i false = true → cntT (l.set i false) + 1 = cntT l
  | [], i, h => by simp at h
  | b :: l, 0, h => by
    have : b = true := by simpa using h
    subst this
    simp [cntT]
  | b :: l, i + 1, h => by
    have := cntT_set (l := l) (i := i) (by simpa using h)
    unfold cntT at *
    rw [List.set_cons_succ]
    simp only [List.count_cons]
    omega
theorem set_back {l : List Bool} {i : Nat} (h : l.getD i false = true) : (l.set i false).set i true = l := by
  rw [List.set_set]
  apply List.ext_getElem?
  intro j
  rw [List.getElem?_set]
  by_cases e : i = j
  · subst e
    rw [if_pos rfl]
    rw [List.getD_eq_getElem?_getD] at h
    cases hl : l[i]? with
    | none => rw [hl] at h; cases h
    | some b =>
      rw [hl] at h
      have : b = true := by simpa using h
      subst this
      rw [if_pos (List.getElem?_eq_some_iff.1 hl).1]
  · rw [if_neg e]

def blkP (W : Int) (fr : List Bool) (p : Pt) : Bool := !(fr.getD (pix W p).toNat false)
def addP (W : Int) (fr : List Bool) (p : Pt) : List Bool := fr.set (pix W p).toNat false
def blkR (occ : List Pt) (p : Pt) : Bool := decide (p ∈ occ)
def addR (occ : List Pt) (p : Pt) : List Pt := occ ++ [p]
def relPR (W H : Int) (fr : List Bool) (occ : List Pt) : Prop := fr = freeOf W H occ

/-- All ends, all starts lie in the grid. -/
structure EnvOK (W H : Int) (E : SEnv) : Prop where
  W1 : 1 ≤ W
  H1 : 1 ≤ H
  W8 : W ≤ 8
  H8 : H ≤ 8
  st : ∀ p ∈ E.starts, inG W H p
  en : ∀ p ∈ E.ends, inG W H p

theorem getD_in {W H : Int} {l : List Pt} (hW : 1 ≤ W) (hH : 1 ≤ H) (h : ∀ p ∈ l, inG W H p) (i : Nat) : inG W H (l.getD i (0, 0)) := by
  rw [List.getD_eq_getElem?_getD]
  cases hl : l[i]? with
  | none => exact ⟨Int.le_refl _, Int.le_refl _, by show (0 : Int) < W; omega, by show (0 : Int) < H; omega⟩
  | some p => exact h p (List.mem_of_getElem? hl)
theorem EnvOK.fin {W H : Int} {E : SEnv} (h : EnvOK W H E) (k : Int) : inG W H (E.fin k) := getD_in h.W1 h.H1 h.en _
theorem EnvOK.start {W H : Int} {E : SEnv} (h : EnvOK W H E) (k : Nat) : inG W H (E.starts.getD k (0, 0)) := getD_in h.W1 h.H1 h.st _
theorem EnvOK.right {W H : Int} {E : SEnv} (h : EnvOK W H E) {k : Int} {p : Pt} (hp : inG W H p) (hl : p.1 < (E.fin k).1) : inG W H (p.1 + 1, p.2) := by
  have := (h.fin k).2.2.1
  obtain ⟨h1, h2, h3, h4⟩ := hp
  exact ⟨by show 0 ≤ p.1 + 1; omega, h2, by show p.1 + 1 < W; omega, h4⟩
theorem EnvOK.up {W H : Int} {E : SEnv} (h : EnvOK W H E) {k : Int} {p : Pt} (hp : inG W H p) (hl : p.2 < (E.fin k).2) : inG W H (p.1, p.2 + 1) := by
  have := (h.fin k).2.2.2
  obtain ⟨h1, h2, h3, h4⟩ := hp
  exact ⟨h1, by show 0 ≤ p.2 + 1; omega, h3, by show p.2 + 1 < H; omega⟩

theorem srch_PR {W H : Int} {E : SEnv} (hE : EnvOK W H E) (f : Nat) (k : Int) (p : Pt) (path : ByteArray) (occ : List Pt) (now : List ByteArray) (st : SSt) (hk : 0 ≤ k) (hp : inG W H p) :
    srch (blkP W) (addP W) E f k p path (freeOf W H occ) now st = srch blkR addR E f k p path occ now st :=
  srch_sim (relPR W H) (inG W H) (fun a b p hr hp => by
    unfold relPR at hr
    subst hr
    unfold blkP blkR
    rw [freeOf_get hE.W1 hp]
    by_cases h : p ∈ b <;> simp [h]) (fun a b p hr hp _ => by
    unfold relPR at hr
    subst hr
    exact freeOf_add hE.W1 hE.H1 hp) (fun k _ _ => hE.start _) (fun k p hp hl => hE.right hp hl) (fun k p hp hl => hE.up hp hl) f k p path _ occ now st hk hp rfl

/-- So many points at most are barred. -/
theorem bar_len {W H : Int} {bar : List Pt} (h : gridOK W H bar) : bar.length ≤ 64 := by
  obtain ⟨⟨h1, h2, h3, h4⟩, h5, h6⟩ := h
  have key : (bar.map fun p => (pix W p).toNat).Nodup := by
    rw [List.nodup_iff_pairwise_ne, List.pairwise_map]
    refine (List.nodup_iff_pairwise_ne.1 h6).imp_of_mem fun {a b} ha hb hab e => hab ?_
    rw [← ptOf_pix h1 (h5 a ha), ← ptOf_pix h1 (h5 b hb), e]
  have hs : ∀ x ∈ bar.map fun p => (pix W p).toNat, x ∈ List.range 64 := fun x hx => by
    obtain ⟨p, hp, rfl⟩ := List.mem_map.1 hx
    obtain ⟨q1, q2⟩ := pix_lt h1 (h5 p hp)
    have : W * H ≤ 8 * 8 := Int.mul_le_mul h3 h4 (by omega) (by omega)
    exact List.mem_range.2 (by omega)
  have := key.length_le_of_subset hs
  simpa using this

/-! ### Orders -/

def ordP (way : List Int) : Prop := ∀ i, i < way.length → 0 ≤ way.getD i 0 ∧ way.getD i 0 < way.length ∧ way.getD i 0 ∉ way.take i
def isOrd (way : List Int) : Prop := ∀ i : Nat, i < way.length → (i : Int) ∈ way

theorem ord_iff (way : List Int) : ordP way ↔ isOrd way := by
  constructor
  · intro h
    have hn : way.Nodup := by
      rw [List.nodup_iff_pairwise_ne, List.pairwise_iff_getElem]
      intro i j hi hj hij e
      obtain ⟨_, _, h3⟩ := h j hj
      refine h3 ?_
      rw [List.getD_eq_getElem?_getD, List.getElem?_eq_getElem hj, Option.getD_some, ← e]
      exact List.mem_take_iff_getElem.2 ⟨i, by omega, rfl⟩
    intro i hi
    refine Classical.byContradiction fun hno => ?_
    have hsub : ∀ x ∈ way, x ∈ ((List.range way.length).map fun k : Nat => (k : Int)).filter fun x => decide (x ≠ (i : Int)) := fun x hx => by
      obtain ⟨j, hj⟩ := List.getElem?_of_mem hx
      have hjl := (List.getElem?_eq_some_iff.1 hj).1
      obtain ⟨h1, h2, _⟩ := h j hjl
      rw [List.getD_eq_getElem?_getD, hj, Option.getD_some] at h1 h2
      refine List.mem_filter.2 ⟨List.mem_map.2 ⟨x.toNat, List.mem_range.2 (by omega), by omega⟩, by simp only [decide_eq_true_eq]; intro e; rw [e] at hx; exact hno hx⟩
    have h1 := hn.length_le_of_subset hsub
    have h2 : (((List.range way.length).map fun k : Nat => (k : Int)).filter fun x => decide (x ≠ (i : Int))).length < way.length := by
      have : (((List.range way.length).map fun k : Nat => (k : Int)).filter fun x => decide (x ≠ (i : Int))).length < ((List.range way.length).map fun k : Nat => (k : Int)).length :=
        List.length_filter_lt_length_iff_exists.2 ⟨(i : Int), List.mem_map.2 ⟨i, List.mem_range.2 hi, rfl⟩, by simp⟩
      simpa using this
    omega
  · intro h
    -- all of 0 .. n-1 are there: each once
    have hsub : ∀ x ∈ (List.range way.length).map (fun k : Nat => (k : Int)), x ∈ way := fun x hx => by
      obtain ⟨i, hi, rfl⟩ := List.mem_map.1 hx
      exact h i (List.mem_range.1 hi)
    have hr : ((List.range way.length).map fun k : Nat => (k : Int)).Nodup := by
      rw [List.nodup_iff_pairwise_ne, List.pairwise_map]
      exact (List.nodup_iff_pairwise_ne.1 List.nodup_range).imp fun hab e => hab (by omega)
    intro i hi
    have hgi : way[i]? = some (way.getD i 0) := by rw [List.getD_eq_getElem?_getD, List.getElem?_eq_getElem hi, Option.getD_some]
    -- strike place i: what is left holds at most n - 1
    have strike : way.getD i 0 ∈ way.take i ∨ ¬ (0 ≤ way.getD i 0 ∧ way.getD i 0 < way.length) → False := fun hbad => by
      have hsub2 : ∀ x ∈ (List.range way.length).map (fun k : Nat => (k : Int)), x ∈ way.eraseIdx i := fun x hx => by
        have hx' := hx
        obtain ⟨k, hk, rfl⟩ := List.mem_map.1 hx'
        have hkl := List.mem_range.1 hk
        obtain ⟨j, hj⟩ := List.getElem?_of_mem (hsub _ hx)
        have hjl := (List.getElem?_eq_some_iff.1 hj).1
        by_cases hji : j = i
        · subst hji
          rw [hgi] at hj
          have hj := Option.some.inj hj
          rcases hbad with hb | hb
          · rw [hj] at hb
            obtain ⟨m, hm, e⟩ := List.mem_take_iff_getElem.1 hb
            exact List.mem_eraseIdx_iff_getElem?.2 ⟨m, by omega, by rw [List.getElem?_eq_getElem (by omega), e]⟩
          · rw [hj] at hb
            exact absurd ⟨by omega, by omega⟩ hb
        · exact List.mem_eraseIdx_iff_getElem?.2 ⟨j, hji, hj⟩
      have h1 := hr.length_le_of_subset hsub2
      rw [List.length_eraseIdx_of_lt hi] at h1
      simp only [List.length_map, List.length_range] at h1
      omega
    refine ⟨?_, ?_, fun hm => strike (.inl hm)⟩
    · exact Classical.byContradiction fun hn => strike (.inr fun h => hn h.1)
    · exact Classical.byContradiction fun hn => strike (.inr fun h => hn h.2)
end Fer

/- The search does not look at by how many steps the first family was found. Plain. -/
namespace Fer

def SSt.nf (s : SSt) : SSt := ⟨s.steps, s.n, s.first, 0⟩

section
variable {α : Type} {blk : α → Pt → Bool} {add : α → Pt → α} {E : SEnv}

theorem nf_iff {s t : SSt} : s.nf = t.nf ↔ s.steps = t.steps ∧ s.n = t.n ∧ s.first = t.first := by
  obtain ⟨a, b, c, d⟩ := s
  obtain ⟨a', b', c', d'⟩ := t
  simp [SSt.nf]
theorem nf_tick {s t : SSt} (h : s.nf = t.nf) : s.tick.nf = t.tick.nf := by
  rw [nf_iff] at *
  exact ⟨by show s.steps + 1 = t.steps + 1; rw [h.1], h.2.1, h.2.2⟩
theorem nf_hit {s t : SSt} (now : List ByteArray) (h : s.nf = t.nf) : (s.hit now).nf = (t.hit now).nf := by
  rw [nf_iff] at *
  refine ⟨h.1, by show s.n + 1 = t.n + 1; rw [h.2.1], ?_⟩
  show (if s.n = 0 then now else s.first) = (if t.n = 0 then now else t.first)
  rw [h.2.1, h.2.2]

theorem srch_nf : ∀ (f : Nat) (k : Int) (p : Pt) (path : ByteArray) (a : α) (now : List ByteArray) (s t : SSt), s.nf = t.nf →
    (srch blk add E f k p path a now s).1 = (srch blk add E f k p path a now t).1 ∧ (srch blk add E f k p path a now s).2.nf = (srch blk add E f k p path a now t).2.nf
  | 0, _, _, _, _, _, _, _, h => ⟨rfl, h⟩
  | f + 1, k, p, path, a, now, s, t, h => by
    have h1 := nf_tick h
    rw [srch_succ, srch_succ, (nf_iff.1 h).1]
    split
    · exact ⟨rfl, h⟩
    · split
      · exact ⟨rfl, h1⟩
      · split
        · unfold nxt
          split
          · exact srch_nf f (k + 1) _ _ _ _ _ _ h1
          · exact ⟨rfl, nf_hit _ h1⟩
        · have key : (if p.1 < (E.fin k).1 then srch blk add E f k (p.1 + 1, p.2) (path ++ sR) (add a p) now s.tick else (true, s.tick)).1 = (if p.1 < (E.fin k).1 then srch blk add E f k (p.1 + 1, p.2) (path ++ sR) (add a p) now t.tick else (true, t.tick)).1 ∧
              (if p.1 < (E.fin k).1 then srch blk add E f k (p.1 + 1, p.2) (path ++ sR) (add a p) now s.tick else (true, s.tick)).2.nf = (if p.1 < (E.fin k).1 then srch blk add E f k (p.1 + 1, p.2) (path ++ sR) (add a p) now t.tick else (true, t.tick)).2.nf := by
            split
            · exact srch_nf f k _ _ _ _ _ _ h1
            · exact ⟨rfl, h1⟩
          generalize (if p.1 < (E.fin k).1 then srch blk add E f k (p.1 + 1, p.2) (path ++ sR) (add a p) now s.tick else (true, s.tick)) = r at key
          generalize (if p.1 < (E.fin k).1 then srch blk add E f k (p.1 + 1, p.2) (path ++ sR) (add a p) now t.tick else (true, t.tick)) = r' at key
          simp only
          rw [key.1]
          split
          · exact srch_nf f k _ _ _ _ _ _ key.2
          · exact key

theorem srch_inv0 (f : Nat) (k : Int) (p : Pt) (path : ByteArray) (a : α) (now : List ByteArray) {steps n : Int} (first : List ByteArray) (h0 : 0 ≤ n) (h1 : n ≤ steps) (h2 : steps ≤ E.lim) :
    0 ≤ (srch blk add E f k p path a now ⟨steps, n, first, 0⟩).2.n ∧ (srch blk add E f k p path a now ⟨steps, n, first, 0⟩).2.n ≤ (srch blk add E f k p path a now ⟨steps, n, first, 0⟩).2.steps ∧
    ((srch blk add E f k p path a now ⟨steps, n, first, 0⟩).1 = true → (srch blk add E f k p path a now ⟨steps, n, first, 0⟩).2.steps ≤ E.lim) := by
  obtain ⟨e1, e2⟩ := srch_nf (blk := blk) (add := add) (E := E) f k p path a now ⟨steps, n, first, 0⟩ ⟨steps, n, first, if n = 0 then 0 else 1⟩ rfl
  obtain ⟨i1, _, i3⟩ := srch_inv (blk := blk) (add := add) (E := E) f k p path a now ⟨steps, n, first, if n = 0 then 0 else 1⟩ ⟨h0, h1, by show steps ≤ E.lim + 1; omega, by
    by_cases h : n = 0
    · exact .inl ⟨h, if_pos h⟩
    · refine .inr ⟨by show 0 < n; omega, ?_⟩
      show 0 < if n = 0 then (0 : Int) else 1
      rw [if_neg h]; omega⟩ h2
  rw [nf_iff] at e2
  rw [e1, e2.1, e2.2.1]
  exact ⟨i1.n0, i1.ns, i3⟩

/-- Right, then up. -/
def st4 (blk : α → Pt → Bool) (add : α → Pt → α) (E : SEnv) (f : Nat) (k : Int) (p : Pt) (path : ByteArray) (a : α) (now : List ByteArray) (st : SSt) : Bool × SSt :=
  let r := if p.1 < (E.fin k).1 then srch blk add E f k (p.1 + 1, p.2) (path ++ sR) (add a p) now st.tick else (true, st.tick)
  if r.1 = true ∧ p.2 < (E.fin k).2 then srch blk add E f k (p.1, p.2 + 1) (path ++ sU) (add a p) now r.2 else r
variable {f : Nat} {k : Int} {p : Pt} {path : ByteArray} {a : α} {now : List ByteArray} {st : SSt}
theorem st4_A {r : Bool × SSt} (hr : srch blk add E f k (p.1 + 1, p.2) (path ++ sR) (add a p) now st.tick = r) (hx : p.1 < (E.fin k).1) (h1 : r.1 = true) (hy : p.2 < (E.fin k).2) :
    (srch blk add E f k (p.1, p.2 + 1) (path ++ sU) (add a p) now ⟨r.2.steps, r.2.n, r.2.first, 0⟩).1 = (st4 blk add E f k p path a now st).1 ∧
    (srch blk add E f k (p.1, p.2 + 1) (path ++ sU) (add a p) now ⟨r.2.steps, r.2.n, r.2.first, 0⟩).2.nf = (st4 blk add E f k p path a now st).2.nf := by
  unfold st4
  rw [if_pos hx, hr]
  simp only
  rw [if_pos ⟨h1, hy⟩]
  exact srch_nf _ _ _ _ _ _ _ _ rfl
theorem st4_A0 (hx : p.1 < (E.fin k).1) (h1 : (srch blk add E f k (p.1 + 1, p.2) (path ++ sR) (add a p) now st.tick).1 = true) (hy : p.2 < (E.fin k).2) :
    st4 blk add E f k p path a now st = srch blk add E f k (p.1, p.2 + 1) (path ++ sU) (add a p) now (srch blk add E f k (p.1 + 1, p.2) (path ++ sR) (add a p) now st.tick).2 := by
  unfold st4
  rw [if_pos hx]
  simp only
  rw [if_pos ⟨h1, hy⟩]
theorem st4_B (hx : p.1 < (E.fin k).1) (h1 : ¬ ((srch blk add E f k (p.1 + 1, p.2) (path ++ sR) (add a p) now st.tick).1 = true ∧ p.2 < (E.fin k).2)) :
    st4 blk add E f k p path a now st = srch blk add E f k (p.1 + 1, p.2) (path ++ sR) (add a p) now st.tick := by
  unfold st4
  rw [if_pos hx]
  simp only
  rw [if_neg h1]
theorem st4_C (hx : ¬ p.1 < (E.fin k).1) (hy : p.2 < (E.fin k).2) : st4 blk add E f k p path a now st = srch blk add E f k (p.1, p.2 + 1) (path ++ sU) (add a p) now st.tick := by
  unfold st4
  rw [if_neg hx]
  simp only
  rw [if_pos ⟨trivial, hy⟩]
theorem st4_D (hx : ¬ p.1 < (E.fin k).1) (hy : ¬ p.2 < (E.fin k).2) : st4 blk add E f k p path a now st = (true, st.tick) := by
  unfold st4
  rw [if_neg hx]
  simp only
  rw [if_neg fun h => hy h.2]
end
end Fer
