/- State-level: new memory. Over any program. -/
import Derived.Test.YtbahdhedegpbbaaFerN
namespace Fer
open Go

def Ty.lev : Ty → Nat
  | .list _ t => t.lev + 1
  | .prod a b => max a.lev b.lev
  | _ => 0

def CT.zero : Ty → CT
  | .list _ _ => .nil
  | .prod a b => .pair (CT.zero a) (CT.zero b)
  | _ => .leaf

section
variable {P : Program} {tt : List (Nat × TE)} {w0 : World} {S0 : Nat → Prop} {N : Nat} {dr : Bool} {pc : Pins} {s : XS} {a : Act} {w w' : World} {S : Nat → Prop} {pl : Nat → PL}

theorem zeroB_slice {e : Nat} {t : Ty} {cs : List Value} (h : zeroB (.list e t) cs = true) : cs = [.slice none 0 0] := by
  unfold zeroB at h
  split at h <;> first | rfl | (simp_all; done) | skip
  all_goals simp at *

theorem zero_own : ∀ (t : Ty) (k : Nat) (cs : List Value), zeroB t cs = true → 0 < k → Own w S t k t.dflt none (CT.zero t) cs noF
  | .list e t, k, cs, h, hk => by
    obtain ⟨k, rfl⟩ : ∃ k', k = k' + 1 := ⟨k - 1, by omega⟩
    rw [zeroB_slice h]; exact own_nil
  | .prod a b, k, cs, h, hk => by
    simp only [zeroB, Bool.and_eq_true] at h
    exact .inr ⟨by simp, _, _, noF, noF, (List.take_append_drop a.width cs).symm, by simp [noF], by simp [noF], zero_own a k _ h.1 hk, zero_own b k _ h.2 hk⟩
  | .int _, k, cs, h, _ => (zeroB_ok w S _ cs h).own (.inl rfl)
  | .bool, k, cs, h, _ => (zeroB_ok w S _ cs h).own (.inl rfl)
  | .str, k, cs, h, _ => (zeroB_ok w S _ cs h).own (.inl rfl)
  | .raw, k, cs, h, _ => (zeroB_ok w S _ cs h).own (.inl rfl)

theorem flat_lev : ∀ {t : Ty}, t.lev = 0 → t.flat = true
  | .int _, _ | .bool, _ | .str, _ | .raw, _ => rfl
  | .list _ _, h => by simp [Ty.lev] at h
  | .prod a b, h => by
    simp only [Ty.lev] at h
    have h1 : a.lev = 0 := by omega
    have h2 : b.lev = 0 := by omega
    simp [Ty.flat, flat_lev h1, flat_lev h2]

theorem zero_own' (t : Ty) (cs : List Value) (h : zeroB t cs = true) : ∃ ct, Own w S t t.lev t.dflt none ct cs noF := by
  by_cases hk : 0 < t.lev
  · exact ⟨_, zero_own t _ cs h hk⟩
  · exact ⟨_, (zeroB_ok w S t cs h).own (.inl (flat_lev (by omega)))⟩

/-- A new block with a list in it. -/
theorem RelAt.newRow (R : RelAt w0 S0 N dr pc s a w S pl) {E : Nat} {t : Ty} {k : Nat} {l : List t.den} {cells : Array Value} {cap : Nat} {kids : Nat → CT} {Fs : Nat → Nat → Prop}
    (hs : cells.size = cap * t.width) (hl : l.length ≤ cap) (hc : cap ≤ maxLen)
    (hel : ∀ i, i < l.length → Own w S t k (l.getD i t.dflt) none (kids i) (cellsAt cells (i * t.width) t.width) (Fs i))
    (hd : ∀ i j n, i < l.length → j < l.length → Fs i n → Fs j n → i = j)
    (hF : ∀ i n, i < l.length → Fs i n → n < w.heap.size ∧ ¬ S n ∧ (∀ r2 rt2, s.root r2 = some rt2 → ¬ (pl r2).F n) ∧ (dr = true → ∀ i, pc i n → (i, some s.nxt) ∈ s.pins)) :
    ∃ pl', RelAt w0 S0 N dr pc (s.addRoot ⟨E, t, k, l, none⟩) a (w.alloc (.cells cells E)) S pl' ∧
      AVR (w.alloc (.cells cells E)) S (s.addRoot ⟨E, t, k, l, none⟩).rts pl' (.ref s.nxt []) (.slice (some ⟨w.heap.size, 0, none⟩) l.length cap) ∧
      AVR (w.alloc (.cells cells E)) S (s.addRoot ⟨E, t, k, l, none⟩).rts pl' (.ptr s.nxt [0]) (.pointer (some ⟨w.heap.size, 0, none⟩)) := by
  have g := Grew.alloc w cells E
  have hfr : ∀ n, S n → S n ∧ (w.alloc (.cells cells E)).heap[n]? = w.heap[n]? := fun n hn => ⟨hn, g.old n (R.lt n hn)⟩
  have H := own_row (w := w.alloc (.cells cells E)) (S := S) (e := E) (t := t) (k := k) (l := l) (b := w.heap.size) (cap := cap) (arr := cells) (kids := kids) (Fs := Fs) (heap_alloc_new w _) hs hl hc
    (fun i hi => (hel i hi).frame hfr fun n hn => g.old n (hF i n hi hn).1) (fun i hi h => absurd (hF i _ hi h).1 (Nat.lt_irrefl _)) hd
  refine ⟨_, R.addRoot g (rt := ⟨E, t, k, l, none⟩) H (fun n hn => ?_), ?_, ?_⟩
  · rcases hn with rfl | ⟨i, hi, hn⟩
    · exact ⟨by simp, .inl (Nat.le_refl _)⟩
    · obtain ⟨g1, g2, g3, g4⟩ := hF i n hi hn
      exact ⟨Nat.lt_of_lt_of_le g1 g.size, .inr ⟨g2, g3, g4⟩⟩
  · intro rt2 hrt2
    have : rt2 = ⟨E, t, k, l, none⟩ := by
      simp only [XS.addRoot, lk, if_true, Option.some.injEq] at hrt2; exact hrt2.symm
    subst this
    simp [RT.at, TV.len, RT.ty, atCT, hdr]
  · intro rt2 hrt2
    have : rt2 = ⟨E, t, k, l, none⟩ := by
      simp only [XS.addRoot, lk, if_true, Option.some.injEq] at hrt2; exact hrt2.symm
    subst this
    simp [addrP, RT.ty, addrOf]

theorem run_alloc {T : Nat} {inf : TypeInfo} {z : Value} (hi : P.info? T = some inf) (hz : inf.zero = some z) :
    (Instr.alloc T true (.tuple #[])).run P w = .ok (.pointer (some ⟨w.heap.size, 0, none⟩)) (w.alloc (.cells z.cells T)) := by
  simp [Instr.alloc, zeroValue, typeInfo, hi, hz, newVar, newRow]

theorem run_box {T : Nat} {v : Value} : (Instr.box T v).run P w = .ok (.pointer (some ⟨w.heap.size, 0, none⟩)) (w.alloc (.cells v.cells T)) := by
  simp [Instr.box, newVar, newRow]

def alAV (tt : List (Nat × TE)) (s : XS) (T : Nat) : Option MF :=
  match lk tt T with
  | some (.arr n _ t) => if n ≤ 9223372036854775807 then some ⟨True, True, .ptr s.nxt [0], s.addRoot ⟨T, t, t.lev, List.replicate n t.dflt, none⟩, []⟩ else none
  | some te => match te.ty with
    | some t => some ⟨True, True, .ptr s.nxt [0], s.addRoot ⟨T, t, t.lev, [t.dflt], none⟩, []⟩
    | none => none
  | none => none

theorem te_zero {T : Nat} {te : TE} {t : Ty} (h : teB P T te = true) (ht : te.ty = some t) : infoB P T t = true := by
  cases te with
  | basic t' =>
    simp only [TE.ty, Option.some.injEq] at ht; subst ht
    simp only [teB, Bool.and_eq_true] at h
    exact h.1.1.1
  | slice e t' b =>
    simp only [TE.ty, Option.some.injEq] at ht; subst ht
    simp only [teB, Bool.and_eq_true] at h
    exact h.2
  | arr n e t' => simp [TE.ty] at ht
  | struct ts =>
    simp only [teB, Bool.and_eq_true, decide_eq_true_eq] at h
    simp only [TE.ty, h.1.1, if_true, Option.some.injEq] at ht
    subst ht
    exact h.2
  | pair e t' =>
    simp only [TE.ty, Option.some.injEq] at ht; subst ht
    exact (pair_te h).2.2.2

theorem infoB_z {T : Nat} {t : Ty} (h : infoB P T t = true) : ∃ inf z, P.info? T = some inf ∧ inf.size = t.width ∧ inf.zero = some z ∧ z.cells.toList.length = t.width ∧ zeroB t z.cells.toList = true := by
  unfold infoB at h
  split at h
  · rename_i inf hinf
    split at h
    · rename_i z hz
      simp only [Bool.and_eq_true, beq_iff_eq] at h
      exact ⟨inf, z, hinf, h.1, hz, h.2.1, h.2.2⟩
    · simp at h
  · cases h

theorem alAV_ok (htt : ttB P tt = true) (R : RelAt w0 S0 N dr pc s a w S pl) {T : Nat} {mf : MF} (h : alAV tt s T = some mf) :
    MFok w0 S0 N dr pc s a w pl mf ((Instr.alloc T true (.tuple #[])).run P w) := by
  unfold alAV at h
  split at h
  · rename_i n e t hte
    split at h
    · rename_i hn
      cases h
      have hB := ttB_get htt hte
      simp only [teB, Bool.and_eq_true] at hB
      obtain ⟨⟨⟨h1, h2⟩, h3⟩, h4⟩ := hB
      split at h4
      · rename_i inf hinf
        split at h4
        · rename_i z hz
          simp only [Bool.and_eq_true, beq_iff_eq, List.all_eq_true, List.mem_range] at h4
          obtain ⟨h5, h6, h7⟩ := h4
          have hel : ∀ i, i < n → ∃ ct, Own w S t t.lev t.dflt none ct (cellsAt z.cells (i * t.width) t.width) noF := fun i hi => zero_own' t _ (h7 i hi)
          have hel' : ∀ i, ∃ ct, i < n → Own w S t t.lev t.dflt none ct (cellsAt z.cells (i * t.width) t.width) noF := fun i => by
            by_cases hi : i < n
            · obtain ⟨c, hc⟩ := hel i hi; exact ⟨c, fun _ => hc⟩
            · exact ⟨.leaf, fun h => absurd h hi⟩
          obtain ⟨pl', R', _, r2⟩ := R.newRow (E := T) (t := t) (k := t.lev) (l := List.replicate n t.dflt) (cells := z.cells) (cap := n) (kids := fun i => (hel' i).choose) (Fs := fun _ => noF) h6 (by simp) (by simpa [maxLen] using hn)
            (fun i hi => by
              have hi' : i < n := by simpa using hi
              have e1 : (List.replicate n t.dflt).getD i t.dflt = t.dflt := by simp [List.getD_eq_getElem?_getD, hi']
              rw [e1]; exact (hel' i).choose_spec hi') (fun _ _ _ _ _ h => h.elim) (fun _ _ _ h => h.elim)
          exact ⟨_, _, S, pl', run_alloc hinf hz, R', r2, AV.lt_ptr (Nat.lt_succ_self _), trivial, fun n hn _ => (Grew.alloc w _ _).old n hn⟩
        · simp at h4
      · cases h4
    · cases h
  · rename_i te hna hte
    split at h
    · rename_i t ht
      cases h
      obtain ⟨inf, z, hi, hsz, hz, hzl, hzb⟩ := infoB_z (te_zero (ttB_get htt hte) ht)
      obtain ⟨ct, hct⟩ := zero_own' (w := w) (S := S) t _ hzb
      have hck : cellsAt z.cells 0 t.width = z.cells.toList := by
        simp only [cellsAt, List.drop_zero]; exact List.take_of_length_le (by rw [hzl]; exact Nat.le_refl _)
      obtain ⟨pl', R', _, r2⟩ := R.newRow (E := T) (t := t) (k := t.lev) (l := [t.dflt]) (cells := z.cells) (cap := 1) (kids := fun _ => ct) (Fs := fun _ => noF) (by rw [Nat.one_mul, ← hzl]; rfl) (by simp) (by simp [maxLen])
        (fun i hi => by
          have hi' : i = 0 := by simpa using hi
          subst hi'
          rw [Nat.zero_mul, hck]; exact hct) (fun _ _ _ _ _ h => h.elim) (fun _ _ _ h => h.elim)
      exact ⟨_, _, S, pl', run_alloc hi hz, R', r2, AV.lt_ptr (Nat.lt_succ_self _), trivial, fun n hn _ => (Grew.alloc w _ _).old n hn⟩
    · cases h
  · cases h

/-! ### make -/

def mkAV (tt : List (Nat × TE)) (s : XS) (T : Nat) (l c : Option AV) : Option MF :=
  match lk tt T, l, c with
  | some (.slice e t b), some (.dat (.int _) n), some (.dat (.int _) m) =>
    some ⟨0 ≤ n ∧ n ≤ m ∧ (b : Int) * m ≤ 281474976710656 ∧ m ≤ 9223372036854775807, True, .ref s.nxt [], s.addRoot ⟨e, t, t.lev, List.replicate n.toNat t.dflt, none⟩, []⟩
  | _, _, _ => none

theorem made_chunk {z : Array Value} {n i m : Nat} (hz : z.toList.length = n) (hi : i < m) : cellsAt (madeCells z (m * n)) (i * n) n = z.toList := by
  have hzs : z.size = n := hz
  apply List.ext_getElem?
  intro j
  simp only [cellsAt, List.getElem?_take, List.getElem?_drop]
  by_cases hj : j < n
  · rw [if_pos hj]
    have hlt : i * n + j < m * n := by have := mul_fit (w := n) hi (Nat.le_refl m); omega
    have hmod : (i * n + j) % n = j := by rw [Nat.add_comm, Nat.add_mul_mod_self_right, Nat.mod_eq_of_lt hj]
    simp only [madeCells, Array.getElem?_toList, Array.getElem?_map, Array.getElem?_range, hlt, if_true, Option.map_some, hzs, hmod]
    rw [getElem!_pos z j (by omega)]
    rw [Array.getElem?_eq_getElem (by omega)]
  · rw [if_neg hj, List.getElem?_eq_none (by omega)]

theorem mkAV_ok (htt : ttB P tt = true) (R : RelAt w0 S0 N dr pc s a w S pl) {T : Nat} {l c : Option AV} {vl vc : Value} {mf : MF} (hl : ∀ u, l = some u → AVR w S s.rts pl u vl) (hc : ∀ u, c = some u → AVR w S s.rts pl u vc)
    (h : mkAV tt s T l c = some mf) (hpre : mf.pre) : MFok w0 S0 N dr pc s a w pl mf ((Instr.makeSlice T vl vc).run P w) := by
  unfold mkAV at h
  split at h
  · rename_i e t b k1 n k2 m hte
    cases h
    change Int at n
    change Int at m
    obtain ⟨p1, p2, p3, p4⟩ : (0 : Int) ≤ n ∧ n ≤ m ∧ (b : Int) * m ≤ 281474976710656 ∧ m ≤ 9223372036854775807 := hpre
    have e1 := AVR.int (hl _ rfl)
    have e2 := AVR.int (hc _ rfl)
    subst e1 e2
    have hB := ttB_get htt hte
    obtain ⟨hT, _, ⟨inf, hi, hsz, hby⟩, _, _⟩ := slice_te hB
    simp only [teB, Bool.and_eq_true] at hB
    obtain ⟨inf', z, hi', _, hz, hzl, hzb⟩ := infoB_z hB.1.1.1.1
    rw [hi] at hi'; cases hi'
    have hr := run_make (P := P) w T e inf z hT hi hz k1 k2 n m p1 p2 (by rw [hby]; exact p3) p4
    obtain ⟨ct, hct⟩ := zero_own' (w := w) (S := S) t _ hzb
    obtain ⟨pl', R', r1, _⟩ := R.newRow (E := e) (t := t) (k := t.lev) (l := List.replicate n.toNat t.dflt) (cells := madeCells z.cells (m.toNat * inf.size)) (cap := m.toNat) (kids := fun _ => ct) (Fs := fun _ => noF)
      (by rw [size_madeCells, hsz]) (by simp; omega) (by simp only [maxLen]; omega)
      (fun i hi => by
        have hi' : i < n.toNat := by simpa using hi
        have e1 : (List.replicate n.toNat t.dflt).getD i t.dflt = t.dflt := by simp [List.getD_eq_getElem?_getD, hi']
        rw [e1, hsz, made_chunk hzl (by omega)]; exact hct) (fun _ _ _ _ _ h => h.elim) (fun _ _ _ h => h.elim)
    refine ⟨_, _, S, pl', hr, R', ?_, AV.lt_ref (Nat.lt_succ_self _), trivial, fun n hn _ => (Grew.alloc w _ _).old n hn⟩
    have : (List.replicate n.toNat t.dflt).length = n.toNat := by simp
    rw [this] at r1
    exact r1
  · cases h

/-! ### Slice literals -/

def castV (t t' : Ty) (v : t.den) : Option t'.den := if h : t = t' then some (h ▸ v) else none
@[simp] theorem castV_self (t : Ty) (v : t.den) : castV t t v = some v := by simp [castV]
theorem castV_eq {t t' : Ty} {v : t.den} {v' : t'.den} (h : castV t t' v = some v') : ∃ e : t = t', v' = e ▸ v := by
  unfold castV at h; split at h
  · rename_i e; cases h; exact ⟨e, rfl⟩
  · cases h

def datOf (t : Ty) : AV → Option t.den
  | .dat t' v => match t', v with
    | .raw, u => match t, u with
      | .list _ _, .slice none 0 0 => some []
      | _, _ => none
    | t', v => castV t' t v
  | _ => none

def datsOf (s : XS) (t : Ty) : Nat → List (Nat × Operand) → Option (List t.den)
  | _, [] => some []
  | n, (i, x) :: l => if i = n then opt2 (fun u m => (datOf t u).map (· :: m)) (s.ev x) (datsOf s t (n + 1) l) else none

end
end Fer
