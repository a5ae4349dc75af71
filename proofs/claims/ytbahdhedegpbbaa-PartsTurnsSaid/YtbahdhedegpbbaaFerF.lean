/- Operations that look at no memory: what they come to, and that they do. Over any program. -/
import Derived.Test.YtbahdhedegpbbaaFerE
import Derived.WalkKit
namespace Fer
open Go

structure PF where
  pre : Prop
  fact : Prop
  av : AV

def PF.of (c : Prop) (av : AV) : PF := ⟨c, True, av⟩
def PR.pf (r : PR) : PF := ⟨r.pre, True, r.av⟩

def idxRO (te : Option TE) (e : Nat) (t : Ty) (l : List t.den) (i : Int) : Option PF :=
  match te with
  | some (.slice e' t' _) => if e = e' ∧ t = t' then some (PF.of (0 ≤ i ∧ i < l.length) (.rptr t (l.getD i.toNat t.dflt))) else none
  | _ => none

def idxRef (te : Option TE) (rt : Option RT) (r : Nat) (p : List Nat) (i : Int) : Option PF :=
  match te, rt with
  | some (.slice e t _), some rt =>
    if (rt.at p).t = .list e t ∧ hclear p rt.h = true then
      some (PF.of (0 ≤ i ∧ i < (rt.at p).len ∧ okS p rt.ty rt.x (rt.k + 1) ∧ 0 < dep p rt.ty (rt.k + 1)) (.ptr r (p ++ [i.toNat])))
    else none
  | _, _ => none

def idxSub (te : Option TE) (rt : Option RT) (r : Nat) (p : List Nat) (lo hi : Nat) (i : Int) : Option PF :=
  match te, rt with
  | some (.slice e t _), some rt =>
    if (rt.at p).t = .list e t ∧ hclear p rt.h = true then
      some (PF.of (0 ≤ i ∧ i < ((hi - lo : Nat) : Int) ∧ okS p rt.ty rt.x (rt.k + 1) ∧ 0 < dep p rt.ty (rt.k + 1)) (.ptr r (p ++ [lo + i.toNat])))
    else none
  | _, _ => none

def idxArr (T : Nat) (te : Option TE) (rt : Option RT) (r : Nat) (i : Int) : Option PF :=
  match te, rt with
  | some (.arr n _ t), some rt =>
    if rt.e = T ∧ rt.t = t ∧ hclear [] rt.h = true then some (PF.of (0 ≤ i ∧ i < (n : Int) ∧ i.toNat < rt.x.length) (.ptr r [i.toNat])) else none
  | _, _ => none

/-- A part of a pair. -/
def idxPair (t : Ty) (s : XS) (x : AV) (i : Int) : Option PF :=
  match x with
  | .rptr (.prod a b) v => if a = t ∧ b = t then (if i = 0 then some (PF.of True (.rptr a v.1)) else if i = 1 then some (PF.of True (.rptr b v.2)) else none) else none
  | .ptr r (j :: p) => match s.root r with
    | some rt => if (rt.at (j :: p)).t = .prod t t ∧ hclear (j :: p) rt.h = true then
        (if i = 0 then some (PF.of (okS (j :: p) rt.ty rt.x (rt.k + 1)) (.ptr r (j :: p ++ [0]))) else if i = 1 then some (PF.of (okS (j :: p) rt.ty rt.x (rt.k + 1)) (.ptr r (j :: p ++ [1]))) else none) else none
    | none => none
  | _ => none

def idxAV (tt : List (Nat × TE)) (s : XS) (T : Nat) (x ix : AV) : Option PF :=
  match ix with
  | .dat (.int _) i =>
    match lk tt T with
    | some (.pair _ t) => idxPair t s x i
    | _ =>
    match x with
    | .dat (.list e t) l => idxRO (lk tt T) e t l i
    | .ref r p => idxRef (lk tt T) (s.root r) r p i
    | .sub r p lo hi => idxSub (lk tt T) (s.root r) r p lo hi i
    | .ptr r [0] => idxArr T (lk tt T) (s.root r) r i
    | _ => none
  | _ => none

section
variable {P : Program} {tt : List (Nat × TE)} {w0 : World} {S0 : Nat → Prop} {N : Nat} {dr : Bool} {pc : Pins} {s : XS} {a : Act} {w : World} {S : Nat → Prop} {pl : Nat → PL}

theorem add_block (b o n : Nat) : (⟨b, o, none⟩ : Addr).add n = ⟨b, o + n, none⟩ := by
  unfold Addr.add; split <;> simp_all

/-- The node that an owned root has at a path. -/
theorem RelAt.node (R : RelAt w0 S0 N dr pc s a w S pl) {r : Nat} {rt : RT} (hr : s.root r = some rt) {p : List Nat} (hok : okS p rt.ty rt.x (rt.k + 1)) (hc : hclear p rt.h = true)
    {e : Nat} {t : Ty} (ht : (rt.at p).t = .list e t) (hd : 0 < dep p rt.ty (rt.k + 1)) :
    (rt.at p).len ≤ maxLen ∧ ((rt.at p).len = 0 ∨ ∃ b cap kids, atCT p rt.ty (pl r).ct = .node b cap kids ∧ (pl r).F b ∧ (rt.at p).len ≤ cap ∧
      ∃ arr, w.heap[b]? = some (.cells arr e (0, 0)) ∧ arr.size = cap * t.width) := by
  obtain ⟨hv, H⟩ := R.own r rt hr
  have main : ∃ cs' F' h', Own w S (rt.at p).t (dep p rt.ty (rt.k + 1)) (rt.at p).x h' (atCT p rt.ty (pl r).ct) cs' F' ∧ (∀ n, F' n → (pl r).F n) ∧ h' ≠ some [] := by
    cases p with
    | nil =>
      refine ⟨[hv], (pl r).F, rt.h, H, fun _ h => h, ?_⟩
      intro e; rw [e] at hc; simp [hclear] at hc
    | cons i p =>
      obtain ⟨cs', F', h', _, e2, e3, e4, _⟩ := nodeAt (i :: p) rt.ty (rt.k + 1) rt.x rt.h (pl r).ct [hv] (pl r).F 0 0 H hok hc (.inl ⟨_, _, _, _, rfl, rfl⟩)
      exact ⟨cs', F', h', e2, e3, e4⟩
  obtain ⟨cs', F', h', H', hF, hh⟩ := main
  generalize rt.at p = tv at *
  obtain ⟨tt', x⟩ := tv
  subst ht
  obtain ⟨k, hk⟩ : ∃ k, dep p rt.ty (rt.k + 1) = k + 1 := ⟨_, (Nat.succ_pred_eq_of_pos hd).symm⟩
  rw [hk] at H'
  rcases H' with H' | ⟨_, H'⟩
  · exact absurd H'.1 hh
  · generalize atCT p rt.ty (pl r).ct = c at *
    cases c with
    | nil => obtain ⟨rfl, _⟩ := H'; exact ⟨Nat.zero_le _, .inl rfl⟩
    | leaf => exact H'.elim
    | pair => exact H'.elim
    | node b cap kids =>
      obtain ⟨h1, h2, h3, arr, h4, h5, Fs, g1, g2, g3, g4⟩ := H'
      exact ⟨Nat.le_trans h2 h3, .inr ⟨b, cap, kids, rfl, hF b ((g1 b).2 (.inl rfl)), h2, arr, h4, h5⟩⟩

theorem addr_snoc : ∀ (p : List Nat) (t : Ty) (x : t.den) (ct : CT) (base : Nat × Nat) (i b cap : Nat) (kids : Nat → CT) (e : Nat) (t' : Ty),
    atCT p t ct = .node b cap kids → (getS p t x).t = .list e t' → addrOf (p ++ [i]) t ct base = (b, i * t'.width)
  | [], t, x, ct, base, i, b, cap, kids, e, t', h, ht => by
    simp only [getS] at ht; subst ht
    simp only [atCT] at h; subst h
    rfl
  | j :: p, .list e0 t, x, ct, base, i, b, cap, kids, e, t', h, ht => by
    cases ct with
    | node b0 cap0 kids0 => exact addr_snoc p t _ _ _ i b cap kids e t' h ht
    | leaf => simp [atCT] at h
    | nil => simp [atCT] at h
    | pair => simp [atCT] at h
  | 0 :: p, .prod u v, x, ct, base, i, b, cap, kids, e, t', h, ht => by
    cases ct with
    | pair c d => exact addr_snoc p u _ _ _ i b cap kids e t' h ht
    | leaf => simp [atCT] at h
    | nil => simp [atCT] at h
    | node => simp [atCT] at h
  | 1 :: p, .prod u v, x, ct, base, i, b, cap, kids, e, t', h, ht => by
    cases ct with
    | pair c d => exact addr_snoc p v _ _ _ i b cap kids e t' h ht
    | leaf => simp [atCT] at h
    | nil => simp [atCT] at h
    | node => simp [atCT] at h
  | (_ + 2) :: _, .prod _ _, _, _, _, _, _, _, _, _, _, h, _ => by simp [atCT] at h
  | _ :: _, .int _, _, _, _, _, _, _, _, _, _, h, _ => by simp [atCT] at h
  | _ :: _, .bool, _, _, _, _, _, _, _, _, _, h, _ => by simp [atCT] at h
  | _ :: _, .str, _, _, _, _, _, _, _, _, _, h, _ => by simp [atCT] at h
  | _ :: _, .raw, _, _, _, _, _, _, _, _, _, h, _ => by simp [atCT] at h

theorem slice_te {i e : Nat} {t : Ty} {b : Nat} (h : teB P i (.slice e t b) = true) :
    P.underlying i = some (.slice e) ∧ Info P e t ∧ (∃ inf, P.info? e = some inf ∧ inf.size = t.width ∧ inf.bytes = b) ∧ aggB P e = t.isProd ∧ Info P i (.list e t) := by
  simp only [teB, Bool.and_eq_true, beq_iff_eq] at h
  obtain ⟨⟨⟨⟨h1, h2⟩, h3⟩, h4⟩, h5⟩ := h
  refine ⟨?_, infoB_ok h1, ?_, h3, infoB_ok h5⟩
  · split at h2
    · rename_i e' he; simp at h2; subst h2; exact he
    · cases h2
  · obtain ⟨inf, z, h6, h7, _⟩ := (infoB_ok h1).info
    refine ⟨inf, h6, h7, ?_⟩
    rw [h6] at h4
    simpa using h4

theorem arr_te {i n e : Nat} {t : Ty} (h : teB P i (.arr n e t) = true) :
    P.underlying i = some (.array n e) ∧ (∃ inf, P.info? e = some inf ∧ inf.size = t.width) ∧ aggB P e = t.isProd := by
  simp only [teB, Bool.and_eq_true, beq_iff_eq] at h
  obtain ⟨⟨⟨h1, h2⟩, h3⟩, h4⟩ := h
  refine ⟨?_, ?_, h3⟩
  · split at h2
    · rename_i n' e' he; simp at h2; obtain ⟨rfl, rfl⟩ := h2; exact he
    · cases h2
  · obtain ⟨inf, z, h6, h7, _⟩ := (infoB_ok h1).info
    exact ⟨inf, h6, h7⟩

theorem pair_te {i e : Nat} {t : Ty} (h : teB P i (.pair e t) = true) :
    P.underlying i = some (.array 2 e) ∧ (∃ inf, P.info? e = some inf ∧ inf.size = t.width) ∧ t.width = 1 ∧ infoB P i (.prod t t) = true := by
  simp only [teB, Bool.and_eq_true, beq_iff_eq, decide_eq_true_eq] at h
  obtain ⟨⟨⟨⟨h1, h2⟩, h3⟩, h4⟩, h5⟩ := h
  refine ⟨?_, ?_, h4, h5⟩
  · split at h2
    · rename_i n' e' he; simp at h2; obtain ⟨rfl, rfl⟩ := h2; exact he
    · cases h2
  · obtain ⟨inf, z, h6, h7, _⟩ := (infoB_ok h1).info
    exact ⟨inf, h6, h7⟩

theorem run_indexAt_in {T e : Nat} (hT : P.underlying T = some (.slice e)) {inf : TypeInfo} (hi : P.info? e = some inf) (b o len cap : Nat) (k : IntKind) (i : Int) (h0 : 0 ≤ i) (h1 : i < len) (w' : World) :
    (Instr.indexAt T (.slice (some ⟨b, o, none⟩) len cap) (.int k i)).run P w' = .ok (.pointer (some ⟨b, o + i.toNat * inf.size, none⟩)) w' := by
  simp [Instr.indexAt, asIntOf, run_underlying hT, Go.sizeOf, typeInfo, hi, h0, h1, add_block]

theorem run_indexAt_arr {T e n : Nat} (hT : P.underlying T = some (.array n e)) {inf : TypeInfo} (hi : P.info? e = some inf) (b o : Nat) (k : IntKind) (i : Int) (h0 : 0 ≤ i) (h1 : i < n) (w' : World) :
    (Instr.indexAt T (.pointer (some ⟨b, o, none⟩)) (.int k i)).run P w' = .ok (.pointer (some ⟨b, o + i.toNat * inf.size, none⟩)) w' := by
  simp [Instr.indexAt, asIntOf, run_underlying hT, Go.sizeOf, typeInfo, hi, h0, h1, add_block, Instr.sureAddr]

/-- A pure operation's result. -/
def PFok (w : World) (S : Nat → Prop) (s : XS) (pl : Nat → PL) (pf : PF) (run : World → Result Value) : Prop :=
  pf.pre → ∃ v, (∀ w', run w' = .ok v w') ∧ AVR w S s.rts pl pf.av v ∧ pf.av.lt s.nxt ∧ pf.fact

theorem AV.lt_dat {t : Ty} {x : t.den} {n : Nat} : (AV.dat t x).lt n := fun r hr => by simp [AV.ids] at hr
theorem AV.lt_ptr {r : Nat} {p : List Nat} {n : Nat} (h : r < n) : (AV.ptr r p).lt n := fun r' hr' => by simp [AV.ids] at hr'; omega
theorem AV.lt_ref {r : Nat} {p : List Nat} {n : Nat} (h : r < n) : (AV.ref r p).lt n := fun r' hr' => by simp [AV.ids] at hr'; omega
theorem AV.lt_sub {r lo hi : Nat} {p : List Nat} {n : Nat} (h : r < n) : (AV.sub r p lo hi).lt n := fun r' hr' => by simp [AV.ids] at hr'; omega
theorem AV.lt_rptr {t : Ty} {x : t.den} {n : Nat} : (AV.rptr t x).lt n := fun r hr => by simp [AV.ids] at hr

theorem addr_snoc_prod : ∀ (p : List Nat) (t : Ty) (x : t.den) (ct : CT) (base : Nat × Nat) (a b : Ty) (c d : CT), atCT p t ct = .pair c d → (getS p t x).t = .prod a b →
    addrOf (p ++ [0]) t ct base = addrOf p t ct base ∧ addrOf (p ++ [1]) t ct base = ((addrOf p t ct base).1, (addrOf p t ct base).2 + a.width)
  | [], t, x, ct, base, a, b, c, d, h, ht => by
    simp only [getS] at ht; subst ht
    simp only [atCT] at h; subst h
    exact ⟨rfl, rfl⟩
  | j :: p, .list e0 t, x, ct, base, a, b, c, d, h, ht => by
    cases ct with
    | node b0 cap0 kids0 => exact addr_snoc_prod p t _ _ _ a b c d h ht
    | leaf => simp [atCT] at h
    | nil => simp [atCT] at h
    | pair => simp [atCT] at h
  | 0 :: p, .prod u v, x, ct, base, a, b, c, d, h, ht => by
    cases ct with
    | pair c0 d0 => exact addr_snoc_prod p u _ _ _ a b c d h ht
    | leaf => simp [atCT] at h
    | nil => simp [atCT] at h
    | node => simp [atCT] at h
  | 1 :: p, .prod u v, x, ct, base, a, b, c, d, h, ht => by
    cases ct with
    | pair c0 d0 => exact addr_snoc_prod p v _ _ _ a b c d h ht
    | leaf => simp [atCT] at h
    | nil => simp [atCT] at h
    | node => simp [atCT] at h
  | (_ + 2) :: _, .prod _ _, _, _, _, _, _, _, _, h, _ => by simp [atCT] at h
  | _ :: _, .int _, _, _, _, _, _, _, _, h, _ => by simp [atCT] at h
  | _ :: _, .bool, _, _, _, _, _, _, _, h, _ => by simp [atCT] at h
  | _ :: _, .str, _, _, _, _, _, _, _, h, _ => by simp [atCT] at h
  | _ :: _, .raw, _, _, _, _, _, _, _, h, _ => by simp [atCT] at h

theorem RelAt.nodeP (R : RelAt w0 S0 N dr pc s a w S pl) {r : Nat} {rt : RT} (hr : s.root r = some rt) {i : Nat} {p : List Nat} (hok : okS (i :: p) rt.ty rt.x (rt.k + 1)) (hc : hclear (i :: p) rt.h = true)
    {u v : Ty} (ht : (rt.at (i :: p)).t = .prod u v) : ∃ c d, atCT (i :: p) rt.ty (pl r).ct = .pair c d := by
  obtain ⟨hv, H⟩ := R.own r rt hr
  obtain ⟨cs', F', h', _, H', e3, hh, _⟩ := nodeAt (i :: p) rt.ty (rt.k + 1) rt.x rt.h (pl r).ct [hv] (pl r).F 0 0 H hok hc (.inl ⟨_, _, _, _, rfl, rfl⟩)
  have ht' : (getS (i :: p) rt.ty rt.x).t = .prod u v := ht
  generalize getS (i :: p) rt.ty rt.x = tv at *
  obtain ⟨tt', x⟩ := tv
  subst ht'
  rcases H' with H' | ⟨_, H'⟩
  · exact absurd H'.1 hh
  · generalize atCT (i :: p) rt.ty (pl r).ct = c at *
    cases c with
    | pair c d => exact ⟨c, d, rfl⟩
    | nil => exact H'.elim
    | leaf => exact H'.elim
    | node => exact H'.elim

theorem idxPair_ok (htt : ttB P tt = true) (R : RelAt w0 S0 N dr pc s a w S pl) {T e : Nat} {t : Ty} (hte : lk tt T = some (.pair e t)) {x : AV} {vx : Value} {k : IntKind} {i : Int} {pf : PF}
    (h : idxPair t s x i = some pf) (hx : AVR w S s.rts pl x vx ∧ x.lt s.nxt) : PFok w S s pl pf (fun w' => (Instr.indexAt T vx (.int k i)).run P w') := by
  obtain ⟨hu, ⟨inf, hinf, hsz⟩, hw1, _⟩ := pair_te (ttB_get htt hte)
  unfold idxPair at h
  split at h
  · rename_i u v x
    split at h
    · rename_i he
      obtain ⟨rfl, rfl⟩ := he
      obtain ⟨b, o, arr, E, fr, rfl, q1, q2, q3, q4⟩ := hx.1
      obtain ⟨c1, c2, e1, r1, r2⟩ := q4
      have l1 := RO.length r1
      have l2 := RO.length r2
      simp only [Ty.width] at q3 e1
      have k1 : cellsAt arr o v.width = c1 := by
        have : (cellsAt arr o (v.width + v.width)).take v.width = c1 := by rw [e1, ← l1, List.take_left]
        rw [← this]
        unfold cellsAt
        rw [List.take_take]
        congr 1
        omega
      have k2 : cellsAt arr (o + v.width) v.width = c2 := by
        have : (cellsAt arr o (v.width + v.width)).drop v.width = c2 := by rw [e1, ← l1, List.drop_left]
        rw [← this]
        unfold cellsAt
        rw [List.drop_take, List.drop_drop, Nat.add_sub_cancel]
      split at h
      · rename_i hi0
        cases h
        intro _
        subst hi0
        refine ⟨_, fun w' => run_indexAt_arr hu hinf b o k 0 (by omega) (by decide) w', ⟨b, _, arr, E, fr, rfl, q1, q2, ?_, ?_⟩, AV.lt_rptr, trivial⟩
        · simp only [Int.toNat_zero, Nat.zero_mul, Nat.add_zero]; omega
        · simp only [Int.toNat_zero, Nat.zero_mul, Nat.add_zero]; rw [k1]; exact r1
      · split at h
        · rename_i hi1
          cases h
          intro _
          subst hi1
          refine ⟨_, fun w' => run_indexAt_arr hu hinf b o k 1 (by omega) (by decide) w', ⟨b, _, arr, E, fr, rfl, q1, q2, ?_, ?_⟩, AV.lt_rptr, trivial⟩
          · rw [hsz]; simp only [Int.toNat_one, Nat.one_mul]; omega
          · rw [hsz]; simp only [Int.toNat_one, Nat.one_mul]; rw [k2]; exact r2
        · cases h
    · cases h
  · rename_i r j p
    split at h
    · rename_i rt hr
      split at h
      · rename_i hc
        have hv : vx = addrP (pl r) rt (j :: p) := hx.1 rt hr
        subst hv
        have key : okS (j :: p) rt.ty rt.x (rt.k + 1) → addrOf (j :: p ++ [0]) rt.ty (pl r).ct (0, 0) = addrOf (j :: p) rt.ty (pl r).ct (0, 0) ∧ addrOf (j :: p ++ [1]) rt.ty (pl r).ct (0, 0) = ((addrOf (j :: p) rt.ty (pl r).ct (0, 0)).1, (addrOf (j :: p) rt.ty (pl r).ct (0, 0)).2 + t.width) := fun hok => by
          obtain ⟨c, d, hcd⟩ := R.nodeP hr hok hc.2 hc.1
          exact addr_snoc_prod (j :: p) rt.ty rt.x (pl r).ct (0, 0) t t c d hcd hc.1
        split at h
        · rename_i hi0
          cases h
          intro hok
          subst hi0
          refine ⟨_, fun w' => run_indexAt_arr hu hinf _ _ k 0 (by omega) (by decide) w', fun rt' hrt' => ?_, AV.lt_ptr (R.ids r rt hr), trivial⟩
          have : rt' = rt := Option.some.inj (hrt'.symm.trans hr)
          subst this
          unfold addrP
          rw [(key hok).1]
          simp
        · split at h
          · rename_i hi1
            cases h
            intro hok
            subst hi1
            refine ⟨_, fun w' => run_indexAt_arr hu hinf _ _ k 1 (by omega) (by decide) w', fun rt' hrt' => ?_, AV.lt_ptr (R.ids r rt hr), trivial⟩
            have : rt' = rt := Option.some.inj (hrt'.symm.trans hr)
            subst this
            unfold addrP
            rw [(key hok).2, hsz]
            simp
          · cases h
      · cases h
    · cases h
  · cases h

theorem idxAV_ok (htt : ttB P tt = true) (R : RelAt w0 S0 N dr pc s a w S pl) {T : Nat} {x ix : AV} {vx vi : Value} {pf : PF}
    (h : idxAV tt s T x ix = some pf) (hx : AVR w S s.rts pl x vx ∧ x.lt s.nxt) (hi : AVR w S s.rts pl ix vi ∧ ix.lt s.nxt) :
    PFok w S s pl pf (fun w' => (Instr.indexAt T vx vi).run P w') := by
  unfold idxAV at h
  split at h
  · rename_i k i
    have hvi := hi.1.int
    subst hvi
    split at h
    · rename_i e t hte
      exact idxPair_ok htt R hte h hx
    split at h
    · -- read-only
      rename_i e t l
      unfold idxRO at h
      split at h
      · rename_i e' t' b hte
        split at h
        · rename_i he
          obtain ⟨rfl, rfl⟩ := he
          cases h
          intro hpre
          obtain ⟨h0, h1⟩ := hpre
          obtain ⟨hu, _, ⟨inf, hinf, hsz, _⟩, _⟩ := slice_te (ttB_get htt hte)
          obtain ⟨ad, cap, rfl, hro, hlc, hcm⟩ := hx.1.list
          obtain ⟨ad', cap', e1, e2, e3, e4⟩ := hro
          simp only [List.cons.injEq, Value.slice.injEq, and_true] at e1
          obtain ⟨rfl, _, rfl⟩ := e1
          have hne : l ≠ [] := by rintro rfl; simp at h1; omega
          obtain ⟨bb, off, arr, E, fr, rfl, q1, q2, q3, q4⟩ := e4 hne
          have hil : i.toNat < l.length := by omega
          refine ⟨_, fun w' => run_indexAt_in hu hinf bb off l.length cap k i h0 h1 w', ⟨bb, _, arr, E, fr, rfl, q1, q2, ?_, ?_⟩, AV.lt_rptr, trivial⟩
          · rw [hsz]
            have := Nat.mul_le_mul_right t.width (show i.toNat + 1 ≤ l.length by omega)
            rw [Nat.succ_mul] at this
            omega
          · rw [hsz]; exact q4 _ hil
        · cases h
      · cases h
    · -- an owned slice
      rename_i r p
      unfold idxRef at h
      split at h
      · rename_i e t b rt hte hrt
        split at h
        · rename_i hc
          cases h
          intro hpre
          obtain ⟨h0, h1, h2, h3⟩ := hpre
          obtain ⟨hu, _, ⟨inf, hinf, hsz, _⟩, _⟩ := slice_te (ttB_get htt hte)
          have hv := hx.1 rt hrt
          subst hv
          obtain ⟨_, hn⟩ := R.node hrt h2 hc.2 hc.1 h3
          rcases hn with hn | ⟨bb, cap, kids, hct, _, _, _⟩
          · omega
          · have ha := addr_snoc p rt.ty rt.x (pl r).ct (0, 0) i.toNat bb cap kids e t hct hc.1
            rw [hct]
            refine ⟨_, fun w' => run_indexAt_in hu hinf bb 0 _ cap k i h0 h1 w', fun rt' hrt' => ?_, AV.lt_ptr (R.ids r rt hrt), trivial⟩
            have : rt' = rt := Option.some.inj (hrt'.symm.trans hrt)
            subst this
            unfold addrP
            rw [ha, hsz, Nat.zero_add]
        · cases h
      · cases h
    · -- part of one
      rename_i r p lo hi'
      unfold idxSub at h
      split at h
      · rename_i e t b rt hte hrt
        split at h
        · rename_i hc
          cases h
          intro hpre
          obtain ⟨h0, h1, h2, h3⟩ := hpre
          obtain ⟨hu, _, ⟨inf, hinf, hsz, _⟩, _⟩ := slice_te (ttB_get htt hte)
          obtain ⟨hlo, hhi, hv⟩ := hx.1 rt hrt
          obtain ⟨_, hn⟩ := R.node hrt h2 hc.2 hc.1 h3
          rcases hn with hn | ⟨bb, cap, kids, hct, _, hlen, _⟩
          · omega
          · have ha := addr_snoc p rt.ty rt.x (pl r).ct (0, 0) (lo + i.toNat) bb cap kids e t hct hc.1
            have hew : (rt.at p).ew = t.width := by unfold TV.ew; rw [hc.1]
            rw [hct, hew] at hv
            obtain ⟨ad, rfl, had⟩ := hv
            rw [had (.inl (by omega))]
            refine ⟨_, fun w' => run_indexAt_in hu hinf bb _ _ _ k i h0 h1 w', fun rt' hrt' => ?_, AV.lt_ptr (R.ids r rt hrt), trivial⟩
            have : rt' = rt := Option.some.inj (hrt'.symm.trans hrt)
            subst this
            unfold addrP
            rw [ha, hsz, Nat.add_mul]
        · cases h
      · cases h
    · -- an array's address
      rename_i r
      unfold idxArr at h
      split at h
      · rename_i n e t rt hte hrt
        split at h
        · rename_i hc
          obtain ⟨rfl, rfl, hc⟩ := hc
          cases h
          intro hpre
          obtain ⟨h0, h1, h2⟩ := hpre
          obtain ⟨hu, ⟨inf, hinf, hsz⟩, _⟩ := arr_te (ttB_get htt hte)
          have hv := hx.1 rt hrt
          subst hv
          obtain ⟨_, hn⟩ := R.node (p := []) hrt trivial hc rfl (Nat.succ_pos _)
          rcases hn with hn | ⟨bb, cap, kids, hct, _, _, _⟩
          · have : (rt.at []).len = rt.x.length := rfl
            omega
          · have hct' : (pl r).ct = .node bb cap kids := hct
            unfold addrP
            rw [hct']
            refine ⟨_, fun w' => run_indexAt_arr hu hinf bb _ k i h0 h1 w', fun rt' hrt' => ?_, AV.lt_ptr (R.ids r rt hrt), trivial⟩
            have : rt' = rt := Option.some.inj (hrt'.symm.trans hrt)
            subst this
            unfold addrP
            rw [hct', hsz]
            simp [addrOf]
        · cases h
      · cases h
    · cases h
  · cases h

end

/-! ### Parts of slices and strings -/

def bnd : Option AV → Option (Option Int)
  | none => some none
  | some (.dat (.int _) i) => some (some i)
  | _ => none

def loOf : Option Int → Int | none => 0 | some i => i
def hiOf : Option Int → Nat → Int | none, n => n | some i, _ => i

def cutL {α : Type} (lo hi : Option Int) (l : List α) : List α :=
  match lo, hi with
  | none, none => l
  | some i, none => l.drop i.toNat
  | none, some j => l.take j.toNat
  | some i, some j => (l.take j.toNat).drop i.toNat

def okB (lo hi : Option Int) (n : Nat) : Prop := 0 ≤ loOf lo ∧ loOf lo ≤ hiOf hi n ∧ hiOf hi n ≤ n

theorem cutL_eq {α : Type} {lo hi : Option Int} {l : List α} (h : okB lo hi l.length) : cutL lo hi l = (l.take (hiOf hi l.length).toNat).drop (loOf lo).toNat := by
  unfold cutL
  cases lo <;> cases hi <;> simp [loOf, hiOf]

def slAV (tt : List (Nat × TE)) (s : XS) (T : Nat) (x : AV) (lo hi : Option AV) : Option PF :=
  match lk tt T with
  | some (.slice e t _) =>
    match bnd lo with
    | none => none
    | some lo =>
      match bnd hi with
      | none => none
      | some hi =>
        match x with
        | .dat (.list e' t') l => if e' = e ∧ t' = t then some (PF.of (okB lo hi l.length) (.dat (.list e' t') (cutL lo hi l))) else none
        | .ref r p =>
          match s.root r with
          | some rt => if (rt.at p).t = .list e t ∧ hclear p rt.h = true then
              some (PF.of (okB lo hi (rt.at p).len ∧ okS p rt.ty rt.x (rt.k + 1) ∧ 0 < dep p rt.ty (rt.k + 1)) (.sub r p (loOf lo).toNat (hiOf hi (rt.at p).len).toNat)) else none
          | none => none
        | .sub r p u v =>
          match s.root r with
          | some rt => if (rt.at p).t = .list e t ∧ hclear p rt.h = true then
              some (PF.of (okB lo hi (v - u) ∧ okS p rt.ty rt.x (rt.k + 1) ∧ 0 < dep p rt.ty (rt.k + 1)) (.sub r p (u + (loOf lo).toNat) (u + (hiOf hi (v - u)).toNat))) else none
          | none => none
        | _ => none
  | some (.basic .str) =>
    match bnd lo with
    | none => none
    | some lo =>
      match bnd hi with
      | none => none
      | some hi =>
        match x with
        | .dat .str z => some (PF.of (okB lo hi z.size) (.dat .str (z.extract (loOf lo).toNat (hiOf hi z.size).toNat)))
        | _ => none
  | _ => none

section
variable {P : Program} {tt : List (Nat × TE)} {w0 : World} {S0 : Nat → Prop} {N : Nat} {dr : Bool} {pc : Pins} {s : XS} {a : Act} {w : World} {S : Nat → Prop} {pl : Nat → PL}

def optEv (s : XS) : Option Operand → Option AV → Prop
  | none, none => True
  | some x, some v => s.ev x = some v
  | _, _ => False

def optInt : Option Value → Option Int → Prop
  | none, none => True
  | some v, some i => ∃ k, v = .int k i
  | _, _ => False

theorem bnd_ok (R : RelAt w0 S0 N dr pc s a w S pl) {x : Option Operand} {av : Option AV} {b : Option Int} (hx : optEv s x av) (h : bnd av = some b) :
    optInt (x.map a.eval) b := by
  cases x with
  | none =>
    cases av with
    | none => simp [bnd] at h; subst h; trivial
    | some v => exact hx.elim
  | some x =>
    cases av with
    | none => exact hx.elim
    | some v =>
      unfold bnd at h
      split at h
      · rename_i e; cases e
      · rename_i k i e
        cases h
        cases e
        exact ⟨k, (R.ev hx).1.int⟩
      · cases h

theorem run_bounds (isSlice : Bool) (n c : Nat) (lo hi : Option Value) (l h : Option Int) (hl : optInt lo l)
    (hh : optInt hi h) (hnc : n ≤ c) (hok : okB l h n) (w' : World) :
    (Instr.sliceBounds isSlice n c lo hi none).run P w' = .ok ((loOf l).toNat, (hiOf h n).toNat, c) w' := by
  obtain ⟨h1, h2, h3⟩ := hok
  cases lo with
  | none =>
    cases l with
    | some i => exact hl.elim
    | none =>
      cases hi with
      | none =>
        cases h with
        | some j => exact hh.elim
        | none => simp [Instr.sliceBounds, loOf, hiOf]
      | some v =>
        cases h with
        | none => exact hh.elim
        | some j =>
          obtain ⟨k, rfl⟩ := hh
          simp only [loOf, hiOf] at h1 h2 h3
          have : j ≤ (c : Int) := by omega
          simp [Instr.sliceBounds, Instr.sliceBound, asIntOf, loOf, hiOf, h2, this]
  | some u =>
    cases l with
    | none => exact hl.elim
    | some i =>
      obtain ⟨ku, rfl⟩ := hl
      cases hi with
      | none =>
        cases h with
        | some j => exact hh.elim
        | none =>
          simp only [loOf, hiOf] at h1 h2 h3
          simp [Instr.sliceBounds, Instr.sliceBound, asIntOf, loOf, hiOf, h1, h2]
      | some v =>
        cases h with
        | none => exact hh.elim
        | some j =>
          obtain ⟨k, rfl⟩ := hh
          simp only [loOf, hiOf] at h1 h2 h3
          have h4 : j ≤ (c : Int) := by omega
          have h5 : 0 ≤ j := by omega
          have h6 : i ≤ ((j.toNat : Nat) : Int) := by omega
          simp [Instr.sliceBounds, Instr.sliceBound, asIntOf, loOf, hiOf, h1, h4, h5]
          omega

theorem run_sliceAt {T e : Nat} (hT : P.underlying T = some (.slice e)) {inf : TypeInfo} (hi : P.info? e = some inf) (ad : Option Addr) (n c : Nat) (lo hh : Option Value) (l h : Option Int)
    (h1 : optInt lo l)
    (h2 : optInt hh h) (hnc : n ≤ c) (hok : okB l h n) (w' : World) :
    (Instr.sliceAt T (.slice ad n c) lo hh none).run P w' =
      .ok (.slice (if c = (loOf l).toNat then ad else ad.map (·.add ((loOf l).toNat * inf.size))) ((hiOf h n).toNat - (loOf l).toNat) (c - (loOf l).toNat)) w' := by
  have hb := run_bounds (P := P) true n c lo hh l h h1 h2 hnc hok w'
  simp [Instr.sliceAt, Instr.slice, run_underlying hT, hb, Go.sizeOf, typeInfo, hi]

theorem RO.cut {e : Nat} {t : Ty} {l : List t.den} {ad : Option Addr} {c lo hi : Nat} (h : RO w S (.list e t) l [.slice ad l.length c]) (h1 : lo ≤ hi) (h2 : hi ≤ l.length) :
    RO w S (.list e t) ((l.take hi).drop lo) [.slice (if c = lo then ad else ad.map (·.add (lo * t.width))) (hi - lo) (c - lo)] := by
  obtain ⟨ad', c', e1, e2, e3, e4⟩ := h
  simp only [List.cons.injEq, Value.slice.injEq, and_true] at e1
  obtain ⟨rfl, _, rfl⟩ := e1
  have hlen : ((l.take hi).drop lo).length = hi - lo := by simp; omega
  refine ⟨_, _, by rw [hlen], by rw [hlen]; omega, by omega, fun hne => ?_⟩
  have hlt : lo < hi := by
    rcases Nat.lt_or_ge lo hi with h | h
    · exact h
    · exfalso; apply hne; apply List.eq_nil_of_length_eq_zero; omega
  have hne' : l ≠ [] := by rintro rfl; simp at h2; omega
  obtain ⟨b, off, arr, E, fr, rfl, q1, q2, q3, q4⟩ := e4 hne'
  have hc : ¬ c = lo := by omega
  refine ⟨b, off + lo * t.width, arr, E, fr, ?_, q1, q2, ?_, ?_⟩
  · rw [if_neg hc]; simp [add_block]
  · rw [hlen, Nat.sub_mul]
    have h3 := Nat.mul_le_mul_right t.width h2
    have h4 := Nat.mul_le_mul_right t.width h1
    omega
  · intro i hi'
    rw [hlen] at hi'
    have := q4 (lo + i) (by omega)
    have e5 : ((l.take hi).drop lo).getD i t.dflt = l.getD (lo + i) t.dflt := by
      simp only [List.getD_eq_getElem?_getD, List.getElem?_drop, List.getElem?_take]
      rw [if_pos (by omega)]
    rw [e5, Nat.add_assoc, ← Nat.add_mul]
    exact this

theorem slAV_ok (htt : ttB P tt = true) (R : RelAt w0 S0 N dr pc s a w S pl) {T : Nat} {x : AV} {vx : Value} {xlo xhi : Option Operand} {lo hi : Option AV} {pf : PF}
    (h : slAV tt s T x lo hi = some pf) (hx : AVR w S s.rts pl x vx ∧ x.lt s.nxt)
    (hlo : optEv s xlo lo)
    (hhi : optEv s xhi hi) :
    PFok w S s pl pf (fun w' => (Instr.sliceAt T vx (xlo.map a.eval) (xhi.map a.eval) none).run P w') := by
  unfold slAV at h
  split at h
  · rename_i e t b hte
    obtain ⟨hu, _, ⟨inf, hinf, hsz, _⟩, _⟩ := slice_te (ttB_get htt hte)
    split at h
    · cases h
    · rename_i lo' hlo'
      split at h
      · cases h
      · rename_i hi' hhi'
        have q1 := bnd_ok R hlo hlo'
        have q2 := bnd_ok R hhi hhi'
        split at h
        · rename_i e' t' l
          split at h
          · rename_i he
            obtain ⟨rfl, rfl⟩ := he
            cases h
            intro hpre
            have hpre : okB lo' hi' l.length := hpre
            obtain ⟨ad, cap, rfl, hro, hlc, hcm⟩ := hx.1.list
            refine ⟨_, fun w' => run_sliceAt hu hinf ad l.length cap _ _ lo' hi' q1 q2 hlc hpre w', ⟨[_], rfl, ?_⟩, AV.lt_dat, trivial⟩
            obtain ⟨p1, p2, p3⟩ := hpre
            rw [cutL_eq ⟨p1, p2, p3⟩, hsz]
            exact hro.cut (by omega) (by omega)
          · cases h
        · rename_i r p
          split at h
          · rename_i rt hrt
            split at h
            · rename_i hc
              cases h
              intro hpre
              obtain ⟨hok, h2, h3⟩ := hpre
              have hv := hx.1 rt hrt
              subst hv
              obtain ⟨_, hn⟩ := R.node hrt h2 hc.2 hc.1 h3
              have hew : (rt.at p).ew = t.width := by unfold TV.ew; rw [hc.1]
              obtain ⟨p1, p2, p3⟩ := hok
              have hcut : ∃ ad n c, hdr (atCT p rt.ty (pl r).ct) (rt.at p).len = .slice ad n c ∧ n = (rt.at p).len ∧ n ≤ c ∧
                  subR (atCT p rt.ty (pl r).ct) (rt.at p).ew (loOf lo').toNat (hiOf hi' (rt.at p).len).toNat
                  (.slice (if c = (loOf lo').toNat then ad else ad.map (·.add ((loOf lo').toNat * inf.size))) ((hiOf hi' n).toNat - (loOf lo').toNat) (c - (loOf lo').toNat)) := by
                have none0 : ∀ ct, (∀ b c k, ct ≠ CT.node b c k) → (rt.at p).len = 0 → ∃ ad n c, hdr ct (rt.at p).len = .slice ad n c ∧ n = (rt.at p).len ∧ n ≤ c ∧
                    subR ct (rt.at p).ew (loOf lo').toNat (hiOf hi' (rt.at p).len).toNat
                    (.slice (if c = (loOf lo').toNat then ad else ad.map (·.add ((loOf lo').toNat * inf.size))) ((hiOf hi' n).toNat - (loOf lo').toNat) (c - (loOf lo').toNat)) := by
                  intro ct hnn hl
                  have e0 : (loOf lo').toNat = 0 := by omega
                  have e1 : (hiOf hi' 0).toNat = 0 := by rw [hl] at p3; omega
                  rw [hl, e0, e1]
                  cases ct with
                  | node b c k => exact absurd rfl (hnn b c k)
                  | nil => exact ⟨none, 0, 0, rfl, rfl, Nat.le_refl _, by simp [subR, e1]⟩
                  | leaf => exact ⟨none, 0, 0, rfl, rfl, Nat.le_refl _, by simp [subR, e1]⟩
                  | pair => exact ⟨none, 0, 0, rfl, rfl, Nat.le_refl _, by simp [subR, e1]⟩
                have some0 : ∀ b c k, atCT p rt.ty (pl r).ct = .node b c k → (rt.at p).len ≤ c → ∃ ad n c, hdr (atCT p rt.ty (pl r).ct) (rt.at p).len = .slice ad n c ∧ n = (rt.at p).len ∧ n ≤ c ∧
                    subR (atCT p rt.ty (pl r).ct) (rt.at p).ew (loOf lo').toNat (hiOf hi' (rt.at p).len).toNat
                    (.slice (if c = (loOf lo').toNat then ad else ad.map (·.add ((loOf lo').toNat * inf.size))) ((hiOf hi' n).toNat - (loOf lo').toNat) (c - (loOf lo').toNat)) := by
                  intro b c k hct hlen
                  rw [hct]
                  refine ⟨_, _, _, rfl, rfl, hlen, _, rfl, fun hl => ?_⟩
                  rw [hew, hsz]
                  by_cases hcap : c = (loOf lo').toNat
                  · have e0 : (loOf lo').toNat = 0 := by omega
                    rw [if_pos hcap, e0, Nat.zero_mul]
                  · rw [if_neg hcap]; simp [add_block]
                rcases hn with hn | ⟨bb, cap, kids, hct, _, hlen, _⟩
                · by_cases hnode : ∃ b c k, atCT p rt.ty (pl r).ct = .node b c k
                  · obtain ⟨b, c, k, hct⟩ := hnode
                    exact some0 b c k hct (by omega)
                  · exact none0 _ (fun b c k e => hnode ⟨b, c, k, e⟩) hn
                · exact some0 bb cap kids hct hlen
              obtain ⟨ad, n, c, e1, e2, e3, e4⟩ := hcut
              rw [e1]
              refine ⟨_, fun w' => run_sliceAt hu hinf ad n c _ _ lo' hi' q1 q2 e3 (by rw [e2]; exact ⟨p1, p2, p3⟩) w', fun rt' hrt' => ?_, AV.lt_sub (R.ids r rt hrt), trivial⟩
              have : rt' = rt := Option.some.inj (hrt'.symm.trans hrt)
              subst this
              exact ⟨by omega, by omega, e4⟩
            · cases h
          · cases h
        · rename_i r p u v
          split at h
          · rename_i rt hrt
            split at h
            · rename_i hc
              cases h
              intro hpre
              obtain ⟨hok, h2, h3⟩ := hpre
              obtain ⟨g1, g2, hv⟩ := hx.1 rt hrt
              obtain ⟨_, hn⟩ := R.node hrt h2 hc.2 hc.1 h3
              have hew : (rt.at p).ew = t.width := by unfold TV.ew; rw [hc.1]
              obtain ⟨p1, p2, p3⟩ := hok
              have hcut : ∃ ad c, vx = .slice ad (v - u) c ∧ v - u ≤ c ∧
                  subR (atCT p rt.ty (pl r).ct) (rt.at p).ew (u + (loOf lo').toNat) (u + (hiOf hi' (v - u)).toNat)
                  (.slice (if c = (loOf lo').toNat then ad else ad.map (·.add ((loOf lo').toNat * inf.size))) ((hiOf hi' (v - u)).toNat - (loOf lo').toNat) (c - (loOf lo').toNat)) := by
                have none0 : ∀ ct, (∀ b c k, ct ≠ CT.node b c k) → (rt.at p).len = 0 → subR ct (rt.at p).ew u v vx → ∃ ad c, vx = .slice ad (v - u) c ∧ v - u ≤ c ∧
                    subR ct (rt.at p).ew (u + (loOf lo').toNat) (u + (hiOf hi' (v - u)).toNat)
                    (.slice (if c = (loOf lo').toNat then ad else ad.map (·.add ((loOf lo').toNat * inf.size))) ((hiOf hi' (v - u)).toNat - (loOf lo').toNat) (c - (loOf lo').toNat)) := by
                  intro ct hnn hl hv
                  have e2 : v - u = 0 := by omega
                  have e0 : (loOf lo').toNat = 0 := by omega
                  have e1 : (hiOf hi' 0).toNat = 0 := by rw [e2] at p3; omega
                  rw [e2, e0, e1]
                  cases ct with
                  | node b c k => exact absurd rfl (hnn b c k)
                  | nil => simp only [subR] at hv; subst hv; exact ⟨none, 0, rfl, Nat.le_refl _, by simp [subR]⟩
                  | leaf => simp only [subR] at hv; subst hv; exact ⟨none, 0, rfl, Nat.le_refl _, by simp [subR]⟩
                  | pair => simp only [subR] at hv; subst hv; exact ⟨none, 0, rfl, Nat.le_refl _, by simp [subR]⟩
                by_cases hnode : ∃ b c k, atCT p rt.ty (pl r).ct = .node b c k
                · obtain ⟨bb, cap, kids, hct⟩ := hnode
                  have hle : (rt.at p).len ≤ cap := by
                    rcases hn with hn | ⟨bb', cap', kids', hct', _, hlen, _⟩
                    · omega
                    · rw [hct] at hct'; cases hct'; exact hlen
                  rw [hct] at hv ⊢
                  obtain ⟨ad, rfl, had⟩ := hv
                  refine ⟨ad, cap - u, rfl, by omega, if cap - u = (loOf lo').toNat then ad else ad.map (·.add ((loOf lo').toNat * inf.size)), ?_, fun hl => ?_⟩
                  · congr 1
                    · omega
                    · omega
                  · rw [had (by omega), hew, hsz]
                    by_cases hcap : cap - u = (loOf lo').toNat
                    · have e0 : (loOf lo').toNat = 0 := by omega
                      rw [if_pos hcap, e0, Nat.add_zero]
                    · rw [if_neg hcap]; simp [add_block, Nat.add_mul]
                · rcases hn with hn | ⟨bb, cap, kids, hct, _⟩
                  · exact none0 _ (fun b c k e => hnode ⟨b, c, k, e⟩) hn hv
                  · exact absurd ⟨bb, cap, kids, hct⟩ hnode
              obtain ⟨ad, c, e1, e3, e4⟩ := hcut
              subst e1
              refine ⟨_, fun w' => run_sliceAt hu hinf ad (v - u) c _ _ lo' hi' q1 q2 e3 ⟨p1, p2, p3⟩ w', fun rt' hrt' => ?_, AV.lt_sub (R.ids r rt hrt), trivial⟩
              have : rt' = rt := Option.some.inj (hrt'.symm.trans hrt)
              subst this
              exact ⟨by omega, by omega, e4⟩
            · cases h
          · cases h
        · cases h
  · rename_i hte
    have hte' := ttB_get htt hte
    have hu : P.underlying T = some .string := by
      simp only [teB, Bool.and_eq_true] at hte'
      have := hte'.2
      revert this
      cases hU : P.underlying T with
      | none => simp
      | some d => cases d <;> simp
    split at h
    · cases h
    · rename_i lo' hlo'
      split at h
      · cases h
      · rename_i hi' hhi'
        have q1 := bnd_ok R hlo hlo'
        have q2 := bnd_ok R hhi hhi'
        split at h
        · rename_i z
          cases h
          intro hpre
          have hv := hx.1.str
          subst hv
          have hb := fun w' => run_bounds (P := P) false z.size z.size _ _ lo' hi' q1 q2 (Nat.le_refl _) hpre w'
          exact ⟨_, fun w' => by simp [Instr.sliceAt, Instr.slice, run_underlying hu, hb] <;> rfl, AVR.mkStr _ _, AV.lt_dat, trivial⟩
        · cases h
  · cases h

end
end Fer
