/- Taking a part of a root out; putting a thing in. Over any program. -/
import Derived.Test.YtbahdhedegpbbaaFerI
namespace Fer
open Go

/-! ### Which names outlive a write at a path -/

def safeR : Ty → List Nat → List Nat → Bool
  | _, [], _ => false
  | _, _ :: _, [] => true
  | .list _ t, _ :: p, _ :: q => safeR t p q
  | .prod a b, i :: p, j :: q => match i, j with
    | 0, 0 => safeR a p q
    | 1, 1 => safeR b p q
    | 0, 1 => true
    | 1, 0 => true
    | _, _ => false
  | _, _ :: _, _ :: _ => false

def safeP : Ty → List Nat → List Nat → Bool
  | _, _, [] => true
  | _, [], _ :: _ => false
  | .list _ t, _ :: p, _ :: q => safeP t p q
  | .prod a b, i :: p, j :: q => match i, j with
    | 0, 0 => safeP a p q
    | 1, 1 => safeP b p q
    | 0, 1 => true
    | 1, 0 => true
    | _, _ => false
  | _, _ :: _, _ :: _ => false

def ctHead : CT → Option (Nat × Nat)
  | .node b cap _ => some (b, cap)
  | _ => none

theorem hdr_head {c c' : CT} (h : ctHead c = ctHead c') (n : Nat) : hdr c n = hdr c' n := by
  cases c <;> cases c' <;> simp [ctHead] at h <;> first | rfl | (obtain ⟨rfl, rfl⟩ := h; rfl)

theorem subR_head {c c' : CT} (h : ctHead c = ctHead c') (w lo hi : Nat) (v : Value) : subR c w lo hi v ↔ subR c' w lo hi v := by
  cases c <;> cases c' <;> simp [ctHead] at h <;> first | exact Iff.rfl | (obtain ⟨rfl, rfl⟩ := h; exact Iff.rfl)

theorem set_getD {α : Type} {l : List α} {i j : Nat} {v d : α} : (l.set i v).getD j d = l.getD j d ∨ (i = j ∧ (l.set i v).getD j d = v) := by
  by_cases h : i < l.length
  · rw [getD_set l i j v d h]
    by_cases e : j = i
    · rw [if_pos e]; exact .inr ⟨e.symm, rfl⟩
    · rw [if_neg e]; exact .inl rfl
  · rw [List.set_eq_of_length_le (by omega)]; exact .inl rfl

theorem safe_at : ∀ (t : Ty) (p q : List Nat) (x : t.den) (y : TV) (ct c' : CT), safeR t p q = true →
    (getS q t (setT p t x y)).t = (getS q t x).t ∧ (getS q t (setT p t x y)).len = (getS q t x).len ∧ ctHead (atCT q t (setCT p t ct c')) = ctHead (atCT q t ct)
  | t, [], q, x, y, ct, c', h => by cases t <;> cases q <;> simp [safeR] at h
  | t, i :: p, [], x, y, ct, c', _ => by
    refine ⟨rfl, ?_, ?_⟩
    · cases t <;> simp [getS, setT, TV.len]
    · cases t with
      | list e t => cases ct <;> rfl
      | prod a b =>
        match i with
        | 0 => cases ct <;> rfl
        | 1 => cases ct <;> rfl
        | _ + 2 => cases ct <;> rfl
      | int | bool | str | raw => cases ct <;> rfl
  | .list e t, i :: p, j :: q, xs, y, ct, c', h => by
    simp only [safeR] at h
    simp only [getS, setT]
    rcases set_getD (l := xs) (i := i) (j := j) (v := setT p t (xs.getD i t.dflt) y) (d := t.dflt) with e1 | ⟨rfl, e1⟩
    · rw [e1]
      refine ⟨rfl, rfl, ?_⟩
      cases ct with
      | node b cap kids =>
        simp only [setCT, atCT]
        by_cases hji : j = i
        · rw [if_pos hji]; subst hji; exact (safe_at t p q (xs.getD j t.dflt) y (kids j) c' h).2.2
        · rw [if_neg hji]
      | nil => rfl
      | leaf => rfl
      | pair => rfl
    · rw [e1]
      obtain ⟨r1, r2, r3⟩ := safe_at t p q (xs.getD i t.dflt) y (match ct with | .node _ _ kids => kids i | _ => .leaf) c' h
      refine ⟨r1, r2, ?_⟩
      cases ct with
      | node b cap kids => simp only [setCT, atCT]; simpa using r3
      | nil => rfl
      | leaf => rfl
      | pair => rfl
  | .prod a b, i :: p, j :: q, x, y, ct, c', h => by
    match i, j, h with
    | 0, 0, h =>
      obtain ⟨r1, r2, r3⟩ := safe_at a p q x.1 y (match ct with | .pair u _ => u | _ => .leaf) c' h
      refine ⟨r1, r2, ?_⟩
      cases ct with
      | pair u v => exact r3
      | nil => rfl
      | leaf => rfl
      | node => rfl
    | 1, 1, h =>
      obtain ⟨r1, r2, r3⟩ := safe_at b p q x.2 y (match ct with | .pair _ u => u | _ => .leaf) c' h
      refine ⟨r1, r2, ?_⟩
      cases ct with
      | pair u v => exact r3
      | nil => rfl
      | leaf => rfl
      | node => rfl
    | 0, 1, _ => refine ⟨rfl, rfl, ?_⟩; cases ct <;> rfl
    | 1, 0, _ => refine ⟨rfl, rfl, ?_⟩; cases ct <;> rfl
    | 0, _ + 2, h => simp [safeR] at h
    | 1, _ + 2, h => simp [safeR] at h
    | _ + 2, 0, h => simp [safeR] at h
    | _ + 2, 1, h => simp [safeR] at h
    | _ + 2, _ + 2, h => simp [safeR] at h
  | .int _, _ :: _, _ :: _, _, _, _, _, h => by simp [safeR] at h
  | .bool, _ :: _, _ :: _, _, _, _, _, h => by simp [safeR] at h
  | .str, _ :: _, _ :: _, _, _, _, _, h => by simp [safeR] at h
  | .raw, _ :: _, _ :: _, _, _, _, _, h => by simp [safeR] at h

theorem safe_adr : ∀ (t : Ty) (p q : List Nat) (ct c' : CT) (b : Nat × Nat), safeP t p q = true → addrOf q t (setCT p t ct c') b = addrOf q t ct b
  | t, p, [], ct, c', b, _ => by cases t <;> simp [addrOf]
  | t, [], _ :: _, ct, c', b, h => by cases t <;> simp [safeP] at h
  | .list e t, i :: p, j :: q, ct, c', b, h => by
    simp only [safeP] at h
    cases ct with
    | node blk cap kids =>
      simp only [setCT, addrOf]
      by_cases hji : j = i
      · rw [if_pos hji]; subst hji; exact safe_adr t p q (kids j) c' _ h
      · rw [if_neg hji]
    | nil => rfl
    | leaf => rfl
    | pair => rfl
  | .prod a c, i :: p, j :: q, ct, c', b, h => by
    match i, j, h with
    | 0, 0, h =>
      cases ct with
      | pair u v => exact safe_adr a p q u c' b h
      | nil => rfl
      | leaf => rfl
      | node => rfl
    | 1, 1, h =>
      cases ct with
      | pair u v => exact safe_adr c p q v c' _ h
      | nil => rfl
      | leaf => rfl
      | node => rfl
    | 0, 1, _ => cases ct <;> rfl
    | 1, 0, _ => cases ct <;> rfl
    | 0, _ + 2, h => simp [safeP] at h
    | 1, _ + 2, h => simp [safeP] at h
    | _ + 2, 0, h => simp [safeP] at h
    | _ + 2, 1, h => simp [safeP] at h
    | _ + 2, _ + 2, h => simp [safeP] at h
  | .int _, _ :: _, _ :: _, _, _, _, h => by simp [safeP] at h
  | .bool, _ :: _, _ :: _, _, _, _, h => by simp [safeP] at h
  | .str, _ :: _, _ :: _, _, _, _, h => by simp [safeP] at h
  | .raw, _ :: _, _ :: _, _, _, _, h => by simp [safeP] at h

theorem safeP_one (rt : RT) (i : Nat) (p : List Nat) : safeP rt.ty (i :: p) [0] = true := by
  cases p <;> simp [safeP]

/-- The root, written at a path. -/
def RT.wr (rt : RT) (p : List Nat) (y : TV) : RT := { rt with h := none, x := setT p rt.ty rt.x y }
def RT.cut (rt : RT) (p : List Nat) : RT := { rt with h := some p }

theorem ew_of {u v : TV} (h : u.t = v.t) : u.ew = v.ew := by unfold TV.ew; rw [h]

theorem safe_names (rt : RT) (p : List Nat) (y : TV) (ct c' : CT) : SameNames (safeR rt.ty p) (safeP rt.ty p) rt (rt.wr p y) ct (setCT p rt.ty ct c') where
  hd := fun q hq => by
    obtain ⟨r1, r2, r3⟩ := safe_at rt.ty p q rt.x y ct c' hq
    show hdr (atCT q rt.ty (setCT p rt.ty ct c')) (getS q rt.ty (setT p rt.ty rt.x y)).len = _
    rw [r2]; exact hdr_head r3 _
  sub := fun q lo hi v hq _ h2 h3 => by
    obtain ⟨r1, r2, r3⟩ := safe_at rt.ty p q rt.x y ct c' hq
    refine ⟨?_, ?_⟩
    · show hi ≤ (getS q rt.ty (setT p rt.ty rt.x y)).len
      rw [r2]; exact h2
    · show subR (atCT q rt.ty (setCT p rt.ty ct c')) (getS q rt.ty (setT p rt.ty rt.x y)).ew lo hi v
      rw [ew_of r1]; exact (subR_head r3 _ _ _ _).2 h3
  adr := fun q hq => safe_adr rt.ty p q ct c' _ hq

section
variable {P : Program} {tt : List (Nat × TE)} {w0 : World} {S0 : Nat → Prop} {N : Nat} {dr : Bool} {pc : Pins} {s : XS} {a : Act} {w w' : World} {S : Nat → Prop} {pl : Nat → PL}

/-- The place of a hole. -/
theorem RelAt.holePlace (R : RelAt w0 S0 N dr pc s a w S pl) {r : Nat} {rt : RT} (hr : s.root r = some rt) {i : Nat} {p : List Nat} (hh : rt.h = some (i :: p)) (hok : okS (i :: p) rt.ty rt.x (rt.k + 1)) :
    ∃ b o cs, addrOf (i :: p) rt.ty (pl r).ct (0, 0) = (b, o) ∧ Loc w b o cs ∧ cs.length = (rt.at (i :: p)).t.width ∧ (pl r).F b ∧ ∃ bb cap kids, (pl r).ct = .node bb cap kids := by
  obtain ⟨hv, H⟩ := R.own r rt hr
  have hnode : ∃ b cap kids, (pl r).ct = .node b cap kids := by
    rcases H with H | ⟨_, H⟩
    · rw [hh] at H; simp at H
    · generalize (pl r).ct = c at *
      cases c with
      | nil => rw [H.1] at hok; simp [okS] at hok
      | leaf => exact H.elim
      | pair => exact H.elim
      | node b cap kids => exact ⟨_, _, _, rfl⟩
  have hb := addr_base (i := i) (p := p) (e := rt.e) (t := rt.t) hnode
  have hc : hclear0 (i :: p) rt.h = true := by rw [hh]; simp [hclear0]
  obtain ⟨cs', F', h', e1, e2, e3, e4, e5, e6⟩ := nodeAt0 (i :: p) rt.ty (rt.k + 1) rt.x rt.h (pl r).ct [hv] (pl r).F ((addrOf (i :: p) rt.ty (pl r).ct (0, 0)).1 + 1) 0 H hok hc (.inl ⟨_, _, _, _, rfl, rfl⟩)
  have hb' : addrOf (i :: p) rt.ty (pl r).ct ((addrOf (i :: p) rt.ty (pl r).ct (0, 0)).1 + 1, 0) = addrOf (i :: p) rt.ty (pl r).ct (0, 0) := hb _ _
  rw [hb'] at e1 e6
  refine ⟨_, _, cs', rfl, e1, e2.length, ?_, hnode⟩
  rcases e6 with e6 | e6
  · omega
  · exact e6

theorem sameOut_setRow {w : World} {b : Nat} {arr cs : Array Value} {E : Nat} {fr : Nat × Nat} (h : w.heap[b]? = some (.cells arr E fr)) : SameOut w (w.setRow b cs) := by
  refine ⟨rfl, fun a => ?_⟩
  by_cases e : a.block = b
  · have := setRow_heap w b arr cs E fr h
    simp only [World.frozen?, e, this, h]
  · simp only [World.frozen?, setRow_other w b a.block cs e]

theorem setRow_size (w : World) (b : Nat) (cs : Array Value) : (w.setRow b cs).heap.size = w.heap.size := by simp [World.setRow]

/-- The hole is filled. -/
theorem RelAt.fill (R : RelAt w0 S0 N dr pc s a w S pl) {r : Nat} {rt : RT} (hr : s.root r = some rt) {i : Nat} {p : List Nat} (hh : rt.h = some (i :: p)) (hok : okS (i :: p) rt.ty rt.x (rt.k + 1))
    {y : TV} {ct' : CT} {cs' : List Value} {F' : Nat → Prop} (Hy : Own w S y.t (dep (i :: p) rt.ty (rt.k + 1)) y.x none ct' cs' F') (hyt : y.t = (rt.at (i :: p)).t)
    (hF' : ∀ b, F' b → b < w.heap.size ∧ ¬ S b ∧ (∀ r2 rt2, s.root r2 = some rt2 → ¬ (pl r2).F b) ∧ (dr = true → ∀ i, pc i b → (i, some r) ∈ s.pins)) :
    ∃ b o arr E, addrP (pl r) rt (i :: p) = .pointer (some ⟨b, o, none⟩) ∧ w.heap[b]? = some (.cells arr E (0, 0)) ∧ o + cs'.length ≤ arr.size ∧ (pl r).F b ∧
      ∃ pl', RelAt w0 S0 N dr pc { s.setRoot r (rt.wr (i :: p) y) with env := cutEnv r (safeR rt.ty (i :: p)) (safeP rt.ty (i :: p)) s.env } a (w.setRow b (spl arr o cs')) S pl' := by
  obtain ⟨b, o, cs, hadr, ⟨arr, E, q1, q2, q3⟩, hlen, hFb, hnode⟩ := R.holePlace hr hh hok
  have hcl : cs'.length = cs.length := by rw [hlen, ← hyt]; exact Hy.length
  refine ⟨b, o, arr, E, (by unfold addrP; rw [hadr]), q1, by rw [hcl]; exact q2, hFb, ?_⟩
  obtain ⟨hv, H⟩ := R.own r rt hr
  rw [hh] at H
  have hold : ∀ n, n ≠ b → (w.setRow b (spl arr o cs')).heap[n]? = w.heap[n]? := fun n hn => setRow_other w b n _ hn
  have hbN : b < w.heap.size := (R.Flt r rt b hr hFb).1
  have hadr' : addrOf (i :: p) rt.ty (pl r).ct (w.heap.size, 0) = (b, o) := (addr_base (e := rt.e) (t := rt.t) hnode _ _).trans hadr
  obtain ⟨cs2, H2, h2⟩ := Fer.fill (w := w) (w' := w.setRow b (spl arr o cs')) y (dep (i :: p) rt.ty (rt.k + 1)) ct' cs' F' b o Hy hold
    (fun arr' E' h => by
      rw [q1] at h; cases h
      exact setRow_heap w b arr _ E (0, 0) q1) (R.Flt r rt b hr hFb).2 (fun h => (hF' b h).2.2.1 r rt hr hFb) (i :: p) rt.ty (rt.k + 1) rt.x (pl r).ct [hv] (pl r).F w.heap.size 0 H hok
    (.inl ⟨_, _, _, _, rfl, rfl⟩) (fun h => absurd (R.Flt r rt _ hr h).1 (Nat.lt_irrefl _)) hyt rfl (fun n h1 h2 => (hF' n h2).2.2.1 r rt hr h1) hadr'
  have hcs2 : cs2 = [hv] := by
    rcases h2 with h2 | h2
    · omega
    · exact h2.2.2
  subst hcs2
  exact ⟨_, R.setRoot (rt' := rt.wr (i :: p) y) hr (safeP_one rt i p) rfl rfl (sameOut_setRow q1) (by rw [setRow_size]; exact Nat.le_refl _) (fun n hn hnF => hold n fun e => hnF (e ▸ hFb)) H2
    (fun n hn => by
      rcases hn with hn | hn
      · exact ⟨by rw [setRow_size]; exact (R.Flt r rt n hr hn).1, .inl hn⟩
      · obtain ⟨g1, g2, g3, g4⟩ := hF' n hn
        exact ⟨by rw [setRow_size]; exact g1, .inr (.inr ⟨g2, fun r2 rt2 _ h => g3 r2 rt2 h, g4⟩)⟩)
    (safe_names rt (i :: p) y (pl r).ct ct')⟩

theorem cutEnv_all (r : Nat) : ∀ l : List (Nat × AV), cutEnv r (fun _ => true) (fun _ => true) l = l
  | [] => rfl
  | (i, av) :: l => by
    have hsb : ∀ a : AV, shB r (fun _ => true) (fun _ => true) a = true := fun a => by cases a <;> simp [shB]
    have : av.shallow r (fun _ => true) (fun _ => true) = true := by
      cases av <;> simp [AV.shallow, hsb]
    simp only [cutEnv, this, if_true, cutEnv_all r l]

theorem same_names (rt : RT) (h : Option (List Nat)) (ct : CT) : SameNames (fun _ => true) (fun _ => true) rt { rt with h := h } ct ct :=
  ⟨fun _ _ => rfl, fun _ _ _ _ _ _ h1 h2 => ⟨h1, h2⟩, fun _ _ => rfl⟩

/-- A part is taken out. -/
theorem RelAt.punch (R : RelAt w0 S0 N dr pc s a w S pl) {r : Nat} {rt : RT} (hr : s.root r = some rt) (hh : rt.h = none) {i : Nat} {p : List Nat} (hok : okS (i :: p) rt.ty rt.x (rt.k + 1)) :
    ∃ b o cs F' pl', addrP (pl r) rt (i :: p) = .pointer (some ⟨b, o, none⟩) ∧ Loc w b o cs ∧
      Own w S (rt.at (i :: p)).t (dep (i :: p) rt.ty (rt.k + 1)) (rt.at (i :: p)).x none (atCT (i :: p) rt.ty (pl r).ct) cs F' ∧
      RelAt w0 S0 N dr pc (s.setRoot r (rt.cut (i :: p))) a w S pl' ∧ (pl' r).ct = (pl r).ct ∧ (∀ r2 n, (pl' r2).F n → (pl r2).F n) ∧
      ∀ n, F' n → (pl r).F n ∧ n < w.heap.size ∧ ¬ S n ∧ (∀ r2 rt2, (s.setRoot r (rt.cut (i :: p))).root r2 = some rt2 → ¬ (pl' r2).F n) ∧ (dr = true → ∀ i, pc i n → (i, some r) ∈ s.pins) := by
  obtain ⟨b0, o0, cs0, F0, h0, a1, _⟩ := R.place hr hok (by rw [hh]; rfl)
  obtain ⟨hv, H⟩ := R.own r rt hr
  rw [hh] at H
  have hnode : ∃ b cap kids, (pl r).ct = .node b cap kids := by
    rcases H with H | ⟨_, H⟩
    · simp at H
    · generalize (pl r).ct = c at *
      cases c with
      | nil => rw [H.1] at hok; simp [okS] at hok
      | leaf => exact H.elim
      | pair => exact H.elim
      | node b cap kids => exact ⟨_, _, _, rfl⟩
  obtain ⟨cs', F', b', o', e1, e2, e3, e4, e5, e6⟩ := Fer.punch (i :: p) rt.ty (rt.k + 1) rt.x (pl r).ct [hv] (pl r).F 0 0 H hok (.inl ⟨_, _, _, _, rfl, rfl⟩)
  have R1 := R.setRoot (rt' := rt.cut (i :: p)) (kr := fun _ => true) (kp := fun _ => true) (w' := w) (ct' := (pl r).ct) (F' := fun n => (pl r).F n ∧ ¬ F' n) hr rfl rfl rfl (SameOut.refl w) (Nat.le_refl _) (fun _ _ _ => rfl)
    (show Own w S rt.ty (rt.k + 1) rt.x (some (i :: p)) (pl r).ct [hv] _ from e5) (fun n hn => ⟨(R.Flt r rt n hr hn.1).1, .inl hn.1⟩) (same_names rt _ _)
  rw [cutEnv_all] at R1
  refine ⟨b', o', cs', F', _, by simp only [addrP]; rw [e1], e2, e3, R1, by simp, (fun r2 n h => by
    by_cases e : r2 = r
    · subst e; simp only [if_true] at h; exact h.1
    · simp only [if_neg e] at h; exact h), fun n hn => ⟨e4 n hn, (R.Flt r rt n hr (e4 n hn)).1, (R.Flt r rt n hr (e4 n hn)).2, fun r2 rt2 h2 hb => ?_, fun hd j hj => ?_⟩⟩
  · simp only [XS.root, XS.setRoot, lk] at h2
    by_cases e : r = r2
    · subst e
      simp only [if_true] at hb
      exact hb.2 hn
    · rw [if_neg e] at h2
      simp only [if_neg (fun e' => e e'.symm : ¬ r2 = r)] at hb
      exact e (R.disj r r2 rt rt2 n hr (lk_rm_some h2).2 (e4 n hn) hb)
  · obtain ⟨q, h1, h2, h3⟩ := R.pins hd j n hj
    rw [← h3 r rt hr (e4 n hn)]; exact h1

/-- A store, of what the variable takes. -/
theorem run_store_at {T : Nat} {t : Ty} (hT : TOK P T t) {b o : Nat} {arr : Array Value} {E : Nat} {v : Value} {cs : List Value} (hb : w.heap[b]? = some (.cells arr E (0, 0))) (hv : v.cells.toList = cs)
    (hl : cs.length = t.width) (hfit : o + cs.length ≤ arr.size) (h1 : ∀ u ∈ cs, u.oneCell' = true) :
    (Instr.storeAt T (.pointer (some ⟨b, o, none⟩)) v).run P w = .ok () (w.setRow b (spl arr o cs)) := by
  obtain ⟨inf, z, hi, hs, _⟩ := hT.size
  have hsz : v.cells.size = inf.size := by rw [hs, ← hl, ← hv]; simp
  have hst := run_storeCells_at P b o E cs 0 arr w hb (by simpa using hfit) h1
  simp only [Nat.add_zero] at hst
  simp only [List.append_assoc] at hst; simp [Instr.storeAt, Instr.sureAddr, storeVar, Go.sizeOf, typeInfo, hi, hsz, hv, hst, spl]

end
end Fer
