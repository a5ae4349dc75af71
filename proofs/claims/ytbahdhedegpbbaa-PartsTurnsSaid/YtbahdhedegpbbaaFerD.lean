/- Regions whose order is drawn: one walk in the order of the text serves every order, if what may change places commutes. Over any program. -/
import Derived.Still
namespace Fer
open Go

/-- 0: looks at no memory and changes none; 1: looks at memory; 2: all else. -/
def okind : Op → Nat
  | .move _ | .assign _ | .pick _ _ _ | .nilCheck _ | .binOp _ _ _ _ _ | .unOp _ _ _ | .convert _ _ _ | .makeInterface _ _
  | .slice _ _ _ _ _ | .fieldAddr _ _ _ | .field _ _ _ | .indexAddr _ _ _ | .index _ _ _ | .extract _ _ | .makeFunc _ _ _ | .build _ _ => 0
  | .call { callee := .builtin .len, .. } | .call { callee := .builtin .max, .. } | .call { callee := .builtin .min, .. } => 0
  | .load _ _ => 1
  | _ => 2

/-- i taken first, j later: may they change places? (A load that goes first pins its block: what does not wait for it must leave that block.) -/
def okMate (i j : Nat) : Bool := decide (i ≤ 1) || j == 0

abbrev Pins := Nat → Nat → Prop
def noPins : Pins := fun _ _ => False
def addPin (i b : Nat) (p : Pins) : Pins := fun i' b' => (i' = i ∧ b' = b) ∨ p i' b'
theorem addPin_comm (i b j c : Nat) (p : Pins) : addPin i b (addPin j c p) = addPin j c (addPin i b p) := by
  funext x y; apply propext; unfold addPin
  constructor
  · rintro (h | h | h)
    · exact .inr (.inl h)
    · exact .inl h
    · exact .inr (.inr h)
  · rintro (h | h | h)
    · exact .inr (.inl h)
    · exact .inl h
    · exact .inr (.inr h)

def waitsOn (o : Oper) (i : Nat) : Bool := o.after.any fun e => Region.binds .any e && e.on == i

def kept (o : Oper) (pins : Pins) (w w' : World) : Prop := ∀ i b, pins i b → waitsOn o i = false → w'.heap[b]? = w.heap[b]?

section
variable {P : Program} {ops : Array Oper}

def noQ : Exit → Act → World → Prop := fun _ _ _ => False

/-- One operation, by its kind. -/
def kUpon (P : Program) (o : Oper) (i : Nat) (pins : Pins) (a : Act) (w : World) (K : Pins → Act → World → Prop) : Prop :=
  match okind o.op with
  | 0 => ∃ v, (∀ w', (execOp a.eval o).run P w' = .ok (.value v) w') ∧ K pins (a.put o.dst v) w
  | 1 => ∃ v b, (∀ w', w'.heap[b]? = w.heap[b]? → (execOp a.eval o).run P w' = .ok (.value v) w') ∧ K (addPin i b pins) (a.put o.dst v) w
  | _ => o.wp P a w (fun a' w' => kept o pins w w' ∧ K pins a' w') noQ

variable {o : Oper} {i : Nat} {pins : Pins} {a : Act} {w : World} {K K' : Pins → Act → World → Prop}

theorem kU0 (h : okind o.op = 0) :
    kUpon P o i pins a w K ↔ ∃ v, (∀ w', (execOp a.eval o).run P w' = .ok (.value v) w') ∧ K pins (a.put o.dst v) w := by unfold kUpon; simp only [h]
theorem kU1 (h : okind o.op = 1) :
    kUpon P o i pins a w K ↔ ∃ v b, (∀ w', w'.heap[b]? = w.heap[b]? → (execOp a.eval o).run P w' = .ok (.value v) w') ∧ K (addPin i b pins) (a.put o.dst v) w := by
  unfold kUpon; simp only [h]
theorem kU2 (h0 : okind o.op ≠ 0) (h1 : okind o.op ≠ 1) :
    kUpon P o i pins a w K ↔ o.wp P a w (fun a' w' => kept o pins w w' ∧ K pins a' w') noQ := by
  unfold kUpon
  split
  · rename_i e; exact absurd e h0
  · rename_i e; exact absurd e h1
  · rfl

def kOper (P : Program) (ops : Array Oper) (o : Oper) (i : Nat) (pins : Pins) (a : Act) (w : World) (K : Pins → Act → World → Prop) : Prop :=
  if Region.wanted o (yielded ops a.tmps) then kUpon P o i pins a w K else K pins (a.put o.dst undef) w

/-- The walk in a given order. -/
def wpOrd (P : Program) (ops : Array Oper) (Q : Pins → Act → World → Prop) : List Nat → Pins → Act → World → Prop
  | [], pins, a, w => Q pins a w
  | i :: rest, pins, a, w =>
    match ops[i]? with
    | none => False
    | some o => kOper P ops o i pins a w (wpOrd P ops Q rest)

def kOp (P : Program) (ops : Array Oper) (i : Nat) (pins : Pins) (K : Pins → Act → World → Prop) (a : Act) (w : World) : Prop :=
  match ops[i]? with
  | none => K pins a w
  | some o => kOper P ops o i pins a w K

def wpAnyX (P : Program) (ops : Array Oper) (Q : Pins → Act → World → Prop) : Nat → Array Bool → Pins → Act → World → Prop
  | 0, listed, pins, a, w => Region.ready .any ops listed = [] ∧ Q pins a w
  | fuel + 1, listed, pins, a, w =>
    (Region.ready .any ops listed = [] → Q pins a w) ∧
    ∀ i ∈ Region.ready .any ops listed, kOp P ops i pins (wpAnyX P ops Q fuel (listed.setIfInBounds i true)) a w

theorem upon_noQ {o : Oper} {a : Act} {K : Act → World → Prop} {Q : Exit → Act → World → Prop} {r : Result Next}
    (h : o.upon P a K noQ r) : o.upon P a K Q r := by
  cases r with
  | ok n w' =>
    cases n <;> simp only [Oper.upon] at h ⊢ <;> try exact h
    refine Calls.mono h fun e w'' he => ?_
    cases e with
    | returned v => exact he
    | panicked c => exact he.elim
    | outgrown => obtain ⟨_, _, h⟩ := he; exact h.elim
  | halt x w' => cases x <;> simp only [Oper.upon] at h ⊢ <;> exact h.elim

theorem kUpon_wp {Q : Exit → Act → World → Prop} {K : Act → World → Prop} (h : kUpon P o i pins a w (fun _ => K)) : o.wp P a w K Q := by
  unfold kUpon at h
  split at h
  · obtain ⟨v, h1, h2⟩ := h
    unfold Oper.wp; rw [h1 w]; exact h2
  · obtain ⟨v, b, h1, h2⟩ := h
    unfold Oper.wp; rw [h1 w rfl]; exact h2
  · exact upon_noQ (Oper.wp_mono (fun a w h => h.2) h)

theorem kOp_wp {Q : Exit → Act → World → Prop} {K : Act → World → Prop} (h : kOp P ops i pins (fun _ => K) a w) : wpOp P ops Q i K a w := by
  unfold kOp kOper at h
  unfold wpOp
  split
  · rename_i ho; simpa [ho] using h
  · rename_i o ho
    simp only [ho] at h
    split
    · rename_i hw; simp only [hw, if_true] at h; exact .inl (kUpon_wp h)
    · rename_i hw; simp only [hw] at h; exact h

theorem kUpon_mono (hk : ∀ p a w, K p a w → K' p a w) (h : kUpon P o i pins a w K) : kUpon P o i pins a w K' := by
  unfold kUpon at *
  split at h
  · obtain ⟨v, h1, h2⟩ := h; exact ⟨v, h1, hk _ _ _ h2⟩
  · obtain ⟨v, b, h1, h2⟩ := h; exact ⟨v, b, h1, hk _ _ _ h2⟩
  · exact Oper.wp_mono (fun a w h => ⟨h.1, hk _ _ _ h.2⟩) h

theorem kOper_mono (hk : ∀ p a w, K p a w → K' p a w) (h : kOper P ops o i pins a w K) : kOper P ops o i pins a w K' := by
  unfold kOper at *
  split
  · rename_i hw; rw [if_pos hw] at h; exact kUpon_mono hk h
  · rename_i hw; rw [if_neg hw] at h; exact hk _ _ _ h

theorem kOp_mono (hk : ∀ p a w, K p a w → K' p a w) (h : kOp P ops i pins K a w) : kOp P ops i pins K' a w := by
  unfold kOp at *
  split
  · rename_i ho; simp only [ho] at h; exact hk _ _ _ h
  · rename_i o ho; simp only [ho] at h; exact kOper_mono hk h

theorem kOp_wp' {Q : Exit → Act → World → Prop} {K' : Act → World → Prop} (hk : ∀ p a w, K p a w → K' a w) (h : kOp P ops i pins K a w) : wpOp P ops Q i K' a w :=
  kOp_wp (kOp_mono (K' := fun _ => K') hk h)

theorem wpAny_of_X {Q : Pins → Act → World → Prop} {Q' : Exit → Act → World → Prop} (hQ : ∀ p a w, Q p a w → Q' .normal a w) : ∀ (fuel : Nat) (listed : Array Bool) (pins : Pins) (a : Act) (w : World),
    wpAnyX P ops Q fuel listed pins a w → wpAny P .any ops Q' fuel listed a w
  | 0, _, _, _, _, h => ⟨h.1, hQ _ _ _ h.2⟩
  | fuel + 1, _, _, _, _, h => ⟨fun h0 => hQ _ _ _ (h.1 h0), fun i hi => kOp_wp' (fun p a' w' h' => wpAny_of_X hQ fuel _ p a' w' h') (h.2 i hi)⟩

/-- What comes out of an operation of kind 2 is something. -/
theorem upon_some {o : Oper} {a : Act} {K : Act → World → Prop} {r : Result Next} {Z : Prop} (h : o.upon P a K noQ r)
    (hz : ∀ (a' : Act) (v : Value) (w' : World), (∃ ds, a' = ({ a with defers := ds } : Act).put o.dst v) → K a' w' → Z) : Z := by
  cases r with
  | ok n w' =>
    cases n <;> simp only [Oper.upon] at h
    case value v => exact hz _ v w' ⟨a.defers, rfl⟩ h
    case skip => exact hz _ undef w' ⟨a.defers, rfl⟩ h
    case defer d => exact hz _ undef w' ⟨d :: a.defers, rfl⟩ h
    case enter f args =>
      obtain ⟨e, w'', fr, hR, _⟩ := h []
      cases e with
      | returned v => exact hz _ v w'' ⟨a.defers, rfl⟩ hR
      | panicked c => exact hR.elim
      | outgrown => obtain ⟨_, _, h⟩ := hR; exact h.elim
    case row row args =>
      obtain ⟨v, w'', hR, _⟩ := h default []
      exact hz _ v w'' ⟨a.defers, rfl⟩ hR
  | halt x w' => cases x <;> simp only [Oper.upon] at h <;> exact h.elim

theorem kOper_yes (h : Region.wanted o (yielded ops a.tmps) = true) : kOper P ops o i pins a w K ↔ kUpon P o i pins a w K := by
  unfold kOper; rw [if_pos h]
theorem kOper_no (h : ¬ Region.wanted o (yielded ops a.tmps) = true) : kOper P ops o i pins a w K ↔ K pins (a.put o.dst undef) w := by
  unfold kOper; rw [if_neg h]

theorem put_defers' (a : Act) (ds : List Deferred) (d : Option Tmp) (u : Value) : ({ a with defers := ds } : Act).put d u = ({ a.put d u with defers := ds } : Act) := by cases d <;> rfl
theorem defers_put (a : Act) (d : Option Tmp) (u : Value) : (a.put d u).defers = a.defers := by cases d <;> rfl

/-- An operation carried out behind another one's store of its result, the two apart. -/
theorem upon_put {o : Oper} {a : Act} {d : Option Tmp} {u : Value} {K K' : Act → World → Prop} (h2 : ∀ e, d = some e → o.dst ≠ some e) (r : Result Next)
    (hK : ∀ (a' : Act) (w' : World), (∃ ds v, a' = ({ a with defers := ds } : Act).put o.dst v) → K' (a'.put d u) w' → K a' w')
    (h : o.upon P (a.put d u) K' noQ r) : o.upon P a K noQ r := by
  have pc : ∀ (a : Act) v, (a.put d u).put o.dst v = (a.put o.dst v).put d u := fun a v => Act.put_comm a u v h2
  cases r with
  | ok n w' =>
    cases n <;> simp only [Oper.upon] at h ⊢
    case value v => exact hK _ _ ⟨a.defers, v, rfl⟩ (by rw [← pc]; exact h)
    case skip => exact hK _ _ ⟨a.defers, undef, rfl⟩ (by rw [← pc]; exact h)
    case defer dd =>
      refine hK _ _ ⟨dd :: a.defers, undef, rfl⟩ ?_
      rw [← pc]
      rw [defers_put] at h
      have e : ({ a with defers := dd :: a.defers } : Act).put d u = ({ a.put d u with defers := dd :: a.defers } : Act) := put_defers' a _ d u
      rw [e]
      exact h
    case enter f args =>
      refine Calls.mono h fun e w'' he => ?_
      cases e with
      | returned v => exact hK _ _ ⟨a.defers, v, rfl⟩ (by rw [← pc]; exact he)
      | panicked c => exact he
      | outgrown => exact he
    case row row args => exact Rows.mono h fun v w'' he => hK _ _ ⟨a.defers, v, rfl⟩ (by rw [← pc]; exact he)
  | halt x w' => cases x <;> simp only [Oper.upon] at h ⊢ <;> exact h

/-- .. and the other way round. -/
theorem upon_unput {o : Oper} {a : Act} {d : Option Tmp} {u : Value} {K K' : Act → World → Prop} (h2 : ∀ e, d = some e → o.dst ≠ some e) (r : Result Next)
    (hK : ∀ (a' : Act) (w' : World), (∃ ds v, a' = ({ a with defers := ds } : Act).put o.dst v) → K a' w' → K' (a'.put d u) w')
    (h : o.upon P a K noQ r) : o.upon P (a.put d u) K' noQ r := by
  have pc : ∀ (a : Act) v, (a.put d u).put o.dst v = (a.put o.dst v).put d u := fun a v => Act.put_comm a u v h2
  cases r with
  | ok n w' =>
    cases n <;> simp only [Oper.upon] at h ⊢
    case value v => rw [pc]; exact hK _ _ ⟨a.defers, v, rfl⟩ h
    case skip => rw [pc]; exact hK _ _ ⟨a.defers, undef, rfl⟩ h
    case defer dd =>
      have := hK _ _ ⟨dd :: a.defers, undef, rfl⟩ h
      have e : ({ a with defers := dd :: a.defers } : Act).put d u = ({ a.put d u with defers := dd :: a.defers } : Act) := put_defers' a _ d u
      rw [← pc, e] at this
      rw [defers_put]
      exact this
    case enter f args =>
      refine Calls.mono h fun e w'' he => ?_
      cases e with
      | returned v => simp only at he ⊢; rw [pc]; exact hK _ _ ⟨a.defers, v, rfl⟩ he
      | panicked c => exact he
      | outgrown => exact he
    case row row args => exact Rows.mono h fun v w'' he => by rw [pc]; exact hK _ _ ⟨a.defers, v, rfl⟩ he
  | halt x w' => cases x <;> simp only [Oper.upon] at h ⊢ <;> exact h

/-- Two that commute: j ahead of i. -/
theorem k_swap {oi oj : Oper} {i j : Nat} (hap : oi.apart ops oj = true) (hsi : ∀ cs b, oi.op ≠ .select cs b) (hsj : ∀ cs b, oj.op ≠ .select cs b)
    (hm : okMate (okind oi.op) (okind oj.op) = true) (hnw : waitsOn oj i = false) {K : Pins → Act → World → Prop} {pins : Pins} {a : Act} {w : World}
    (h : kOper P ops oi i pins a w (fun p a' w' => kOper P ops oj j p a' w' K)) : kOper P ops oj j pins a w (fun p a' w' => kOper P ops oi i p a' w' K) := by
  obtain ⟨h1, h2, h3⟩ := Oper.apart_spec hap
  have h2' : ∀ d, oj.dst = some d → oi.dst ≠ some d := fun d hd e => h2 d e hd
  have ei : ∀ (a : Act) u, execOp (a.put oj.dst u).eval oi = execOp a.eval oi := fun a u => execOp_put oi hsi a oj.dst u h3
  have ej : ∀ (a : Act) u, execOp (a.put oi.dst u).eval oj = execOp a.eval oj := fun a u => execOp_put oj hsj a oi.dst u h1
  have wi : ∀ (a : Act) u, Region.wanted oi (yielded ops (a.put oj.dst u).tmps) = Region.wanted oi (yielded ops a.tmps) := fun a u => wanted_put oi a oj.dst u h3
  have wj : ∀ (a : Act) u, Region.wanted oj (yielded ops (a.put oi.dst u).tmps) = Region.wanted oj (yielded ops a.tmps) := fun a u => wanted_put oj a oi.dst u h1
  have pc : ∀ (a : Act) v u, (a.put oi.dst v).put oj.dst u = (a.put oj.dst u).put oi.dst v := fun a v u => Act.put_comm a v u h2
  have ejd : ∀ (a' : Act) (ds : List Deferred) v, a' = ({ a with defers := ds } : Act).put oi.dst v → execOp a'.eval oj = execOp a.eval oj ∧ Region.wanted oj (yielded ops a'.tmps) = Region.wanted oj (yielded ops a.tmps) := by
    rintro a' ds v rfl
    exact ⟨by rw [put_defers']; exact ej a v, by rw [put_defers']; exact wj a v⟩
  have eid : ∀ (a' : Act) (ds : List Deferred) v, a' = ({ a with defers := ds } : Act).put oj.dst v → execOp a'.eval oi = execOp a.eval oi ∧ Region.wanted oi (yielded ops a'.tmps) = Region.wanted oi (yielded ops a.tmps) := by
    rintro a' ds v rfl
    exact ⟨by rw [put_defers']; exact ei a v, by rw [put_defers']; exact wi a v⟩
  by_cases hwi : Region.wanted oi (yielded ops a.tmps) = true
  · rw [kOper_yes hwi] at h
    by_cases hki : okind oi.op = 0
    · -- i looks at no memory
      obtain ⟨v, hv, h⟩ := (kU0 hki).1 h
      have back : ∀ (p : Pins) (a' : Act) (w' : World), (∃ ds u, a' = ({ a with defers := ds } : Act).put oj.dst u) → K p (a'.put oi.dst v) w' → kOper P ops oi i p a' w' K := by
        rintro p a' w' ⟨ds, u, ha⟩ hK
        obtain ⟨q1, q2⟩ := eid a' ds u ha
        rw [kOper_yes (by rw [q2]; exact hwi), kU0 hki]
        exact ⟨v, fun w'' => by rw [q1]; exact hv w'', hK⟩
      by_cases hwj : Region.wanted oj (yielded ops a.tmps) = true
      · rw [kOper_yes (by rw [wj]; exact hwj)] at h
        rw [kOper_yes hwj]
        by_cases hkj : okind oj.op = 0
        · obtain ⟨u, hu, hK⟩ := (kU0 hkj).1 h
          exact (kU0 hkj).2 ⟨u, fun w'' => by rw [← ej a v]; exact hu w'', back _ _ _ ⟨a.defers, u, rfl⟩ (by rw [← pc]; exact hK)⟩
        · by_cases hkj1 : okind oj.op = 1
          · obtain ⟨u, b, hu, hK⟩ := (kU1 hkj1).1 h
            exact (kU1 hkj1).2 ⟨u, b, fun w'' hw'' => by rw [← ej a v]; exact hu w'' hw'', back _ _ _ ⟨a.defers, u, rfl⟩ (by rw [← pc]; exact hK)⟩
          · rw [kU2 hkj hkj1] at h ⊢
            unfold Oper.wp at *
            rw [ej] at h
            exact upon_put h2 _ (fun a' w' ha hK => ⟨hK.1, back _ a' w' ha hK.2⟩) h
      · rw [kOper_no (by rw [wj]; exact hwj)] at h
        rw [kOper_no hwj]
        exact back _ _ _ ⟨a.defers, undef, rfl⟩ (by rw [← pc]; exact h)
    · by_cases hki1 : okind oi.op = 1
      · -- i looks at memory: its block is pinned
        obtain ⟨v, b, hv, h⟩ := (kU1 hki1).1 h
        have back : ∀ (p : Pins) (a' : Act) (w' : World), (∃ ds u, a' = ({ a with defers := ds } : Act).put oj.dst u) → w'.heap[b]? = w.heap[b]? → K (addPin i b p) (a'.put oi.dst v) w' → kOper P ops oi i p a' w' K := by
          rintro p a' w' ⟨ds, u, ha⟩ hb hK
          obtain ⟨q1, q2⟩ := eid a' ds u ha
          rw [kOper_yes (by rw [q2]; exact hwi), kU1 hki1]
          exact ⟨v, b, fun w'' hw'' => by rw [q1]; exact hv w'' (hw''.trans hb), hK⟩
        by_cases hwj : Region.wanted oj (yielded ops a.tmps) = true
        · rw [kOper_yes (by rw [wj]; exact hwj)] at h
          rw [kOper_yes hwj]
          by_cases hkj : okind oj.op = 0
          · obtain ⟨u, hu, hK⟩ := (kU0 hkj).1 h
            exact (kU0 hkj).2 ⟨u, fun w'' => by rw [← ej a v]; exact hu w'', back _ _ _ ⟨a.defers, u, rfl⟩ rfl (by rw [← pc]; exact hK)⟩
          · by_cases hkj1 : okind oj.op = 1
            · obtain ⟨u, c, hu, hK⟩ := (kU1 hkj1).1 h
              exact (kU1 hkj1).2 ⟨u, c, fun w'' hw'' => by rw [← ej a v]; exact hu w'' hw'', back _ _ _ ⟨a.defers, u, rfl⟩ rfl (by rw [← pc, addPin_comm]; exact hK)⟩
            · rw [kU2 hkj hkj1] at h ⊢
              unfold Oper.wp at *
              rw [ej] at h
              refine upon_put h2 _ (fun a' w' ha hK => ?_) h
              obtain ⟨hk, hK⟩ := hK
              exact ⟨fun i' b' hp hw' => hk i' b' (.inr hp) hw', back _ a' w' ha (hk i b (.inl ⟨rfl, rfl⟩) hnw) hK⟩
        · rw [kOper_no (by rw [wj]; exact hwj)] at h
          rw [kOper_no hwj]
          exact back _ _ _ ⟨a.defers, undef, rfl⟩ rfl (by rw [← pc]; exact h)
      · -- i may do anything: j looks at no memory
        have hkj : okind oj.op = 0 := by
          simp only [okMate, Bool.or_eq_true, beq_iff_eq, decide_eq_true_eq] at hm
          rcases hm with hm | hm
          · omega
          · exact hm
        rw [kU2 hki hki1] at h
        by_cases hwj : Region.wanted oj (yielded ops a.tmps) = true
        · have hu : ∃ u, ∀ w'', (execOp a.eval oj).run P w'' = .ok (.value u) w'' := by
            refine upon_some h fun a' v w' ⟨ds, ha'⟩ hK => ?_
            obtain ⟨q1, q2⟩ := ejd a' ds v ha'
            have hK := hK.2
            rw [kOper_yes (by rw [q2]; exact hwj), kU0 hkj] at hK
            obtain ⟨u, hu, _⟩ := hK
            exact ⟨u, fun w'' => by rw [← q1]; exact hu w''⟩
          obtain ⟨u, hu⟩ := hu
          rw [kOper_yes hwj, kU0 hkj]
          refine ⟨u, hu, ?_⟩
          rw [kOper_yes (by rw [wi]; exact hwi), kU2 hki hki1]
          unfold Oper.wp at *
          rw [ei]
          refine upon_unput h2' _ ?_ h
          rintro a' w' ⟨ds, v, ha'⟩ ⟨hkp, hK⟩
          obtain ⟨q1, q2⟩ := ejd a' ds v ha'
          rw [kOper_yes (by rw [q2]; exact hwj), kU0 hkj] at hK
          obtain ⟨u', hu', hK⟩ := hK
          have e3 := hu' w'
          rw [q1, hu w'] at e3
          simp only [Result.ok.injEq, Next.value.injEq, and_true] at e3
          rw [e3]
          exact ⟨hkp, hK⟩
        · rw [kOper_no hwj, kOper_yes (by rw [wi]; exact hwi), kU2 hki hki1]
          unfold Oper.wp at *
          rw [ei]
          refine upon_unput h2' _ ?_ h
          rintro a' w' ⟨ds, v, ha'⟩ ⟨hkp, hK⟩
          obtain ⟨q1, q2⟩ := ejd a' ds v ha'
          rw [kOper_no (by rw [q2]; exact hwj)] at hK
          exact ⟨hkp, hK⟩
  · -- i is not wanted
    rw [kOper_no hwi] at h
    have back : ∀ (p : Pins) (a' : Act) (w' : World), (∃ ds u, a' = ({ a with defers := ds } : Act).put oj.dst u) → K p (a'.put oi.dst undef) w' → kOper P ops oi i p a' w' K := by
      rintro p a' w' ⟨ds, u, ha⟩ hK
      obtain ⟨q1, q2⟩ := eid a' ds u ha
      rw [kOper_no (by rw [q2]; exact hwi)]
      exact hK
    by_cases hwj : Region.wanted oj (yielded ops a.tmps) = true
    · rw [kOper_yes (by rw [wj]; exact hwj)] at h
      rw [kOper_yes hwj]
      by_cases hkj : okind oj.op = 0
      · obtain ⟨u, hu, hK⟩ := (kU0 hkj).1 h
        exact (kU0 hkj).2 ⟨u, fun w'' => by rw [← ej a undef]; exact hu w'', back _ _ _ ⟨a.defers, u, rfl⟩ (by rw [← pc]; exact hK)⟩
      · by_cases hkj1 : okind oj.op = 1
        · obtain ⟨u, b, hu, hK⟩ := (kU1 hkj1).1 h
          exact (kU1 hkj1).2 ⟨u, b, fun w'' hw'' => by rw [← ej a undef]; exact hu w'' hw'', back _ _ _ ⟨a.defers, u, rfl⟩ (by rw [← pc]; exact hK)⟩
        · rw [kU2 hkj hkj1] at h ⊢
          unfold Oper.wp at *
          rw [ej] at h
          exact upon_put h2 _ (fun a' w' ha hK => ⟨hK.1, back _ a' w' ha hK.2⟩) h
    · rw [kOper_no (by rw [wj]; exact hwj)] at h
      rw [kOper_no hwj]
      exact back _ _ _ ⟨a.defers, undef, rfl⟩ (by rw [← pc]; exact h)

theorem kOper_false (h : kOper P ops o i pins a w (fun _ _ _ => False)) : False := by
  unfold kOper at h
  split at h
  · by_cases h0 : okind o.op = 0
    · obtain ⟨_, _, h⟩ := (kU0 h0).1 h; exact h
    · by_cases h1 : okind o.op = 1
      · obtain ⟨_, _, _, h⟩ := (kU1 h1).1 h; exact h
      · rw [kU2 h0 h1] at h
        exact upon_some h fun _ _ _ _ h => h.2
  · exact h

/-- An operation that may come up now may be taken first. -/
theorem anyX_first {Q : Pins → Act → World → Prop} {i : Nat} {oi : Oper} (hi : ops[i]? = some oi) (hsel : ∀ (j : Nat) (o : Oper) cs b, ops[j]? = some o → o.op ≠ .select cs b) :
    ∀ (fuel : Nat) (listed : Array Bool) (pins : Pins) (a : Act) (w : World),
      (∀ j oj, ops[j]? = some oj → j ≠ i → listed.getD j true = false → waitsOn oj i = false → oi.apart ops oj = true ∧ okMate (okind oi.op) (okind oj.op) = true) →
      i ∈ Region.ready .any ops listed →
      kOper P ops oi i pins a w (wpAnyX P ops Q fuel (listed.setIfInBounds i true)) → wpAnyX P ops Q (fuel + 1) listed pins a w := by
  intro fuel
  induction fuel with
  | zero =>
    intro listed pins a w hfree hr H
    refine ⟨fun h => (by rw [h] at hr; cases hr), fun j hj => ?_⟩
    by_cases hji : j = i
    · subst hji; unfold kOp; rw [hi]; exact H
    · have hj' := ready_mono hj hji
      exact (kOper_false (kOper_mono (fun p a' w' h => by
        have h1 := h.1
        rw [h1] at hj'
        cases hj') H)).elim
  | succ fuel ih =>
    intro listed pins a w hfree hr H
    refine ⟨fun h => (by rw [h] at hr; cases hr), fun j hj => ?_⟩
    by_cases hji : j = i
    · subst hji; unfold kOp; rw [hi]; exact H
    · obtain ⟨hjun, oj, hoj, hall⟩ := mem_ready.1 hj
      have hnot : waitsOn oj i = false := by
        cases hw : waitsOn oj i with
        | false => rfl
        | true =>
          obtain ⟨e, he, hb⟩ := Array.any_eq_true'.1 hw
          simp only [Bool.and_eq_true, beq_iff_eq] at hb
          have h1 := hall e he hb.1
          have h0 := (mem_ready.1 hr).1
          rw [hb.2] at h1
          rcases Nat.lt_or_ge i listed.size with h' | h'
          · simp [h'] at h0 h1; rw [h0] at h1; cases h1
          · simp [Array.getElem?_eq_none h'] at h1
      obtain ⟨hap, hmate⟩ := hfree j oj hoj hji hjun hnot
      have H1 : kOper P ops oi i pins a w (fun p a' w' => kOper P ops oj j p a' w' (wpAnyX P ops Q fuel ((listed.setIfInBounds i true).setIfInBounds j true))) := by
        refine kOper_mono (fun p a' w' h => ?_) H
        have := h.2 j (ready_mono hj hji)
        unfold kOp at this
        rw [hoj] at this
        exact this
      have H2 := k_swap hap (fun cs b => hsel i oi cs b hi) (fun cs b => hsel j oj cs b hoj) hmate hnot H1
      unfold kOp
      rw [hoj]
      refine kOper_mono (fun p a' w' h => ih (listed.setIfInBounds j true) p a' w' ?_ (ready_mono hr (Ne.symm hji)) ?_) H2
      · intro k ok hk hki hun hno
        refine hfree k ok hk hki ?_ hno
        by_cases hjk : j = k
        · subst hjk; exact hjun
        · rw [getD_set_ne true hjk] at hun; exact hun
      · rw [Array.setIfInBounds_comm _ _ hji]
        exact h

/-- May k be taken first, the listed ones done? -/
def freeX (ops : Array Oper) (listed : Array Bool) (k : Nat) : Bool :=
  match ops[k]? with
  | none => false
  | some ok => (List.range ops.size).all fun j => j == k || listed.getD j true ||
      match ops[j]? with
      | none => true
      | some oj => waitsOn oj k || (ok.apart ops oj && okMate (okind ok.op) (okind oj.op))

/-- The order 'l' serves for every order. -/
def ordFrom (ops : Array Oper) : List Nat → Array Bool → Bool
  | [], listed => (Region.ready .any ops listed).isEmpty
  | k :: l, listed => (Region.ready .any ops listed).contains k && freeX ops listed k && ordFrom ops l (listed.setIfInBounds k true)

def ordOK (ops : Array Oper) (l : List Nat) : Bool := Region.noSelect ops && l.length == ops.size && ordFrom ops l (Array.replicate ops.size false)

theorem freeX_spec {listed : Array Bool} {k : Nat} {ok : Oper} (hk : ops[k]? = some ok) (h : freeX ops listed k = true) :
    ∀ j oj, ops[j]? = some oj → j ≠ k → listed.getD j true = false → waitsOn oj k = false → ok.apart ops oj = true ∧ okMate (okind ok.op) (okind oj.op) = true := by
  intro j oj hj hjk hun hno
  unfold freeX at h
  rw [hk] at h
  have hlt : j < ops.size := (Array.getElem?_eq_some_iff.1 hj).1
  have h1 := List.all_eq_true.1 h j (List.mem_range.2 hlt)
  simp only [hj, Bool.or_eq_true, Bool.and_eq_true, beq_iff_eq] at h1
  rcases h1 with (h1 | h1) | h1 | h1
  · exact absurd h1 hjk
  · rw [hun] at h1; cases h1
  · rw [hno] at h1; cases h1
  · exact h1

theorem anyX_ord {Q : Pins → Act → World → Prop} (hs : Region.noSelect ops = true) : ∀ (l : List Nat) (listed : Array Bool) (pins : Pins) (a : Act) (w : World),
    ordFrom ops l listed = true → wpOrd P ops Q l pins a w → wpAnyX P ops Q l.length listed pins a w
  | [], _, _, _, _, hB, h => ⟨by simpa [ordFrom] using hB, h⟩
  | k :: l, listed, pins, a, w, hB, h => by
    simp only [ordFrom, Bool.and_eq_true] at hB
    obtain ⟨⟨hr, hf⟩, hB'⟩ := hB
    simp only [wpOrd] at h
    cases h0 : ops[k]? with
    | none => rw [h0] at h; exact h.elim
    | some o =>
      rw [h0] at h
      refine anyX_first h0 (Region.noSelect_spec hs) l.length listed pins a w (freeX_spec h0 hf) (by simpa using hr) ?_
      exact kOper_mono (fun p a' w' h' => anyX_ord hs l _ p a' w' hB' h') h

theorem wp_region_ord {id : Nat} {Q : Exit → Act → World → Prop} {a : Act} {w : World} (l : List Nat) (hm : P.follows .mixedOrders = true) (hB : ordOK ops l = true)
    (h : wpOrd P ops (fun _ a' w' => Q .normal a' w') l noPins a { w with drawn := w.drawn + 1 }) : (Code.region id ops true).wp P Q a w := by
  simp only [ordOK, Bool.and_eq_true, beq_iff_eq] at hB
  refine wp_region_any hm (wpAny_of_X (Q := fun _ a' w' => Q .normal a' w') (fun _ _ _ h => h) _ _ noPins _ _ ?_)
  have := anyX_ord hB.1.1 l (Array.replicate ops.size false) noPins a { w with drawn := w.drawn + 1 } hB.2 h
  rwa [hB.1.2] at this

end
end Fer
