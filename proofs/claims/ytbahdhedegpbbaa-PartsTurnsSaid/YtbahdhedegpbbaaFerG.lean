/- All operations that look at no memory, in one function. Over any program. -/
import Derived.Test.YtbahdhedegpbbaaFerF
import Derived.Laws.Tables
namespace Fer
open Go

def lenAV (s : XS) (x : AV) : Option PF :=
  match x with
  | .dat (.list _ _) l => some ⟨True, List.length l ≤ 9223372036854775807, .dat (.int .i64) (List.length l : Nat)⟩
  | .ref r p => match s.root r with
    | some rt => match (rt.at p).t with
      | .list _ _ => if hclear p rt.h = true then some ⟨okS p rt.ty rt.x (rt.k + 1) ∧ 0 < dep p rt.ty (rt.k + 1), (rt.at p).len ≤ 9223372036854775807, .dat (.int .i64) ((rt.at p).len : Nat)⟩ else none
      | _ => none
    | none => none
  | .sub r p lo hi => match s.root r with
    | some rt => match (rt.at p).t with
      | .list _ _ => if hclear p rt.h = true then some ⟨okS p rt.ty rt.x (rt.k + 1) ∧ 0 < dep p rt.ty (rt.k + 1), lo ≤ hi, .dat (.int .i64) ((hi - lo : Nat) : Int)⟩ else none
      | _ => none
    | none => none
  | .dat .str z => some ⟨True, True, .dat (.int .i64) (z.size : Nat)⟩
  | _ => none

def capsOf (s : XS) : List Operand → Option (List Nat)
  | [] => some []
  | x :: l => match s.ev x, capsOf s l with
    | some (.ptr r [0]), some c => some (r :: c)
    | _, _ => none

def sameAV (s : XS) (x : AV) : Option PF :=
  match x with
  | .ptr r p => match s.root r with | some _ => some (PF.of True (.ptr r p)) | none => none
  | .rptr t x => some (PF.of True (.rptr t x))
  | .clo f c => some (PF.of True (.clo f c))
  | _ => none

def convAV (te : Option TE) (x : AV) : Option PF :=
  match te, x with
  | some (.basic (.int k')), .dat (.int _) n => some (PF.of (inR k' n) (.dat (.int k') n))
  | _, _ => none

def strIdx (te : Option TE) (x ix : AV) : Option PF :=
  match te, x, ix with
  | some (.basic .str), .dat .str z, .dat (.int _) i => some (PF.of (0 ≤ i ∧ i < z.size) (.dat (.int .u8) ((z.data.toList.getD i.toNat 0).toNat : Int)))
  | _, _, _ => none

def opt2 {α β γ : Type} (f : α → β → Option γ) : Option α → Option β → Option γ
  | some a, some b => f a b
  | _, _ => none

/-- A pair of numbers out of its parts. -/
def bldAV (te : Option TE) (parts : List (Nat × Option AV)) : Option PF :=
  match te.bind TE.ty, parts with
  | some (.prod (.int ka) (.int kb)), [(0, some (.dat (.int k) m)), (1, some (.dat (.int k') n))] => if ka = k ∧ kb = k' then some (PF.of True (.dat (.prod (.int ka) (.int kb)) (m, n))) else none
  | _, _ => none

def xpure (tt : List (Nat × TE)) (s : XS) (o : Oper) : Option PF :=
  match o.op with
  | .build T parts => bldAV (lk tt T) (parts.toList.map fun x => (x.1, s.ev x.2))
  | .move x => (s.ev x).map (PF.of True)
  | .assign x => (s.ev x).map (PF.of True)
  | .pick c a b => match s.ev c with
    | some (.dat .bool c) => (if c = true then s.ev a else s.ev b).map (PF.of True)
    | _ => none
  | .binOp op T x y _ => opt2 (fun u v => (binAV (lk tt T) op u v).map PR.pf) (s.ev x) (s.ev y)
  | .unOp op _ x => match op, s.ev x with
    | .not, some (.dat .bool b) => some (PF.of True (.dat .bool (!b)))
    | .neg, some (.dat (.int k) n) => some (PF.of (inR k (0 - n)) (.dat (.int k) (-n)))
    | _, _ => none
  | .indexAddr T x ix => opt2 (idxAV tt s T) (s.ev x) (s.ev ix)
  | .slice T x lo hi mx => match mx, s.ev x with
    | none, some u => slAV tt s T u (lo.bind s.ev) (hi.bind s.ev)
    | _, _ => none
  | .extract x j => match s.ev x with
    | some (.tup l) => l[j]?.bind fun av => match av with | .tup _ => none | .agg _ => none | av => some (PF.of True av)
    | _ => none
  | .makeFunc fn first caps => match fn, first.toList with
    | .func f, [] => (capsOf s caps.toList).map fun c => PF.of True (.clo f c)
    | _, _ => none
  | .convert _ dst x => (s.ev x).bind (convAV (lk tt dst))
  | .nilCheck x => (s.ev x).bind (sameAV s)
  | .index T x ix => opt2 (strIdx (lk tt T)) (s.ev x) (s.ev ix)
  | .call c => match c.callee with
    | .builtin .len => match c.args.toList with
      | [x] => (s.ev x).bind (lenAV s)
      | _ => none
    | .builtin .max => match c.args.toList with
      | [x, y] => opt2 (fun u v => match u, v with | .dat (.int k) m, .dat (.int k') n => if k = k' then some (PF.of True (.dat (.int k) (max m n))) else none | _, _ => none) (s.ev x) (s.ev y)
      | _ => none
    | .builtin .min => match c.args.toList with
      | [x, y] => opt2 (fun u v => match u, v with | .dat (.int k) m, .dat (.int k') n => if k = k' then some (PF.of True (.dat (.int k) (min m n))) else none | _, _ => none) (s.ev x) (s.ev y)
      | _ => none
    | _ => none
  | _ => none

/-- .. and its type argument, where the model asks for one. -/
def xpureT (tt : List (Nat × TE)) (s : XS) (o : Oper) : Bool :=
  match o.op with
  | .convert src _ _ => match lk tt src with | some _ => true | none => false
  | .slice _ _ lo hi _ => (match lo with | none => true | some x => (s.ev x).isSome) && (match hi with | none => true | some x => (s.ev x).isSome)
  | .call c => match c.callee with
    | .builtin .len => match c.argTypes.toList, c.args.toList with
      | [T], [x] => match lk tt T, s.ev x with
        | some (.slice _ _ _), some (.dat (.list _ _) _) => true
        | some (.slice _ _ _), some (.ref _ _) => true
        | some (.slice _ _ _), some (.sub _ _ _ _) => true
        | some (.basic .str), some (.dat .str _) => true
        | _, _ => false
      | _, _ => false
    | _ => true
  | _ => true

section
variable {P : Program} {tt : List (Nat × TE)} {w0 : World} {S0 : Nat → Prop} {N : Nat} {dr : Bool} {pc : Pins} {s : XS} {a : Act} {w : World} {S : Nat → Prop} {pl : Nat → PL}

theorem opt2_some {α β γ : Type} {f : α → β → Option γ} {x : Option α} {y : Option β} {z : γ} (h : opt2 f x y = some z) : ∃ u v, x = some u ∧ y = some v ∧ f u v = some z := by
  unfold opt2 at h
  split at h
  · exact ⟨_, _, rfl, rfl, h⟩
  · cases h

theorem basic_te {i : Nat} {t : Ty} (h : teB P i (.basic t) = true) : match t with | .int k => P.underlying i = some (.int k) | .bool => P.underlying i = some .bool | .str => P.underlying i = some .string | _ => False := by
  simp only [teB, Bool.and_eq_true] at h
  have h := h.2
  cases t with
  | int k =>
    revert h
    cases hU : P.underlying i with
    | none => simp
    | some d => cases d <;> simp; intro e; exact e.symm
  | bool =>
    revert h
    cases hU : P.underlying i with
    | none => simp
    | some d => cases d <;> simp
  | str =>
    revert h
    cases hU : P.underlying i with
    | none => simp
    | some d => cases d <;> simp
  | raw => simp at h
  | list => simp at h
  | prod => simp at h

theorem te_under {i : Nat} {te : TE} (h : teB P i te = true) : ∃ d, P.underlying i = some d := by
  cases hU : P.underlying i with
  | some d => exact ⟨d, rfl⟩
  | none =>
    exfalso
    cases te with
    | basic t =>
      have := basic_te h
      cases t <;> simp [hU] at this
    | slice e t b => have := (slice_te h).1; rw [hU] at this; cases this
    | arr n e t => have := (arr_te h).1; rw [hU] at this; cases this
    | struct ts => simp [teB, hU] at h
    | pair e t => have := (pair_te h).1; rw [hU] at this; cases this

theorem capsOf_ok (R : RelAt w0 S0 N dr pc s a w S pl) : ∀ (l : List Operand) (c : List Nat), capsOf s l = some c →
    (l.map a.eval).length = c.length ∧ (∀ r ∈ c, r < s.nxt) ∧ ∀ (i r : Nat) (rt : RT) (u : Value), c[i]? = some r → lk s.rts r = some rt → (l.map a.eval)[i]? = some u → u = addrP (pl r) rt [0]
  | [], c, h => by
    simp only [capsOf, Option.some.injEq] at h; subst h
    simp
  | x :: l, c, h => by
    simp only [capsOf] at h
    split at h
    · rename_i r c' hx hc
      cases h
      obtain ⟨h1, h2, h3⟩ := capsOf_ok R l c' hc
      obtain ⟨q1, q2⟩ := R.ev hx
      refine ⟨by simpa using h1, ?_, ?_⟩
      · intro r' hr'
        rcases List.mem_cons.1 hr' with rfl | hr'
        · exact q2 _ (by simp [AV.ids])
        · exact h2 r' hr'
      · intro i r' rt u hi hrt hu
        cases i with
        | zero =>
          simp at hi hu
          subst hi; subst hu
          exact q1 rt hrt
        | succ i =>
          simp at hi hu
          exact h3 i r' rt u hi hrt (by simpa using hu)
    · cases h

theorem BVRs.get {rts : List (Nat × RT)} {l : List AV} {vs : List Value} (h : BVRs w S rts pl l vs) : ∀ (j : Nat) (av : AV), l[j]? = some av → ∃ v, vs[j]? = some v ∧ BVR w S rts pl av v := by
  induction h with
  | nil => intro j av h; simp at h
  | cons h t ih =>
    intro j av hj
    cases j with
    | zero => simp at hj; subst hj; exact ⟨_, rfl, h⟩
    | succ j => simp at hj; obtain ⟨v, h1, h2⟩ := ih j av hj; exact ⟨v, by simpa using h1, h2⟩

theorem exec_value {o : Oper} {ρ : Operand → Value} {x : Sem Value} {v : Value} (ho : execOp ρ o = (do pure (.value (← x)))) (h : ∀ w', x.run P w' = .ok v w') (w' : World) :
    (execOp ρ o).run P w' = .ok (.value v) w' := by
  rw [ho]; simp [h w']

theorem struct2_te {i : Nat} {a b : Ty} (h : teB P i (.struct [a, b]) = true) : ∃ f0 f1 : Field, P.underlying i = some (.struct #[f0, f1]) ∧ f0.offset = 0 ∧ f1.offset = a.width ∧
    (∃ inf, P.info? f0.type = some inf ∧ inf.size = a.width) ∧ (∃ inf, P.info? f1.type = some inf ∧ inf.size = b.width) ∧ infoB P i (.prod a b) = true := by
  simp only [teB, Bool.and_eq_true] at h
  obtain ⟨⟨_, h2⟩, h3⟩ := h
  split at h2
  · rename_i fs hu
    obtain ⟨l⟩ := fs
    match l, h2 with
    | [], h2 => simp [fieldsB] at h2
    | [_], h2 => simp [fieldsB] at h2
    | f0 :: f1 :: f2 :: l, h2 => simp [fieldsB] at h2
    | [f0, f1], h2 =>
      simp only [fieldsB, Bool.and_eq_true, beq_iff_eq, Nat.zero_add] at h2
      obtain ⟨⟨⟨e1, e2⟩, _⟩, ⟨⟨e3, e4⟩, _⟩, _⟩ := h2
      refine ⟨f0, f1, hu, e1, e3, ?_, ?_, h3⟩
      · split at e2
        · rename_i inf hi; exact ⟨inf, hi, by simpa using e2⟩
        · cases e2
      · split at e4
        · rename_i inf hi; exact ⟨inf, hi, by simpa using e4⟩
        · cases e4
  · cases h2

theorem fill2 {ka kb : IntKind} {m n : Int} {z : Array Value} (hz : z.size = 2) (place : Nat → Option (Nat × Nat)) (h0 : place 0 = some (0, 1)) (h1 : place 1 = some (1, 1)) :
    Instr.fill place z [(0, .int ka m), (1, .int kb n)] = some #[.int ka m, .int kb n] := by
  obtain ⟨l⟩ := z
  match l, hz with
  | [c0, c1], _ => simp [Instr.fill, h0, h1, Value.cells]
  | [], hz => simp at hz
  | [_], hz => simp at hz
  | _ :: _ :: _ :: _, hz => simp at hz

theorem bldAV_ok (htt : ttB P tt = true) (R : RelAt w0 S0 N dr pc s a w S pl) {T : Nat} {parts : Array (Nat × Operand)} {pf : PF} (h : bldAV (lk tt T) (parts.toList.map fun x => (x.1, s.ev x.2)) = some pf) :
    ∃ v, (∀ w', (Instr.build T (parts.map fun x => (x.1, a.eval x.2))).run P w' = .ok v w') ∧ AVR w S s.rts pl pf.av v ∧ pf.av.lt s.nxt ∧ pf.fact := by
  unfold bldAV at h
  split at h
  · rename_i ka kb k m k' n hte hps
    split at h
    · rename_i hk
      obtain ⟨rfl, rfl⟩ := hk
      cases h
      obtain ⟨te, hl, hty⟩ : ∃ te, lk tt T = some te ∧ te.ty = some (.prod (.int ka) (.int kb)) := by
        cases hl : lk tt T with
        | none => rw [hl] at hte; cases hte
        | some te => rw [hl] at hte; exact ⟨te, rfl, hte⟩
      have hB := ttB_get htt hl
      obtain ⟨l⟩ := parts
      have hvals : ∃ x y : Operand, l = [(0, x), (1, y)] ∧ a.eval x = .int ka m ∧ a.eval y = .int kb n := by
        match l, hps with
        | [(i, x), (j, y)], hps =>
          simp only [List.map_cons, List.map_nil, List.cons.injEq, Prod.mk.injEq, and_true] at hps
          obtain ⟨⟨rfl, hx⟩, rfl, hy⟩ := hps
          exact ⟨x, y, rfl, (R.ev hx).1.int, (R.ev hy).1.int⟩
        | [], hps => simp at hps
        | [_], hps => simp at hps
        | _ :: _ :: _ :: _, hps => simp at hps
      obtain ⟨x, y, rfl, hx, hy⟩ := hvals
      have hbuilt : P.built T [(0, .int ka m), (1, .int kb n)] = some #[.int ka m, .int kb n] := by
        cases te with
        | basic t => simp only [TE.ty, Option.some.injEq] at hty; subst hty; simp [teB, Ty.isProd] at hB
        | slice e t b => simp [TE.ty] at hty
        | arr n' e t => simp [TE.ty] at hty
        | pair e t =>
          simp only [TE.ty, Option.some.injEq, Ty.prod.injEq] at hty
          obtain ⟨rfl, hty⟩ := hty
          obtain ⟨hu, ⟨inf, hinf, hsz⟩, _, hI⟩ := pair_te hB
          obtain ⟨it, z, g1, g2, g3, g4, _⟩ := (infoB_ok hI).info
          unfold Program.built
          simp only [g1, hu, g3, hinf]
          refine fill2 (by simpa [Ty.width] using g4) _ ?_ ?_
          · simp [hsz, Ty.width]
          · simp [hsz, Ty.width]
        | struct ts =>
          simp only [TE.ty] at hty
          split at hty
          · match ts, hty with
            | [u, v], hty =>
              simp only [prodOf, Option.some.injEq, Ty.prod.injEq] at hty
              obtain ⟨rfl, rfl⟩ := hty
              obtain ⟨f0, f1, hu, o0, o1, ⟨i0, p0, p1⟩, ⟨i1, p2, p3⟩, hI⟩ := struct2_te hB
              obtain ⟨it, z, g1, g2, g3, g4, _⟩ := (infoB_ok hI).info
              unfold Program.built
              have hm : List.mapM (fun f => (P.info? f.type).map fun i => (f.offset, i.size)) [f0, f1] = some [(0, 1), (1, 1)] := by
                simp [List.mapM_cons, p0, p2, o0, o1, p1, p3, Ty.width]
              simp only [g1, hu, g3, hm]
              exact fill2 (by simpa [Ty.width] using g4) _ rfl rfl
            | u :: v :: v' :: ts, hty => simp [prodOf] at hty
          · cases hty
      refine ⟨.agg #[.int ka m, .int kb n], fun w' => run_build w' T _ _ ?_, ⟨[.int ka m, .int kb n], rfl, [.int ka m], [.int kb n], rfl, rfl, rfl⟩, AV.lt_dat, trivial⟩
      simpa [hx, hy] using hbuilt
    · cases h
  · cases h

theorem xpure_ok (htt : ttB P tt = true) (R : RelAt w0 S0 N dr pc s a w S pl) {o : Oper} {pf : PF} (h : xpure tt s o = some pf) (hT : xpureT tt s o = true) (hpre : pf.pre) :
    okind o.op = 0 ∧ ∃ v, (∀ w', (execOp a.eval o).run P w' = .ok (.value v) w') ∧ AVR w S s.rts pl pf.av v ∧ pf.av.lt s.nxt ∧ pf.fact := by
  obtain ⟨dst, op, type, pos, after, guard⟩ := o
  cases op <;> simp only [xpure] at h <;> try cases h
  case build T parts =>
    obtain ⟨v, h1, h2, h3, h4⟩ := bldAV_ok htt R h
    refine ⟨rfl, v, fun w' => exec_value (P := P) rfl (fun w' => h1 w') w', h2, h3, h4⟩
  case move x =>
    refine ⟨rfl, ?_⟩
    cases hx : s.ev x with
    | none => rw [hx] at h; cases h
    | some av =>
      rw [hx] at h; cases h
      obtain ⟨h1, h2⟩ := R.ev hx
      exact ⟨_, fun w' => rfl, h1, h2, trivial⟩
  case assign x =>
    refine ⟨rfl, ?_⟩
    cases hx : s.ev x with
    | none => rw [hx] at h; cases h
    | some av =>
      rw [hx] at h; cases h
      obtain ⟨h1, h2⟩ := R.ev hx
      exact ⟨_, fun w' => rfl, h1, h2, trivial⟩
  case pick c x y =>
    refine ⟨rfl, ?_⟩
    split at h
    · rename_i b hc
      have hb := (R.ev hc).1.bool
      cases b with
      | true =>
        simp only [if_true] at h
        cases hx : s.ev x with
        | none => rw [hx] at h; cases h
        | some av =>
          rw [hx] at h; cases h
          obtain ⟨h1, h2⟩ := R.ev hx
          exact ⟨_, fun w' => by simp [execOp, hb, asBool] <;> rfl, h1, h2, trivial⟩
      | false =>
        simp only [Bool.false_eq_true, if_false] at h
        cases hx : s.ev y with
        | none => rw [hx] at h; cases h
        | some av =>
          rw [hx] at h; cases h
          obtain ⟨h1, h2⟩ := R.ev hx
          exact ⟨_, fun w' => by simp [execOp, hb, asBool] <;> rfl, h1, h2, trivial⟩
    · cases h
  case binOp op T x y yT =>
    refine ⟨rfl, ?_⟩
    obtain ⟨u, v, hu, hv, h⟩ := opt2_some h
    have u1 := (R.ev hu).1
    have v1 := (R.ev hv).1
    cases hb : binAV (lk tt T) op u v with
    | none => rw [hb] at h; cases h
    | some pr =>
      rw [hb] at h; cases h
      have hpre : pr.pre := hpre
      unfold binAV at hb
      split at hb
      · rename_i k m k' n
        split at hb
        · rename_i hk; subst hk
          obtain ⟨z, hz, h1, h2⟩ := binInt_ok (P := P) (w := w) (S := S) (pl := pl) (T := T) (x := x) (y := y) hb hpre
          refine ⟨z, fun w' => ?_, h1 _, h2 _, trivial⟩
          refine exec_value (P := P) rfl (fun w' => ?_) w'
          rw [u1.int, v1.int]
          exact hz w'
        · cases hb
      · rename_i b c
        split at hb
        · rename_i hte
          have hd := basic_te (ttB_get htt hte)
          simp only at hd
          have e1 := u1.bool
          have e2 := v1.bool
          have hq := fun w' => run_equal_bool (P := P) w' T b c hd
          unfold binBool at hb
          cases op <;> simp only [Option.some.injEq, reduceCtorEq] at hb <;> cases hb
          · refine ⟨.bool (b == c), fun w' => exec_value (P := P) rfl (fun w' => ?_) w', AVR.mkBool _ _, AV.lt_dat, trivial⟩
            rw [e1, e2]
            simp [eqGuard, binOp, hq]
          · refine ⟨.bool (b != c), fun w' => exec_value (P := P) rfl (fun w' => ?_) w', AVR.mkBool _ _, AV.lt_dat, trivial⟩
            rw [e1, e2]
            simp [eqGuard, binOp, hq, bne]
        · cases hb
      · rename_i b c
        have e1 := u1.str
        have e2 := v1.str
        unfold binStr at hb
        cases op <;> simp only [Option.some.injEq, reduceCtorEq] at hb <;> cases hb
        · have hle : ¬ ((b.size + c.size : Nat) : Int) > IntKind.i64.max := by
            have : IntKind.i64.max = 9223372036854775807 := rfl
            have hpre' : b.size + c.size ≤ 9223372036854775807 := hpre
            rw [this]; omega
          refine ⟨.string (b ++ c), fun w' => ?_, AVR.mkStr _ _, AV.lt_dat, trivial⟩
          refine exec_value (P := P) rfl (fun w' => ?_) w'
          rw [e1, e2]
          simp only [eqGuard, binOp, Op.stringOp, hle, if_false]
          rfl
        · exact ⟨_, fun w' => by simp [execOp, e1, e2, eqGuard, binOp, Op.stringOp] <;> rfl, AVR.mkBool _ _, AV.lt_dat, trivial⟩
        · exact ⟨_, fun w' => by simp [execOp, e1, e2, eqGuard, binOp, Op.stringOp] <;> rfl, AVR.mkBool _ _, AV.lt_dat, trivial⟩
        · exact ⟨_, fun w' => by simp [execOp, e1, e2, eqGuard, binOp, Op.stringOp] <;> rfl, AVR.mkBool _ _, AV.lt_dat, trivial⟩
      · cases hb
  case unOp op T x =>
    refine ⟨rfl, ?_⟩
    split at h
    · rename_i b hx
      cases h
      have e := (R.ev hx).1.bool
      exact ⟨_, fun w' => by simp [execOp, e, Op.unary] <;> rfl, AVR.mkBool _ _, AV.lt_dat, trivial⟩
    · rename_i k n hx
      cases h
      have e := (R.ev hx).1.int
      have hw : k.wrap (0 - n) = 0 - n := inR_wrap hpre
      exact ⟨.int k (-n), fun w' => by simp [execOp, e, Op.unary, Op.intArith]; rw [← Int.zero_sub, hw], AVR.mkInt _ _ _, AV.lt_dat, trivial⟩
    · cases h
  case indexAddr T x ix =>
    refine ⟨rfl, ?_⟩
    obtain ⟨u, v, hu, hv, h⟩ := opt2_some h
    obtain ⟨z, hz, q1, q2, q3⟩ := idxAV_ok htt R h (R.ev hu) (R.ev hv) hpre
    exact ⟨z, fun w' => exec_value (P := P) rfl hz w', q1, q2, q3⟩
  case slice T x lo hi mx =>
    refine ⟨rfl, ?_⟩
    split at h
    · rename_i u hu
      simp only [xpureT, Bool.and_eq_true] at hT
      have o1 : optEv s lo (lo.bind s.ev) := by
        cases lo with
        | none => trivial
        | some x =>
          simp only [Option.bind_some] at *
          cases hx : s.ev x with
          | none => rw [hx] at hT; simp at hT
          | some v => exact hx
      have o2 : optEv s hi (hi.bind s.ev) := by
        cases hi with
        | none => trivial
        | some x =>
          simp only [Option.bind_some] at *
          cases hx : s.ev x with
          | none => rw [hx] at hT; simp at hT
          | some v => exact hx
      obtain ⟨z, hz, q1, q2, q3⟩ := slAV_ok htt R h (R.ev hu) o1 o2 hpre
      exact ⟨z, fun w' => exec_value (P := P) rfl hz w', q1, q2, q3⟩
    · cases h
  case extract x j =>
    refine ⟨rfl, ?_⟩
    split at h
    · rename_i l hx
      obtain ⟨h1, h2⟩ := R.ev hx
      obtain ⟨vs, hvs, hb⟩ := h1
      cases hj : l[j]? with
      | none => rw [hj] at h; cases h
      | some av =>
        rw [hj] at h
        obtain ⟨v, hv, hbv⟩ := hb.get j av hj
        have hmem : av ∈ l := List.mem_of_getElem? hj
        have hlt := h2 av hmem
        have hrun : ∀ w', (execOp a.eval { dst, op := .extract x j, type, pos, after, guard }).run P w' = .ok (.value v) w' := fun w' => by
          refine exec_value (P := P) rfl (fun w' => ?_) w'
          rw [hvs]
          simp [Instr.extract, hv]
        cases av <;> simp only [Option.bind_some] at h <;> cases h
        all_goals exact ⟨v, hrun, hbv, hlt, trivial⟩
    · cases h
  case makeFunc fn first caps =>
    refine ⟨rfl, ?_⟩
    split at h
    · rename_i f hf
      cases hc : capsOf s caps.toList with
      | none => rw [hc] at h; cases h
      | some c =>
        rw [hc] at h; cases h
        obtain ⟨h1, h2, h3⟩ := capsOf_ok R _ _ hc
        have hf' : first = #[] := by simpa using hf
        subst hf'
        refine ⟨.func (.func f) #[] (caps.map a.eval), fun w' => by simp [execOp, Instr.makeFunc], ⟨caps.toList.map a.eval, ?_, h1, h3⟩, fun r hr => h2 r (by simpa [PF.of, AV.ids] using hr), trivial⟩
        rw [← Array.toList_map, Array.toArray_toList]
    · cases h
  case convert src dst' x =>
    refine ⟨rfl, ?_⟩
    cases hx : s.ev x with
    | none => rw [hx] at h; cases h
    | some u =>
      rw [hx] at h
      simp only [Option.bind_some] at h
      unfold convAV at h
      split at h
      · rename_i k' k n hte
        cases h
        have e := (R.ev hx).1.int
        have hd := basic_te (ttB_get htt hte)
        simp only at hd
        have hw := inR_wrap hpre
        simp only [xpureT] at hT
        cases hs : lk tt src with
        | none => rw [hs] at hT; simp at hT
        | some te =>
          obtain ⟨d, hsd⟩ := te_under (ttB_get htt hs)
          refine ⟨.int k' n, fun w' => ?_, AVR.mkInt _ _ _, AV.lt_dat, trivial⟩
          refine exec_value (P := P) rfl (fun w' => ?_) w'
          rw [e]
          simp [convert, run_underlying hsd, run_underlying hd, Conv.intToInt, hw]
      · cases h
  case nilCheck x =>
    refine ⟨rfl, ?_⟩
    cases hx : s.ev x with
    | none => rw [hx] at h; cases h
    | some u =>
      rw [hx] at h
      simp only [Option.bind_some] at h
      obtain ⟨h1, h2⟩ := R.ev hx
      unfold sameAV at h
      split at h
      · rename_i r p
        split at h
        · rename_i rt hrt
          cases h
          have e := h1 rt hrt
          exact ⟨a.eval x, fun w' => by simp only [execOp, e, addrP]; rfl, h1, h2, trivial⟩
        · cases h
      · cases h
        have h1' := h1
        obtain ⟨b, o, arr, E, fr, e, _⟩ := h1'
        exact ⟨a.eval x, fun w' => by simp only [execOp, e]; rfl, h1, h2, trivial⟩
      · cases h
        have h1' := h1
        obtain ⟨vs, e, _⟩ := h1'
        exact ⟨a.eval x, fun w' => by simp only [execOp, e]; rfl, h1, h2, trivial⟩
      · cases h
  case index T x ix =>
    refine ⟨rfl, ?_⟩
    obtain ⟨u, v, hu, hv, h⟩ := opt2_some h
    unfold strIdx at h
    split at h
    · rename_i z k i hte
      cases h
      have h0 : (0 : Int) ≤ i := hpre.1
      have h1 : (i : Int) < (z.size : Int) := hpre.2
      have e1 := (R.ev hu).1.str
      have e2 := (R.ev hv).1.int
      have hd := basic_te (ttB_get htt hte)
      simp only at hd
      have hi : Int.toNat i < z.size := (Int.toNat_lt h0).2 h1
      have hg : z.data.toList.getD i.toNat 0 = z[i.toNat] := by
        have : i.toNat < z.data.toList.length := by simpa using hi
        simp only [List.getD_eq_getElem?_getD, List.getElem?_eq_getElem this, Option.getD_some]
        rfl
      refine ⟨.int .u8 (z.data.toList.getD i.toNat 0).toNat, fun w' => ?_, AVR.mkInt _ _ _, AV.lt_dat, trivial⟩
      refine exec_value (P := P) rfl (fun w' => ?_) w'
      rw [e1, e2, hg]
      simp [Instr.index, asIntOf, run_underlying hd, h0, hi]
    · cases h
  case call c =>
    obtain ⟨callee, args, argTypes⟩ := c
    simp only at h hT
    split at h
    · -- len
      refine ⟨rfl, ?_⟩
      split at h
      · rename_i x hargs
        have hargs' : args = #[x] := by rw [← Array.toArray_toList (xs := args), hargs]
        subst hargs'
        cases hx : s.ev x with
        | none => rw [hx] at h; cases h
        | some u =>
          rw [hx] at h
          simp only [Option.bind_some] at h
          simp only [xpureT] at hT
          split at hT
          · rename_i T x2 hty hx2
            have hty' : argTypes = #[T] := by rw [← Array.toArray_toList (xs := argTypes), hty]
            subst hty'
            obtain rfl : x = x2 := by simpa using hx2
            rw [hx] at hT
            have hexec : ∀ (v : Value) (n : Int), a.eval x = v → (∀ w', (Builtin.len_ #[T] type #[v]).run P w' = .ok (goInt n) w') → ∀ w', (execOp a.eval { dst, op := .call { callee := .builtin .len, args := #[x], argTypes := #[T] }, type, pos, after, guard }).run P w' = .ok (.value (.int .i64 n)) w' := by
              intro v n hv hr w'
              simp [execOp, resolve, invoke, builtin, hv, hr w', goInt]
            obtain ⟨h1, h2⟩ := R.ev hx
            have hsl : ∀ (e : Nat), P.underlying T = some (.slice e) → ∀ ad n c w', (Builtin.len_ #[T] type #[.slice ad n c]).run P w' = .ok (goInt n) w' := fun e hu ad n c w' => by
              simp [Builtin.len_, run_underlying hu]
            split at hT
            · -- read-only
              rename_i e t b ee tt' l hte hu
              simp only [Option.some.injEq] at hu
              subst hu
              obtain ⟨hu, _⟩ := slice_te (ttB_get htt hte)
              cases h
              obtain ⟨ad, cap, e1, hro, hlc, hcm⟩ := h1.list
              refine ⟨_, hexec _ _ e1 (hsl _ hu _ _ _), AVR.mkInt _ _ _, AV.lt_dat, ?_⟩
              have : maxLen = 9223372036854775807 := rfl
              show List.length l ≤ _
              omega
            · -- owned
              rename_i e t b r p hte hu
              simp only [Option.some.injEq] at hu
              subst hu
              obtain ⟨hu, _⟩ := slice_te (ttB_get htt hte)
              simp only [lenAV] at h
              split at h
              · rename_i rt hrt
                split at h
                · rename_i e' t' ht'
                  split at h
                  · rename_i hc
                    cases h
                    obtain ⟨p1, p2⟩ := hpre
                    have hn := R.node hrt p1 hc ht' p2
                    have hv := h1 rt hrt
                    have hhd : ∃ ad c, hdr (atCT p rt.ty (pl r).ct) (rt.at p).len = .slice ad (rt.at p).len c := by
                      cases hct : atCT p rt.ty (pl r).ct with
                      | node b c k => exact ⟨_, _, rfl⟩
                      | nil =>
                        rcases hn.2 with h0 | ⟨_, _, _, h0, _⟩
                        · rw [h0]; exact ⟨_, _, rfl⟩
                        · rw [hct] at h0; cases h0
                      | leaf =>
                        rcases hn.2 with h0 | ⟨_, _, _, h0, _⟩
                        · rw [h0]; exact ⟨_, _, rfl⟩
                        · rw [hct] at h0; cases h0
                      | pair =>
                        rcases hn.2 with h0 | ⟨_, _, _, h0, _⟩
                        · rw [h0]; exact ⟨_, _, rfl⟩
                        · rw [hct] at h0; cases h0
                    obtain ⟨ad, c, hhd⟩ := hhd
                    refine ⟨_, hexec _ _ (hv.trans hhd) (hsl _ hu _ _ _), AVR.mkInt _ _ _, AV.lt_dat, ?_⟩
                    have : maxLen = 9223372036854775807 := rfl
                    show (rt.at p).len ≤ _
                    omega
                  · cases h
                · cases h
              · cases h
            · -- part
              rename_i e t b r p lo hi hte hu
              simp only [Option.some.injEq] at hu
              subst hu
              obtain ⟨hu, _⟩ := slice_te (ttB_get htt hte)
              simp only [lenAV] at h
              split at h
              · rename_i rt hrt
                split at h
                · rename_i e' t' ht'
                  split at h
                  · rename_i hc
                    cases h
                    obtain ⟨p1, p2⟩ := hpre
                    have hn := R.node hrt p1 hc ht' p2
                    obtain ⟨g1, g2, g3⟩ := h1 rt hrt
                    have hhd : ∃ ad c, a.eval x = .slice ad (hi - lo) c := by
                      unfold subR at g3
                      split at g3
                      · obtain ⟨ad, g3, _⟩ := g3; exact ⟨_, _, g3⟩
                      · rename_i hnn
                        rcases hn.2 with h0 | ⟨b, cap, k, h0, _⟩
                        · have e0 : hi - lo = 0 := by omega
                          rw [e0]; exact ⟨_, _, g3⟩
                        · exact absurd h0 (hnn b cap k)
                    obtain ⟨ad, c, hhd⟩ := hhd
                    exact ⟨_, hexec _ _ hhd (hsl _ hu _ _ _), AVR.mkInt _ _ _, AV.lt_dat, g1⟩
                  · cases h
                · cases h
              · cases h
            · rename_i z hte hu
              simp only [Option.some.injEq] at hu
              subst hu
              have hd := basic_te (ttB_get htt hte)
              simp only at hd
              cases h
              have e1 := h1.str
              exact ⟨_, hexec _ _ e1 (fun w' => by simp [Builtin.len_, run_underlying hd]), AVR.mkInt _ _ _, AV.lt_dat, trivial⟩
            · cases hT
          · cases hT
      · cases h
    · -- max
      refine ⟨rfl, ?_⟩
      split at h
      · rename_i x y hargs
        have hargs' : args = #[x, y] := by rw [← Array.toArray_toList (xs := args), hargs]
        subst hargs'
        obtain ⟨u, v, hu, hv, h⟩ := opt2_some h
        split at h
        · rename_i k m k' n
          split at h
          · cases h
            have e1 := (R.ev hu).1.int
            have e2 := (R.ev hv).1.int
            refine ⟨.int k (max m n), fun w' => ?_, AVR.mkInt _ _ _, AV.lt_dat, trivial⟩
            have this : ∀ m n : Int, (if n > m then n else m) = max m n := by omega
            have this := this m n
            simp [execOp, resolve, invoke, builtin, e1, e2, run_max_int2, this]
          · cases h
        · cases h
      · cases h
    · -- min
      refine ⟨rfl, ?_⟩
      split at h
      · rename_i x y hargs
        have hargs' : args = #[x, y] := by rw [← Array.toArray_toList (xs := args), hargs]
        subst hargs'
        obtain ⟨u, v, hu, hv, h⟩ := opt2_some h
        split at h
        · rename_i k m k' n
          split at h
          · cases h
            have e1 := (R.ev hu).1.int
            have e2 := (R.ev hv).1.int
            refine ⟨.int k (min m n), fun w' => ?_, AVR.mkInt _ _ _, AV.lt_dat, trivial⟩
            have this : ∀ m n : Int, (if n < m then n else m) = min m n := by omega
            have this := this m n
            simp [execOp, resolve, invoke, builtin, e1, e2, run_min_int2, this]
          · cases h
        · cases h
      · cases h
    · cases h
end
end Fer
