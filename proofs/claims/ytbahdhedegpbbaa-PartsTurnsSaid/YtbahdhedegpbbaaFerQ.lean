/- The abstract machine: one operation; a region. Over any program. -/
import Derived.Test.YtbahdhedegpbbaaFerPa
namespace Fer
open Go

/-- A function's contract: which types it takes; what it comes to (in the manner of a weakest precondition). -/
structure Spec where
  ps : List Ty
  wp : List TV → (List TV → Prop) → Prop

structure Ctx where
  n : Nat
  tt : List (Nat × TE)
  fn : Nat → Option Spec
  mv : Nat → Option Spec

def nilAt (tt : List (Nat × TE)) (o : Oper) : Option (Nat × Ty) :=
  match o.op with
  | .assign (.const (.slice none 0 0)) | .move (.const (.slice none 0 0)) => match lk tt o.type with
    | some (.slice e t _) => some (e, t)
    | _ => none
  | _ => none

/-- A slice held against nil: what follows if it is nil; does the operation ask for that? -/
def nilCmp (tt : List (Nat × TE)) (s : XS) (o : Oper) : Option (Prop × Bool) :=
  match o.op with
  | .binOp op T x (.const (.slice none 0 0)) _ => match lk tt T, s.ev x with
    | some (.slice _ _ _), some (.dat (.list _ _) l) => match op with
      | .eql => some (l = [], true)
      | .neq => some (l = [], false)
      | _ => none
    | some (.slice _ _ _), some (.ref r []) => match s.root r with
      | some rt => match rt.h, op with
        | none, .eql => some (rt.x = [], true)
        | none, .neq => some (rt.x = [], false)
        | _, _ => none
      | none => none
    | _, _ => none
  | _ => none

/-- Operations that turn memory. -/
def xmem (tt : List (Nat × TE)) (s : XS) (o : Oper) : Option MF :=
  match o.op with
  | .alloc T => alAV tt s T
  | .store T x y => stAV tt s T (s.ev x) (s.ev y)
  | .makeSlice T l c => mkAV tt s T (s.ev l) (s.ev c)
  | .buildSlice T len parts => bsAV tt s T len parts.toList
  | .call c => match c.callee, c.args.toList, c.argTypes.toList with
    | .builtin .append, [x, y], [T, T'] => if T = T' then appAV tt s T (s.ev x) (s.ev y) else none
    | .builtin .copy, [x, y], [T, _] => cpAV tt s T (s.ev x) (s.ev y)
    | _, _, _ => none
  | _ => none

/-- An argument as data. -/
def argAV (s : XS) (t : Ty) (x : AV) : Option (Prop × TV) :=
  match x with
  | .ref r p => match s.root r with
    | some rt => match elAt rt p with
      | some el => if rt.h = none ∧ Ty.list el.e el.t = t then some (okNode rt p, ⟨.list el.e el.t, el.l⟩) else none
      | none => none
    | none => none
  | .clo f c => match t, c with
    | .raw, [] => some (True, ⟨.raw, .func (.func f) #[] #[]⟩)
    | _, _ => none
  | x => (datOf t x).map fun v => (True, ⟨t, v⟩)

/-- Which function a slot's value is. -/
def calleeOf (x : Option AV) : Option Nat :=
  match x with
  | some (.dat .raw (.func (.func f) fst cap)) => if fst.size = 0 ∧ cap.size = 0 then some f else none
  | some (.clo f []) => some f
  | _ => none

def argsAV (s : XS) : List Ty → List Operand → Option (Prop × List TV)
  | [], [] => some (True, [])
  | t :: ts, x :: xs => match (s.ev x).bind (argAV s t), argsAV s ts xs with
    | some (p, v), some (q, l) => some (p ∧ q, v :: l)
    | _, _ => none
  | _, _ => none

/-- Results: lists are owned, all else is plain. -/
def retAV (s : XS) (v : TV) : XS × AV :=
  match v with
  | ⟨.list e t, l⟩ => (s.addRoot ⟨e, t, t.lev, l, none⟩, .ref s.nxt [])
  | ⟨t, x⟩ => (s, .dat t x)

def retsAV : XS → List TV → XS × List AV
  | s, [] => (s, [])
  | s, v :: l => ((retsAV (retAV s v).1 l).1, (retAV s v).2 :: (retsAV (retAV s v).1 l).2)

def retsPut (s : XS) (d : Option Nat) (l : List TV) : XS :=
  match l with
  | [v] => (retAV s v).1.put d (retAV s v).2
  | l => (retsAV s l).1.put d (.tup (retsAV s l).2)

/-- May o turn what it turns, in view of the loads before it? -/
def tchOK (dr : Bool) (s : XS) (o : Oper) (l : List Nat) : Bool :=
  !dr || s.pins.all fun x => match x.2 with
    | some r => !(l.contains r) || waitsOn o x.1
    | none => true

def XS.pin (s : XS) (dr : Bool) (i : Nat) (q : Option Nat) : XS := if dr = true then { s with pins := (i, q) :: s.pins } else s

def xdo (C : Ctx) (dr : Bool) (o : Oper) (i : Nat) (K : XS → Prop) (s : XS) : Prop :=
  match nilAt C.tt o with
  | some (e, t) => K ((s.addRoot (nilRT e t)).put o.dst (.ref s.nxt []))
  | none => match nilCmp C.tt s o with
   | some (q, pos) => ∀ b : Bool, (b = pos → q) → K (s.put o.dst (.dat .bool b))
   | none => match xpure C.tt s o with
    | some pf => xpureT C.tt s o = true ∧ pf.pre ∧ (pf.fact → K (s.put o.dst pf.av))
    | none => match o.op with
      | .load T x => match s.ev x with
        | some u => match ldAV C.tt s T u with
          | some pf => pf.pre ∧ K ((s.pin dr i (qOf u)).put o.dst pf.av)
          | none => False
        | none => False
      | .call { callee := .value (.func f), args, .. } => match C.fn f with
        | some sp => match argsAV s sp.ps args.toList with
          | some (p, l) => p ∧ sp.wp l fun outs => K (retsPut s o.dst outs)
          | none => False
        | none => match C.mv f with
          | some sp => match args.toList, sp.ps with
            | x :: xs, t :: ts => match s.ev x with
              | some (.ref r []) => match s.root r with
                | some rt => if rt.h = none ∧ rt.t.lev ≤ rt.k ∧ rt.ty = t ∧ dr = false then match argsAV (s.kill r) ts xs with
                    | some (p, l) => p ∧ sp.wp (⟨rt.ty, rt.x⟩ :: l) fun outs => K (retsPut (s.kill r) o.dst outs)
                    | none => False
                  else False
                | none => False
              | _ => False
            | _, _ => False
          | none => False
      | .call { callee := .value (.tmp t), args, .. } => match calleeOf (s.get t) with
        | some f => match C.fn f with
          | some sp => match argsAV s sp.ps args.toList with
            | some (p, l) => p ∧ sp.wp l fun outs => K (retsPut s o.dst outs)
            | none => False
          | none => False
        | none => False
      | _ => match xmem C.tt s o with
        | some mf => tchOK dr s o mf.tch = true ∧ mf.pre ∧ (mf.fact → K (mf.st.put o.dst mf.av))
        | none => False

/-- Is the operation wanted? none: that can't be told. -/
def xwant (ops : Array Oper) (s : XS) (o : Oper) : Option Bool :=
  match o.guard with
  | none => some true
  | some (j, want) => match (ops[j]?).bind (·.dst) with
    | some t => match s.get t with
      | some (.dat .bool c) => some (c == want)
      | some (.tup []) => some false
      | _ => none
    | none => some false

/-- What is known of the guard. -/
def known (ops : Array Oper) (s : XS) (o : Oper) (b : Bool) : XS :=
  match o.guard with
  | none => s
  | some (j, want) => match (ops[j]?).bind (·.dst) with
    | some t => match s.get t with
      | some (.dat .bool _) => s.put (some t) (.dat .bool (b == want))
      | _ => s
    | none => s

def dOK (n : Nat) : Option Nat → Bool
  | some t => decide (t < n)
  | none => true

/-- A guarded operation: it is done, or it is not. -/
def xgd (C : Ctx) (ops : Array Oper) (dr : Bool) (o : Oper) (i : Nat) (K : XS → Prop) (s : XS) (b : Bool) : Prop :=
  if b = true then xdo C dr o i K (known ops s o true) else K ((known ops s o false).put o.dst (.tup []))

theorem xgd_true {C : Ctx} {ops : Array Oper} {dr : Bool} {o : Oper} {i : Nat} {K : XS → Prop} {s : XS} : xgd C ops dr o i K s true = xdo C dr o i K (known ops s o true) := rfl
theorem xgd_false {C : Ctx} {ops : Array Oper} {dr : Bool} {o : Oper} {i : Nat} {K : XS → Prop} {s : XS} : xgd C ops dr o i K s false = K ((known ops s o false).put o.dst (.tup [])) := rfl
theorem xgd_intro {C : Ctx} {ops : Array Oper} {dr : Bool} {o : Oper} {i : Nat} {K : XS → Prop} {s : XS} {b : Bool} (h1 : b = true → xdo C dr o i K (known ops s o true)) (h2 : b = false → K ((known ops s o false).put o.dst (.tup []))) : xgd C ops dr o i K s b := by
  cases b
  · exact h2 rfl
  · exact h1 rfl

def xoper (C : Ctx) (dr : Bool) (ops : Array Oper) (o : Oper) (i : Nat) (K : XS → Prop) (s : XS) : Prop :=
  dOK C.n o.dst = true ∧ match xwant ops s o with
  | none => False
  | some b => xgd C ops dr o i K s b

/-- A region in the order of the text. -/
def xrun (C : Ctx) (ops : Array Oper) (K : XS → Prop) : Nat → List Oper → XS → Prop
  | _, [], s => K s
  | i, o :: l, s => xoper C false ops o i (xrun C ops K (i + 1) l) s

/-- A region whose order is drawn, in a given order. -/
def xord (C : Ctx) (ops : Array Oper) (K : XS → Prop) : List Nat → XS → Prop
  | [], s => K { s with pins := [] }
  | i :: l, s => match ops[i]? with
    | some o => xoper C true ops o i (xord C ops K l) s
    | none => False

/-- A region whose order is drawn, in the order of the text. -/
def xtxt (C : Ctx) (ops : Array Oper) (K : XS → Prop) : Nat → List Oper → XS → Prop
  | _, [], s => K { s with pins := [] }
  | i, o :: l, s => xoper C true ops o i (xtxt C ops K (i + 1) l) s

theorem xtxt_ord {C : Ctx} {ops : Array Oper} {K : XS → Prop} : ∀ (l : List Oper) (i : Nat), (∀ j, j < l.length → ops[i + j]? = l[j]?) → xtxt C ops K i l = xord C ops K (List.range' i l.length)
  | [], _, _ => by funext s; rfl
  | o :: l, i, h => by
    funext s
    have h0 := h 0 (by simp)
    simp only [Nat.add_zero, List.getElem?_cons_zero] at h0
    simp only [xtxt, List.length_cons, List.range'_succ, xord, h0]
    rw [xtxt_ord l (i + 1) fun j hj => by have := h (j + 1) (by simpa using hj); rwa [List.getElem?_cons_succ, show i + (j + 1) = i + 1 + j by omega] at this]

theorem xrun_cons {C : Ctx} {ops : Array Oper} {K : XS → Prop} {i : Nat} {o : Oper} {l : List Oper} {s : XS} (h : xoper C false ops o i (xrun C ops K (i + 1) l) s) : xrun C ops K i (o :: l) s := h
theorem xrun_nil {C : Ctx} {ops : Array Oper} {K : XS → Prop} {i : Nat} {s : XS} (h : K s) : xrun C ops K i [] s := h
theorem xtxt_cons {C : Ctx} {ops : Array Oper} {K : XS → Prop} {i : Nat} {o : Oper} {l : List Oper} {s : XS} (h : xoper C true ops o i (xtxt C ops K (i + 1) l) s) : xtxt C ops K i (o :: l) s := h
theorem xtxt_nil {C : Ctx} {ops : Array Oper} {K : XS → Prop} {i : Nat} {s : XS} (h : K { s with pins := [] }) : xtxt C ops K i [] s := h

end Fer
