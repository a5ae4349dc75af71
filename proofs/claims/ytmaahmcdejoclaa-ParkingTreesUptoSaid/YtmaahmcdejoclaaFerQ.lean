/- Machine and plain facts, over any program (several texts in one). No condition. -/
import Derived.Test.YtmaahmcdejoclaaFerH
import Derived.MapKept
import Derived.Carry
import Derived.Laws.Cover3
import Derived.ProofKit
import Derived.Deep.Slices
import Derived.OpenShut
import Derived.Shelf.GgSortFunc.RowK
/- The abstract machine: one operation; a region. Over any program. -/
namespace Fer
open Go

/-- A function's contract: which types it takes; what it comes to (in the manner of a weakest precondition). -/
structure Spec where
  ps : List Ty
  wp : List TV → (List TV → Prop) → Prop

/-- How a parameter is handed over: as data; as a pointer to a cell of the caller's, which the function may turn; as a pointer to a cell that it reads. -/
inductive PA where
  | val (t : Ty)
  | box (e : Nat) (t : Ty)
  | one (e : Nat) (t : Ty)
  | gone (e : Nat) (t : Ty)
  | cap (t : Ty)

/-- The contract of a function that turns cells of its caller's: where these lie, the data, what the cells hold; then the results, and what the cells hold then. -/
structure SpecS where
  pat : List PA
  wp : List Nat → List TV → List TV → (List TV → List TV → Prop) → Prop

structure Ctx where
  n : Nat
  tt : List (Nat × TE)
  fn : Nat → Option Spec
  mv : Nat → Option Spec
  ip : Nat → Option Spec
  cl : Nat → Option (Spec × List Ty)
  st : Nat → Option SpecS

def nilAt (tt : List (Nat × TE)) (o : Oper) : Option (Nat × Ty) :=
  match o.op with
  | .assign (.const (.slice none 0 0)) | .move (.const (.slice none 0 0)) => match lk tt o.type with
    | some (.slice e t _) => some (e, t)
    | _ => none
  | _ => none

/-- A slot's own list cut short ('t = t[:n]'). -/
def cutAt (s : XS) (o : Oper) : Option (Nat × RT × Nat) :=
  match o.op, o.dst with
  | .assign (.tmp x), some d => match s.get x, s.get d with
    | some (.sub r [] lo hi), some (.ref q []) => if q = r ∧ lo = 0 then match s.root r with
      | some rt => if rt.h = none then some (r, rt, hi) else none
      | none => none
      else none
    | _, _ => none
  | _, _ => none

def XS.trunc (s : XS) (r : Nat) (rt : RT) (hi : Nat) : XS := { s.setRoot r { rt with x := rt.x.take hi } with env := cutEnv r (fun _ => false) (fun _ => true) s.env }

/-- The list that a function has turned in place. -/
def RT.withX (rt : RT) (v : TV) : RT :=
  match v with
  | ⟨.list e t, l⟩ => ⟨e, t, rt.k, l, rt.h⟩
  | _ => rt

def isNilP : List Nat → Bool
  | [] => true
  | _ => false

def isOneP : List Nat → Bool
  | _ :: _ :: _ => false
  | _ => true

def XS.inPlace (s : XS) (r : Nat) (rt : RT) (v : TV) : XS := { s.setRoot r (rt.withX v) with env := cutEnv r isNilP isOneP s.env }

/-- A slice held against nil: what follows if it is nil; does the operation ask for that? -/
def nilCmp (tt : List (Nat × TE)) (s : XS) (o : Oper) : Option (Prop × Bool) :=
  match o.op with
  | .binOp op T x (.const (.slice none 0 0)) _ => match lk tt T, s.ev x with
    | some (.slice _ _ _), some (.dat (.list _ _) l) => match op with
      | .eql => some (l = [], true)
      | .neq => some (l = [], false)
      | _ => none
    | some (.slice _ _ _), some (.dat .raw (.slice (some _) _ _)) => match op with
      | .eql => some (False, true)
      | .neq => some (False, false)
      | _ => none
    | some (.slice _ _ _), some (.dat .raw (.slice none _ _)) => match op with
      | .eql => some (False, false)
      | .neq => some (False, true)
      | _ => none
    | some (.slice _ _ _), some (.ref r []) => match s.root r with
      | some rt => match rt.h, op with
        | none, .eql => some (rt.x = [], true)
        | none, .neq => some (rt.x = [], false)
        | _, _ => none
      | none => none
    | _, _ => none
  | _ => none

/-- A list cut at its end: the list. -/
def wholeAV (s : XS) (x : Option AV) : Option (Prop × AV) :=
  match x with
  | some (.sub r p lo hi) => match s.root r with
    | some rt => some (lo = 0 ∧ hi = (rt.at p).len, .ref r p)
    | none => none
  | _ => none

/-- Operations that turn memory. -/
def xmem (tt : List (Nat × TE)) (s : XS) (o : Oper) : Option MF :=
  match o.op with
  | .alloc T => alAV tt s T
  | .box T x => bxAV s T (s.ev x)
  | .store T x y => stAV tt s T (s.ev x) (s.ev y)
  | .makeSlice T l c => mkAV tt s T (s.ev l) (s.ev c)
  | .buildSlice T len parts => bsAV tt s T len parts.toList
  | .call c => match c.callee, c.args.toList, c.argTypes.toList with
    | .builtin .append, [x, y], [T, T'] => if T = T' then match wholeAV s (s.ev x) with
        | some (q, u) => (appAV tt s T (some u) (s.ev y)).map fun mf => ⟨q ∧ mf.pre, mf.fact, mf.av, mf.st, mf.tch⟩
        | none => appAV tt s T (s.ev x) (s.ev y)
      else none
    | .builtin .copy, [x, y], [T, _] => cpAV tt s T (s.ev x) (s.ev y)
    | .builtin .clear, [x], [T] => clAV tt s T (s.ev x)
    | _, _, _ => none
  | _ => none

def capTV (s : XS) : List Nat → Option (List TV)
  | [] => some []
  | c :: cs => match s.root c, capTV s cs with
    | some rt, some l => match rt.x, rt.h with
      | [v], none => some (⟨rt.t, v⟩ :: l)
      | _, _ => none
    | _, _ => none

/-- An argument as data. -/
def argAV (s : XS) (t : Ty) (x : AV) : Option (Prop × TV) :=
  match x with
  | .ref r p => match s.root r with
    | some rt => match elAt rt p with
      | some el => if rt.h = none ∧ Ty.list el.e el.t = t then some (okNode rt p, ⟨.list el.e el.t, el.l⟩) else match p with
        | [] => if rt.h = none ∧ Ty.row rt.e rt.t = t then some (0 < List.length rt.x, ⟨.row rt.e rt.t, rt.x⟩) else none
        | _ => none
      | none => none
    | none => none
  | .clo f c => match t, c with
    | .raw, [] => some (True, ⟨.raw, .func (.func f) #[] #[]⟩)
    | .fn _ _, [q] => match capTV s [q] with
      | some [u] => if Ty.fn f u.t = t then some (True, ⟨.fn f u.t, u.x⟩) else none
      | _ => none
    | _, _ => none
  | x => (datOf t x).map fun v => (True, ⟨t, v⟩)

/-- Which function a slot's value is. -/
def calleeOf (x : Option AV) : Option Nat :=
  match x with
  | some (.dat .raw (.func (.func f) fst cap)) => if fst.size = 0 ∧ cap.size = 0 then some f else none
  | some (.clo f []) => some f
  | _ => none

/-- What the cells hold that a function value has caught. -/
def argsAV (s : XS) : List Ty → List Operand → Option (Prop × List TV)
  | [], [] => some (True, [])
  | t :: ts, x :: xs => match (s.ev x).bind (argAV s t), argsAV s ts xs with
    | some (p, v), some (q, l) => some (p ∧ q, v :: l)
    | _, _ => none
  | _, _ => none

/-- Results: lists are owned, all else is plain. -/
def retAV (s : XS) (v : TV) : XS × AV :=
  match v with
  | ⟨.list e t, l⟩ => (s.addRoot ⟨e, t, t.lev, l, none⟩, .ref s.nxt [])
  | ⟨t, x⟩ => (s, .dat t x)

def retsAV : XS → List TV → XS × List AV
  | s, [] => (s, [])
  | s, v :: l => ((retsAV (retAV s v).1 l).1, (retAV s v).2 :: (retsAV (retAV s v).1 l).2)

def retsPut (s : XS) (d : Option Nat) (l : List TV) : XS :=
  match l with
  | [v] => (retAV s v).1.put d (retAV s v).2
  | l => (retsAV s l).1.put d (.tup (retsAV s l).2)

/-- May o turn what it turns, in view of the loads before it? -/
def tchOK (dr : Bool) (s : XS) (o : Oper) (l : List Nat) : Bool :=
  !dr || s.pins.all fun x => match x.2 with
    | some r => !(l.contains r) || waitsOn o x.1
    | none => true

/-- No load before it was out of this root. -/
def noPin (dr : Bool) (s : XS) (r : Nat) : Bool :=
  !dr || s.pins.all fun x => match x.2 with
    | some q => !(q == r)
    | none => true

def XS.pin (s : XS) (dr : Bool) (i : Nat) (q : Option Nat) : XS := if dr = true then { s with pins := (i, q) :: s.pins } else s

/-- Operations on maps. -/
inductive MpOp where
  | mk
  | get (b : Nat) (f : Int → Int) (n : Int)
  | upd (b : Nat) (f : Int → Int) (n v : Int)

def mpOp (tt : List (Nat × TE)) (s : XS) (o : Oper) : Option MpOp :=
  match o.op with
  | .makeMap t none => match lk tt t with
    | some (.map _ _) => some .mk
    | _ => none
  | .lookup t x k false => match lk tt t, s.ev x, s.ev k with
    | some (.map _ _), some (.mp b f), some (.dat (.int .i64) n) => some (.get b f n)
    | _, _, _ => none
  | .mapUpdate t x k v => match lk tt t, s.ev x, s.ev k, s.ev v with
    | some (.map _ _), some (.mp b f), some (.dat (.int .i64) n), some (.dat (.int .i64) m) => some (.upd b f n m)
    | _, _, _, _ => none
  | _ => none

def AV.setMp (b : Nat) (g : Int → Int) : AV → AV
  | .mp b' f => if b' = b then .mp b' g else .mp b' f
  | a => a

def mpSet (b : Nat) (g : Int → Int) : List (Nat × AV) → List (Nat × AV)
  | [] => []
  | (i, a) :: l => (i, a.setMp b g) :: mpSet b g l

def isMove (o : Oper) : Bool :=
  match o.op with
  | .move _ | .assign _ => true
  | _ => false

def locIn : List (Nat × AV) → Nat → Option (Nat × Nat)
  | [], _ => none
  | (i, .loc q b) :: l, r => if q = r then some (i, b) else locIn l r
  | _ :: l, r => locIn l r
/-- The block of a root's cell, if it has a name. -/
def locOf (s : XS) (r : Nat) : Option Nat :=
  match locIn s.env r with
  | some (i, _) => match s.get i with
    | some (.loc q b) => if q = r then some b else none
    | _ => none
  | none => none

/-- Roots' cells are given names. -/
def named (n : Nat) : List Nat → (List Nat → XS → Prop) → XS → Prop
  | [], K, s => K [] s
  | r :: rs, K, s => match locOf s r with
    | some b => named n rs (fun bl => K (b :: bl)) s
    | none => r < s.nxt ∧ ∀ b : Nat, named n rs (fun bl => K (b :: bl)) { s with env := (n + 64 + r, .loc r b) :: s.env }

def stRoots : List PA → List AV → Option (List Nat)
  | [], [] => some []
  | .box _ _ :: ps, .ptr r [0] :: xs => match stRoots ps xs with
    | some l => some (r :: l)
    | none => none
  | .one _ _ :: ps, .ptr r [0] :: xs => match stRoots ps xs with
    | some l => some (r :: l)
    | none => none
  | .gone _ _ :: ps, .ptr r [0] :: xs => match stRoots ps xs with
    | some l => some (r :: l)
    | none => none
  | .val _ :: ps, _ :: xs => stRoots ps xs
  | .cap _ :: ps, _ :: xs => stRoots ps xs
  | _, _ => none

def oneIn : List (Nat × AV) → Nat → Option Nat
  | [], _ => none
  | (i, .one q) :: l, r => if q = r then some i else oneIn l r
  | _ :: l, r => oneIn l r
/-- Does a root's cell stand alone? -/
def oneOf (s : XS) (r : Nat) : Bool :=
  match oneIn s.env r with
  | some i => match s.get i with
    | some (.one q) => q == r
    | _ => false
  | none => false

def killAll : List Nat → XS → XS
  | [], s => s
  | r :: rs, s => killAll rs (s.kill r)

/-- What a cell holds that is only read. -/
def capAV (s : XS) (t : Ty) (x : AV) : Option TV :=
  match x with
  | .ptr r [0] => match s.root r with
    | some rt => match rt.x, rt.h with
      | [v], none => if rt.t = t then some ⟨rt.t, v⟩ else none
      | _, _ => none
    | none => none
  | .rptr t' x => if t' = t then some ⟨t', x⟩ else none
  | _ => none

def stVals (s : XS) : List PA → List AV → Option (Prop × List TV)
  | [], [] => some (True, [])
  | .val t :: ps, x :: xs => match argAV s t x, stVals s ps xs with
    | some (p, v), some (q, l) => some (p ∧ q, v :: l)
    | _, _ => none
  | .cap t :: ps, x :: xs => match capAV s t x, stVals s ps xs with
    | some v, some (q, l) => some (q, v :: l)
    | _, _ => none
  | .box _ _ :: ps, _ :: xs => stVals s ps xs
  | .one _ _ :: ps, _ :: xs => stVals s ps xs
  | .gone _ _ :: ps, _ :: xs => stVals s ps xs
  | _, _ => none

def stBox (s : XS) (e : Nat) (t : Ty) (al : Bool) (r : Nat) : Option TV :=
  match s.root r with
  | some rt => match rt.x, rt.h with
    | [v], none => if rt.e = e ∧ rt.t = t ∧ t.lev ≤ rt.k ∧ (al = true → oneOf s r = true) then some ⟨rt.t, v⟩ else none
    | _, _ => none
  | none => none
def stBoxes (s : XS) : List PA → List Nat → Option (List TV)
  | [], [] => some []
  | .box e t :: ps, r :: rs => match stBox s e t false r, stBoxes s ps rs with
    | some v, some l => some (v :: l)
    | _, _ => none
  | .one e t :: ps, r :: rs => match stBox s e t true r, stBoxes s ps rs with
    | some v, some l => some (v :: l)
    | _, _ => none
  | .gone e t :: ps, r :: rs => match stBox s e t true r, stBoxes s ps rs with
    | some v, some l => some (v :: l)
    | _, _ => none
  | .val _ :: ps, rs => stBoxes s ps rs
  | .cap _ :: ps, rs => stBoxes s ps rs
  | _, _ => none

def noP : List Nat → Bool := fun _ => false
def isBoxP : List Nat → Bool
  | [] => true
  | [0] => true
  | _ => false

def stKeep (r : Nat) : AV → Bool
  | .agg l => l.all fun a => !(a.ids.contains r)
  | av => av.shallow r noP isBoxP
def stCut (r : Nat) : List (Nat × AV) → List (Nat × AV)
  | [] => []
  | (i, av) :: l => (i, if stKeep r av = true then av else .junk) :: stCut r l
/-- Cells with what they hold now. -/
def stAdd (s0 : XS) : List PA → List Nat → List TV → XS → XS
  | .box _ _ :: ps, r :: rs, ⟨t, v⟩ :: vs, s => match s0.root r with
    | some rt => stAdd s0 ps rs vs { s with rts := (r, ⟨rt.e, t, rt.k, [v], none⟩) :: s.rts, env := stCut r s.env }
    | none => s
  | .one _ _ :: ps, r :: rs, ⟨t, v⟩ :: vs, s => match s0.root r with
    | some rt => stAdd s0 ps rs vs { s with rts := (r, ⟨rt.e, t, rt.k, [v], none⟩) :: s.rts, env := (100000 + r, .one r) :: stCut r s.env }
    | none => s
  | .gone _ _ :: ps, _ :: rs, vs, s => stAdd s0 ps rs vs s
  | .val _ :: ps, rs, vs, s => stAdd s0 ps rs vs s
  | .cap _ :: ps, rs, vs, s => stAdd s0 ps rs vs s
  | _, _, _, s => s

def distinctL : List Nat → Bool
  | [] => true
  | x :: l => l.all (fun y => !(x == y)) && distinctL l

def evs (s : XS) : List Operand → Option (List AV)
  | [] => some []
  | x :: xs => match s.ev x, evs s xs with
    | some v, some l => some (v :: l)
    | _, _ => none

/-- A call that turns cells. -/
def stCall (n : Nat) (dr : Bool) (sp : SpecS) (xs : Option (List AV)) (d : Option Nat) (K : XS → Prop) (s : XS) : Prop :=
  match xs with
  | some xs => match stRoots sp.pat xs with
    | some rs => distinctL rs = true ∧ rs.all (noPin dr s) = true ∧ named n rs (fun bl s1 => match stVals (killAll rs s1) sp.pat xs, stBoxes s1 sp.pat rs with
      | some (p, vals), some boxes => p ∧ sp.wp bl vals boxes fun outs bx => K (retsPut (stAdd s1 sp.pat rs bx (killAll rs s1)) d outs)
      | _, _ => False) s
    | none => False
  | none => False

def xdo (C : Ctx) (dr : Bool) (o : Oper) (i : Nat) (K : XS → Prop) (s : XS) : Prop :=
  match nilAt C.tt o with
  | some (e, t) => K ((s.addRoot (nilRT e t)).put o.dst (.ref s.nxt []))
  | none => match cutAt s o with
   | some (r, rt, hi) => K ((s.trunc r rt hi).put o.dst (.ref r []))
   | none => match mpOp C.tt s o with
   | some .mk => dr = false ∧ ∀ b : Nat, K (s.put o.dst (.mp b fun _ => 0))
   | some (.get _ f n) => dr = false ∧ K (s.put o.dst (.dat (.int .i64) (f n)))
   | some (.upd b f n m) => dr = false ∧ K ({ s with env := mpSet b (fun j => if j = n then m else f j) s.env }.put o.dst (.tup []))
   | none => match nilCmp C.tt s o with
   | some (q, pos) => ∀ b : Bool, (b = pos → q) → K (s.put o.dst (.dat .bool b))
   | none => match xpure C.tt s o with
    | some pf => xpureT C.tt s o = true ∧ (pf.av.plain || isMove o) = true ∧ pf.pre ∧ (pf.fact → K (s.put o.dst pf.av))
    | none => match o.op with
      | .load T x => match s.ev x with
        | some u => match ldAV C.tt s T u with
          | some pf => pf.av.plain = true ∧ pf.pre ∧ K ((s.pin dr i (qOf u)).put o.dst pf.av)
          | none => False
        | none => False
      | .call { callee := .value (.func f), args, .. } => match C.fn f with
        | some sp => match argsAV s sp.ps args.toList with
          | some (p, l) => p ∧ sp.wp l fun outs => K (retsPut s o.dst outs)
          | none => False
        | none => match C.mv f with
          | some sp => match args.toList, sp.ps with
            | x :: xs, t :: ts => match s.ev x with
              | some (.ref r []) => match s.root r with
                | some rt => if rt.h = none ∧ rt.t.lev ≤ rt.k ∧ rt.ty = t ∧ noPin dr s r = true then match argsAV (s.kill r) ts xs with
                    | some (p, l) => p ∧ sp.wp (⟨rt.ty, rt.x⟩ :: l) fun outs => K (retsPut (s.kill r) o.dst outs)
                    | none => False
                  else False
                | none => False
              | some (.ref r (i :: q)) => match t with
                | .list e u => match own1 s e u (.ref r (i :: q)) with
                  | some (p1, s1, r1) => match s1.root r1 with
                    | some rt => if rt.h = none ∧ rt.t.lev ≤ rt.k ∧ rt.ty = t ∧ dr = false then match argsAV (s1.kill r1) ts xs with
                        | some (p, l) => p1 ∧ p ∧ sp.wp (⟨rt.ty, rt.x⟩ :: l) fun outs => K (retsPut (s1.kill r1) o.dst outs)
                        | none => False
                      else False
                    | none => False
                  | none => False
                | _ => False
              | _ => False
            | _, _ => False
          | none => match C.ip f with
            | some sp => match args.toList, sp.ps with
              | x :: xs, t :: ts => match s.ev x with
                | some (.ref r []) => match s.root r with
                  | some rt => if rt.h = none ∧ rt.t.lev ≤ rt.k ∧ rt.ty = t ∧ dr = false then match argsAV (s.kill r) ts xs with
                      | some (p, l) => p ∧ sp.wp (⟨rt.ty, rt.x⟩ :: l) fun outs => match outs with
                        | [v] => K ((s.inPlace r rt v).put o.dst (.tup []))
                        | _ => False
                      | none => False
                    else False
                  | none => False
                | _ => False
              | _, _ => False
            | none => match C.st f with
              | some sp => stCall C.n dr sp (evs s args.toList) o.dst K s
              | none => False
      | .call { callee := .value (.tmp t), args, .. } => match calleeOf (s.get t) with
        | some f => match C.fn f with
          | some sp => match argsAV s sp.ps args.toList with
            | some (p, l) => p ∧ sp.wp l fun outs => K (retsPut s o.dst outs)
            | none => False
          | none => False
        | none => match s.get t with
          | some (.clo f cs) => match C.st f with
            | some sp => stCall C.n dr sp ((evs s args.toList).map fun l => l ++ cs.map fun c => .ptr c [0]) o.dst K s
            | none => match C.cl f, capTV s cs with
              | some (sp, us), some l' => if l'.map (·.t) = us then match argsAV s sp.ps args.toList with
                  | some (p, l) => p ∧ sp.wp (l ++ l') fun outs => K (retsPut s o.dst outs)
                  | none => False
                else False
              | _, _ => False
          | some (.dat (.fn f u) y) => match C.cl f with
            | some (sp, us) => if us = [u] then match argsAV s sp.ps args.toList with
                | some (p, l) => p ∧ sp.wp (l ++ [⟨u, y⟩]) fun outs => K (retsPut s o.dst outs)
                | none => False
              else False
            | none => False
          | _ => False
      | _ => match xmem C.tt s o with
        | some mf => tchOK dr s o mf.tch = true ∧ mf.av.plain = true ∧ mf.pre ∧ (mf.fact → K (mf.st.put o.dst mf.av))
        | none => False

/-- Is the operation wanted? none: that can't be told. -/
def xwant (ops : Array Oper) (s : XS) (o : Oper) : Option Bool :=
  match o.guard with
  | none => some true
  | some (j, want) => match (ops[j]?).bind (·.dst) with
    | some t => match s.get t with
      | some (.dat .bool c) => some (c == want)
      | some (.tup []) => some false
      | _ => none
    | none => some false

/-- What is known of the guard. -/
def known (ops : Array Oper) (s : XS) (o : Oper) (b : Bool) : XS :=
  match o.guard with
  | none => s
  | some (j, want) => match (ops[j]?).bind (·.dst) with
    | some t => match s.get t with
      | some (.dat .bool _) => s.put (some t) (.dat .bool (b == want))
      | _ => s
    | none => s

def dOK (n : Nat) : Option Nat → Bool
  | some t => decide (t < n)
  | none => true

/-- A guarded operation: it is done, or it is not. -/
def xgd (C : Ctx) (ops : Array Oper) (dr : Bool) (o : Oper) (i : Nat) (K : XS → Prop) (s : XS) (b : Bool) : Prop :=
  if b = true then xdo C dr o i K (known ops s o true) else K ((known ops s o false).put o.dst (.tup []))

theorem xgd_true {C : Ctx} {ops : Array Oper} {dr : Bool} {o : Oper} {i : Nat} {K : XS → Prop} {s : XS} : xgd C ops dr o i K s true = xdo C dr o i K (known ops s o true) := rfl
theorem xgd_false {C : Ctx} {ops : Array Oper} {dr : Bool} {o : Oper} {i : Nat} {K : XS → Prop} {s : XS} : xgd C ops dr o i K s false = K ((known ops s o false).put o.dst (.tup [])) := rfl
theorem xgd_intro {C : Ctx} {ops : Array Oper} {dr : Bool} {o : Oper} {i : Nat} {K : XS → Prop} {s : XS} {b : Bool} (h1 : b = true → xdo C dr o i K (known ops s o true)) (h2 : b = false → K ((known ops s o false).put o.dst (.tup []))) : xgd C ops dr o i K s b := by
  cases b
  · exact h2 rfl
  · exact h1 rfl

def xoper (C : Ctx) (dr : Bool) (ops : Array Oper) (o : Oper) (i : Nat) (K : XS → Prop) (s : XS) : Prop :=
  dOK C.n o.dst = true ∧ match xwant ops s o with
  | none => False
  | some b => xgd C ops dr o i K s b

/-- A region in the order of the text. -/
def xrun (C : Ctx) (ops : Array Oper) (K : XS → Prop) : Nat → List Oper → XS → Prop
  | _, [], s => K s
  | i, o :: l, s => xoper C false ops o i (xrun C ops K (i + 1) l) s

/-- A region whose order is drawn, in a given order. -/
def xord (C : Ctx) (ops : Array Oper) (K : XS → Prop) : List Nat → XS → Prop
  | [], s => K { s with pins := [] }
  | i :: l, s => match ops[i]? with
    | some o => xoper C true ops o i (xord C ops K l) s
    | none => False

/-- A region whose order is drawn, in the order of the text. -/
def xtxt (C : Ctx) (ops : Array Oper) (K : XS → Prop) : Nat → List Oper → XS → Prop
  | _, [], s => K { s with pins := [] }
  | i, o :: l, s => xoper C true ops o i (xtxt C ops K (i + 1) l) s

theorem xtxt_ord {C : Ctx} {ops : Array Oper} {K : XS → Prop} : ∀ (l : List Oper) (i : Nat), (∀ j, j < l.length → ops[i + j]? = l[j]?) → xtxt C ops K i l = xord C ops K (List.range' i l.length)
  | [], _, _ => by funext s; rfl
  | o :: l, i, h => by
    funext s
    have h0 := h 0 (by simp)
    simp only [Nat.add_zero, List.getElem?_cons_zero] at h0
    simp only [xtxt, List.length_cons, List.range'_succ, xord, h0]
    rw [xtxt_ord l (i + 1) fun j hj => by have := h (j + 1) (by simpa using hj); rwa [List.getElem?_cons_succ, show i + (j + 1) = i + 1 + j by omega] at this]

theorem xrun_cons {C : Ctx} {ops : Array Oper} {K : XS → Prop} {i : Nat} {o : Oper} {l : List Oper} {s : XS} (h : xoper C false ops o i (xrun C ops K (i + 1) l) s) : xrun C ops K i (o :: l) s := h
theorem xrun_nil {C : Ctx} {ops : Array Oper} {K : XS → Prop} {i : Nat} {s : XS} (h : K s) : xrun C ops K i [] s := h
theorem xtxt_cons {C : Ctx} {ops : Array Oper} {K : XS → Prop} {i : Nat} {o : Oper} {l : List Oper} {s : XS} (h : xoper C true ops o i (xtxt C ops K (i + 1) l) s) : xtxt C ops K i (o :: l) s := h
theorem xtxt_nil {C : Ctx} {ops : Array Oper} {K : XS → Prop} {i : Nat} {s : XS} (h : K { s with pins := [] }) : xtxt C ops K i [] s := h

end Fer

/- The abstract machine is sound: one operation, a region; contracts. Over any program. -/
namespace Fer
open Go

def noS : Nat → Prop := fun _ => False
def oldS (w : World) : Nat → Prop := fun b => b < w.heap.size

/-- Arguments, as values that are data in memory that stands. -/
inductive Args (w : World) (S : Nat → Prop) : List Ty → List TV → List Value → Prop
  | nil : Args w S [] [] []
  | cons {t ts v vs u us} (h : RO w S t v u) (hl : Args w S ts vs us) : Args w S (t :: ts) (⟨t, v⟩ :: vs) (pack t u :: us)

/-- A result: lists in new blocks, that nobody else has. -/
def Ret1 (T : Nat → Prop) (w' : World) (v : TV) (u : Value) (F : Nat → Prop) : Prop :=
  (∀ n, F n → ¬ T n ∧ n < w'.heap.size) ∧
  match v with
  | ⟨.list e t, l⟩ => ∃ ct, Own w' noS (.list e t) (t.lev + 1) l none ct [u] F
  | ⟨t, x⟩ => (∀ n, ¬ F n) ∧ ∃ cs, u = pack t cs ∧ RO w' noS t x cs

inductive Rets (T : Nat → Prop) (w' : World) : List TV → List Value → (Nat → Prop) → Prop
  | nil : Rets T w' [] [] noF
  | cons {v vs u us F G} (h : Ret1 T w' v u F) (hl : Rets T w' vs us G) (hd : ∀ n, F n → ¬ G n) : Rets T w' (v :: vs) (u :: us) (fun n => F n ∨ G n)

def valOf : List Value → Value
  | [v] => v
  | l => .tuple l.toArray

/-- A function keeps its contract. -/
def FnOK (P : Program) (f : Nat) (sp : Spec) : Prop :=
  (∃ fn, P.funcs[f]? = some fn ∧ (fn.name == "runtime.NumGoroutine") = false ∧ fn.body.isNone = false) ∧
  ∀ (args : List TV) (K : List TV → Prop), sp.wp args K → ∀ (w : World) (vs : List Value), Args w (oldS w) sp.ps args vs →
    Calls P f vs.toArray w fun e w' => match e with
      | .returned v => Grew w w' ∧ ∃ outs us F, K outs ∧ v = valOf us ∧ Rets (oldS w) w' outs us F
      | _ => False

/-- All blocks but those that are given away. -/
def butF (w : World) (F : Nat → Prop) : Nat → Prop := fun n => n < w.heap.size ∧ ¬ F n

structure Turned (T : Nat → Prop) (w w' : World) : Prop where
  os : w'.os = w.os
  tape : w'.tape = w.tape
  output : SameOut T w w'
  size : w.heap.size ≤ w'.heap.size
  old : ∀ n, T n → w'.heap[n]? = w.heap[n]?

/-- A function to which its first argument, a list, is given away keeps its contract. -/
def FnMv (P : Program) (f : Nat) (sp : Spec) : Prop :=
  (∃ fn, P.funcs[f]? = some fn ∧ (fn.name == "runtime.NumGoroutine") = false ∧ fn.body.isNone = false) ∧
  ∀ (e : Nat) (t : Ty) (ts : List Ty) (x : List t.den) (args : List TV) (K : List TV → Prop), sp.ps = .list e t :: ts → sp.wp (⟨.list e t, x⟩ :: args) K → ∀ (w : World) (v0 : Value) (vs : List Value) (ct : CT) (F : Nat → Prop),
    Own w (butF w F) (.list e t) (t.lev + 1) x none ct [v0] F → (∀ n, F n → n < w.heap.size) → Args w (butF w F) ts args vs →
    Calls P f (v0 :: vs).toArray w fun e w' => match e with
      | .returned v => Turned (butF w F) w w' ∧ ∃ outs us G, K outs ∧ v = valOf us ∧ Rets (butF w F) w' outs us G
      | _ => False

/-- A function that turns its first argument, a list, in place, and gives back nothing keeps its contract (the contract's result is the list as it is then). -/
def FnIp (P : Program) (f : Nat) (sp : Spec) : Prop :=
  (∃ fn, P.funcs[f]? = some fn ∧ (fn.name == "runtime.NumGoroutine") = false ∧ fn.body.isNone = false) ∧
  ∀ (e : Nat) (t : Ty) (ts : List Ty) (x : List t.den) (args : List TV) (K : List TV → Prop), sp.ps = .list e t :: ts → sp.wp (⟨.list e t, x⟩ :: args) K → ∀ (w : World) (v0 : Value) (vs : List Value) (ct : CT) (F : Nat → Prop),
    Own w (butF w F) (.list e t) (t.lev + 1) x none ct [v0] F → (∀ n, F n → n < w.heap.size) → Args w (butF w F) ts args vs →
    Calls P f (v0 :: vs).toArray w fun e' w' => match e' with
      | .returned v => v = .tuple #[] ∧ Turned (butF w F) w w' ∧ ∃ (x' : List t.den) (ct' : CT) (G : Nat → Prop), K [⟨.list e t, x'⟩] ∧ (∀ n, G n → ¬ butF w F n ∧ n < w'.heap.size) ∧ Own w' noS (.list e t) (t.lev + 1) x' none ct' [v0] G
      | _ => False

/-- Cells that stand, as a function value has caught them. -/
inductive CapsAt (w : World) (S : Nat → Prop) : List Ty → List TV → List Value → Prop
  | nil : CapsAt w S [] [] []
  | cons {t ts x vs us} {b o : Nat} {arr : Array Value} {E : Nat} {fr : Nat × Nat} (h1 : S b) (h2 : w.heap[b]? = some (.cells arr E fr)) (h3 : o + t.width ≤ arr.size) (h4 : RO w S t x (cellsAt arr o t.width)) (hl : CapsAt w S ts vs us) :
    CapsAt w S (t :: ts) (⟨t, x⟩ :: vs) (.pointer (some ⟨b, o, none⟩) :: us)

/-- A function that has caught cells, which it reads, keeps its contract (behind the arguments: what the cells hold). -/
def FnCl (P : Program) (f : Nat) (q : Spec × List Ty) : Prop :=
  (∃ fn, P.funcs[f]? = some fn ∧ (fn.name == "runtime.NumGoroutine") = false ∧ fn.body.isNone = false) ∧
  ∀ (args caps : List TV) (K : List TV → Prop), q.1.wp (args ++ caps) K → ∀ (w : World) (vs us : List Value), Args w (oldS w) q.1.ps args vs → CapsAt w (oldS w) q.2 caps us →
    Calls P f (vs ++ us).toArray w fun e w' => match e with
      | .returned v => Grew w w' ∧ ∃ outs us F, K outs ∧ v = valOf us ∧ Rets (oldS w) w' outs us F
      | _ => False

/-- What is handed to a function that turns cells; F: the blocks that go with the cells. -/
inductive StArgs (w : World) (T : Nat → Prop) : List PA → List Nat → List TV → List TV → List Value → (Nat → Prop) → Prop
  | nil : StArgs w T [] [] [] [] [] noF
  | val {t x u ps bl vals boxes vs F} (h : RO w T t x u) (hl : StArgs w T ps bl vals boxes vs F) : StArgs w T (.val t :: ps) bl (⟨t, x⟩ :: vals) boxes (pack t u :: vs) F
  | cap {t x ps bl vals boxes vs F} {b o : Nat} {arr : Array Value} {E : Nat} {fr : Nat × Nat} (h1 : T b) (h2 : w.heap[b]? = some (.cells arr E fr)) (h3 : o + t.width ≤ arr.size) (h4 : RO w T t x (cellsAt arr o t.width))
      (hl : StArgs w T ps bl vals boxes vs F) : StArgs w T (.cap t :: ps) bl (⟨t, x⟩ :: vals) boxes (.pointer (some ⟨b, o, none⟩) :: vs) F
  | box {e t x ps bl vals boxes vs F} {G : Nat → Prop} {b cap : Nat} {kids : Nat → CT} {hv : Value} (h : Own w T (.list e t) (t.lev + 1) [x] none (.node b cap kids) [hv] G) (hd : ∀ n, G n → ¬ F n)
      (hl : StArgs w T ps bl vals boxes vs F) : StArgs w T (.box e t :: ps) (b :: bl) vals (⟨t, x⟩ :: boxes) (.pointer (some ⟨b, 0, none⟩) :: vs) (fun n => G n ∨ F n)
  | one {e t x ps bl vals boxes vs F} {G : Nat → Prop} {b : Nat} {kids : Nat → CT} {hv : Value} (h : Own w T (.list e t) (t.lev + 1) [x] none (.node b 1 kids) [hv] G) (hd : ∀ n, G n → ¬ F n)
      (hl : StArgs w T ps bl vals boxes vs F) : StArgs w T (.one e t :: ps) (b :: bl) vals (⟨t, x⟩ :: boxes) (.pointer (some ⟨b, 0, none⟩) :: vs) (fun n => G n ∨ F n)
  | gone {e t x ps bl vals boxes vs F} {G : Nat → Prop} {b : Nat} {kids : Nat → CT} {hv : Value} (h : Own w T (.list e t) (t.lev + 1) [x] none (.node b 1 kids) [hv] G) (hd : ∀ n, G n → ¬ F n)
      (hl : StArgs w T ps bl vals boxes vs F) : StArgs w T (.gone e t :: ps) (b :: bl) vals (⟨t, x⟩ :: boxes) (.pointer (some ⟨b, 0, none⟩) :: vs) (fun n => G n ∨ F n)

/-- What the cells hold then. -/
inductive StOut (w' : World) (T : Nat → Prop) : List PA → List Nat → List TV → (Nat → Prop) → Prop
  | nil : StOut w' T [] [] [] noF
  | val {t ps bl boxes H} (hl : StOut w' T ps bl boxes H) : StOut w' T (.val t :: ps) bl boxes H
  | cap {t ps bl boxes H} (hl : StOut w' T ps bl boxes H) : StOut w' T (.cap t :: ps) bl boxes H
  | box {e t x ps bl boxes H} {G : Nat → Prop} {b cap : Nat} {kids : Nat → CT} {hv : Value} (h : Own w' noS (.list e t) (t.lev + 1) [x] none (.node b cap kids) [hv] G) (hn : ∀ n, G n → ¬ T n ∧ n < w'.heap.size) (hd : ∀ n, G n → ¬ H n)
      (hl : StOut w' T ps bl boxes H) : StOut w' T (.box e t :: ps) (b :: bl) (⟨t, x⟩ :: boxes) (fun n => G n ∨ H n)
  | one {e t x ps bl boxes H} {G : Nat → Prop} {b : Nat} {kids : Nat → CT} {hv : Value} (h : Own w' noS (.list e t) (t.lev + 1) [x] none (.node b 1 kids) [hv] G) (hn : ∀ n, G n → ¬ T n ∧ n < w'.heap.size) (hd : ∀ n, G n → ¬ H n)
      (hl : StOut w' T ps bl boxes H) : StOut w' T (.one e t :: ps) (b :: bl) (⟨t, x⟩ :: boxes) (fun n => G n ∨ H n)
  | gone {e t ps b bl boxes H} (hl : StOut w' T ps bl boxes H) : StOut w' T (.gone e t :: ps) (b :: bl) boxes H

/-- A function that turns cells of its caller's keeps its contract. -/
def FnSt (P : Program) (f : Nat) (sp : SpecS) : Prop :=
  (∃ fn, P.funcs[f]? = some fn ∧ (fn.name == "runtime.NumGoroutine") = false ∧ fn.body.isNone = false) ∧
  ∀ (bl : List Nat) (vals boxes : List TV) (K : List TV → List TV → Prop), sp.wp bl vals boxes K → ∀ (w : World) (vs : List Value) (F : Nat → Prop), StArgs w (butF w F) sp.pat bl vals boxes vs F → (∀ n, F n → n < w.heap.size) →
    Calls P f vs.toArray w fun e w' => match e with
      | .returned v => Turned (butF w F) w w' ∧ ∃ outs bx us G H, K outs bx ∧ v = valOf us ∧ StOut w' (butF w F) sp.pat bl bx H ∧ Rets (fun n => butF w F n ∨ H n) w' outs us G
      | _ => False

def CtxOK (P : Program) (C : Ctx) : Prop := ttB P C.tt = true ∧ (∀ f sp, C.fn f = some sp → FnOK P f sp) ∧ (∀ f sp, C.mv f = some sp → FnMv P f sp) ∧ (∀ f sp, C.ip f = some sp → FnIp P f sp) ∧ (∀ f q, C.cl f = some q → FnCl P f q) ∧ ∀ f sp, C.st f = some sp → FnSt P f sp

section
variable {P : Program} {C : Ctx} {w0 : World} {S0 : Nat → Prop} {N : Nat} {dr : Bool} {pc : Pins} {s : XS} {a : Act} {w w' : World} {S : Nat → Prop} {pl : Nat → PL}

theorem nilAt_some {tt : List (Nat × TE)} {o : Oper} {e : Nat} {t : Ty} (h : nilAt tt o = some (e, t)) : o.op = .assign (.const (.slice none 0 0)) ∨ o.op = .move (.const (.slice none 0 0)) := by
  unfold nilAt at h
  split at h
  · rename_i ho; exact .inl ho
  · rename_i ho; exact .inr ho
  · cases h

theorem kept_of (R : RelAt w0 S0 N dr pc s a w S pl) {o : Oper} {l : List Nat} (ht : tchOK dr s o l = true) (hold : ∀ n, n < w.heap.size → (∀ r rt, r ∈ l → s.root r = some rt → ¬ (pl r).F n) → w'.heap[n]? = w.heap[n]?) :
    dr = true → kept o pc w w' := by
  intro hd i b hp hw
  obtain ⟨q, h1, h2, h3⟩ := R.pins hd i b hp
  refine hold b h2 fun r rt hr hrt hF => ?_
  have e := h3 r rt hrt hF
  subst e
  simp only [tchOK, hd, Bool.not_true, Bool.false_or, List.all_eq_true] at ht
  have := ht _ h1
  simp only [Bool.or_eq_true, Bool.not_eq_true', List.contains_eq_mem, decide_eq_false_iff_not] at this
  rcases this with h | h
  · exact h hr
  · rw [hw] at h; cases h

/-- From an operation that turned memory. -/
theorem Out.mem (R : RelAt w0 S0 N dr pc s a w S pl) {o : Oper} {i : Nat} {K : XS → Prop} {mf : MF} {run : Result Value} (h0 : okind o.op ≠ 0) (h1 : okind o.op ≠ 1) (hd : ∀ t, o.dst = some t → t < N)
    (hrun : ∀ v w', run = .ok v w' → (execOp a.eval o).run P w = .ok (.value v) w' ∨ ((execOp a.eval o).run P w = .ok .skip w' ∧ v = undef))
    (ht : tchOK dr s o mf.tch = true) (hp : mf.av.plain = true) (hm : MFok w0 S0 N dr pc s a w pl mf run) (hK : mf.fact → K (mf.st.put o.dst mf.av)) :
    Out P dr o i pc a w (fun pc' a' w' => ∃ s', K s' ∧ Rel w0 S0 N dr pc' s' a' w') := by
  obtain ⟨v, w', S', pl', e1, R', e2, e3, e4, e5⟩ := hm
  have hk := kept_of R ht e5
  have fin : ∃ s', K s' ∧ Rel w0 S0 N dr pc s' (a.put o.dst v) w' := ⟨_, hK e4, S', pl', R'.put hd e2 e3 (AV.plain_new hp)⟩
  have : o.wp P a w (fun a' w' => (dr = true → kept o pc w w') ∧ ∃ s', K s' ∧ Rel w0 S0 N dr pc s' a' w') noQ := by
    unfold Oper.wp
    rcases hrun v w' e1 with h | ⟨h, rfl⟩
    · rw [h]; exact ⟨hk, fin⟩
    · rw [h]; exact ⟨hk, fin⟩
  unfold Out
  split
  · rename_i e; exact absurd e h0
  · rename_i e; exact absurd e h1
  · exact this

theorem exec_unit {o : Oper} {ρ : Operand → Value} {x : Sem Unit} (ho : execOp ρ o = (do x; pure .skip)) {v : Value} {w' : World} (h : (match x.run P w with | .ok _ w' => .ok undef w' | .halt e w' => .halt e w') = Result.ok v w') :
    (execOp ρ o).run P w = .ok .skip w' ∧ v = undef := by
  rw [ho]
  cases hx : x.run P w with
  | ok u w1 =>
    rw [hx] at h
    simp only [Result.ok.injEq] at h
    obtain ⟨rfl, rfl⟩ := h
    simp [hx]
  | halt e w1 => rw [hx] at h; cases h

theorem exec_val {o : Oper} {ρ : Operand → Value} {x : Sem Value} (ho : execOp ρ o = (do pure (.value (← x)))) {v : Value} {w' : World} (h : x.run P w = .ok v w') : (execOp ρ o).run P w = .ok (.value v) w' := by
  rw [ho]; simp [h]

theorem xmem_ok (htt : ttB P C.tt = true) (R : RelAt w0 S0 N dr pc s a w S pl) {o : Oper} {i : Nat} {K : XS → Prop} {mf : MF} (hd : ∀ t, o.dst = some t → t < N) (h : xmem C.tt s o = some mf) (hpre : mf.pre)
    (ht : tchOK dr s o mf.tch = true) (hp : mf.av.plain = true) (hK : mf.fact → K (mf.st.put o.dst mf.av)) : Out P dr o i pc a w (fun pc' a' w' => ∃ s', K s' ∧ Rel w0 S0 N dr pc' s' a' w') := by
  obtain ⟨dst, op, type, pos, after, guard⟩ := o
  cases op <;> simp only [xmem] at h <;> try cases h
  case alloc T =>
    exact Out.mem R (by simp [okind]) (by simp [okind]) hd (fun v w' h => .inl (exec_val rfl h)) ht hp (alAV_ok htt R h) hK
  case box T x =>
    exact Out.mem R (by simp [okind]) (by simp [okind]) hd (fun v w' h => .inl (exec_val rfl h)) ht hp (bxAV_ok R (fun u hu => (R.ev hu).1) h) hK
  case store T x y =>
    exact Out.mem R (by simp [okind]) (by simp [okind]) hd (fun v w' h => .inr (exec_unit rfl h)) ht hp (stAV_ok htt R (fun u hu => (R.ev hu).1) (fun u hu => (R.ev hu).1) h hpre) hK
  case makeSlice T l c =>
    exact Out.mem R (by simp [okind]) (by simp [okind]) hd (fun v w' h => .inl (exec_val rfl h)) ht hp (mkAV_ok htt R (fun u hu => (R.ev hu).1) (fun u hu => (R.ev hu).1) h hpre) hK
  case buildSlice T len parts =>
    exact Out.mem R (by simp [okind]) (by simp [okind]) hd (fun v w' h => .inl (exec_val rfl h)) ht hp (bsAV_ok htt R h) hK
  case call c =>
    obtain ⟨callee, args, argTypes⟩ := c
    split at h
    · rename_i _ _ _ x y T T' h1 h2 h3
      simp only at h1 h2 h3
      subst h1
      split at h
      · rename_i e
        subst e
        have ha : args = #[x, y] := by rw [← Array.toArray_toList (xs := args), h2]
        have hat : argTypes = #[T, T] := by rw [← Array.toArray_toList (xs := argTypes), h3]
        subst ha hat
        have key : ∀ u' : Option AV, (∀ u, u' = some u → AVR w S s.rts pl u (a.eval x)) → ∀ mf' : MF, appAV C.tt s T u' (s.ev y) = some mf' → mf'.pre → mf'.tch = mf.tch → mf'.av = mf.av → mf'.st = mf.st → mf'.fact = mf.fact →
            Out P dr { dst := dst, op := .call { callee := .builtin .append, args := #[x, y], argTypes := #[T, T] }, type := type, pos := pos, after := after, guard := guard } i pc a w (fun pc' a' w' => ∃ s', K s' ∧ Rel w0 S0 N dr pc' s' a' w') := by
          intro u' hu' mf' h hpre e1 e2 e3 e4
          rw [← e1] at ht
          rw [← e2] at hp
          have hK' : mf'.fact → K (mf'.st.put dst mf'.av) := by rw [e2, e3, e4]; exact hK
          refine Out.mem R (by simp [okind]) (by simp [okind]) hd (fun v w' h => .inl ?_) ht hp (appAV_ok (ty := type) htt R (vx := a.eval x) (vy := a.eval y) hu' (fun u s1 pl1 hu henv R1 => ?_) h hpre) hK'
          · unfold execOp
            simp only [resolve, invoke, builtin, Sem.run_bind, Sem.run_pure, Result.andThen_ok, List.map_toArray, List.map_cons, List.map_nil, h]
          · have : s1.ev y = some u := by
              rw [← hu]
              cases y <;> simp only [XS.ev, XS.get, henv]
            exact (R1.ev this).1
        split at h
        · rename_i q u hw
          cases hm : appAV C.tt s T (some u) (s.ev y) with
          | none => rw [hm] at h; cases h
          | some mf' =>
            rw [hm] at h
            cases h
            obtain ⟨hq, hpre⟩ := hpre
            refine key (some u) (fun u' e => ?_) mf' hm hpre rfl rfl rfl rfl
            cases e
            unfold wholeAV at hw
            split at hw
            · rename_i r p lo hi hx
              split at hw
              · rename_i rt hr
                cases hw
                obtain ⟨q1, q2⟩ := hq
                have hv := (R.ev hx).1
                intro rt' hrt'
                have : rt' = rt := Option.some.inj (hrt'.symm.trans hr)
                subst this
                obtain ⟨_, _, h3⟩ := hv rt' hrt'
                generalize atCT p rt'.ty (pl r).ct = ct at h3 ⊢
                cases ct with
                | node b cap kids =>
                  obtain ⟨ad, e1, e2⟩ := h3
                  rw [e1, e2 (.inr q1), q1, q2, Nat.zero_mul, Nat.sub_zero, Nat.sub_zero]
                  rfl
                | nil => exact h3
                | leaf => exact h3
                | pair c d => exact h3
              · cases hw
            · cases hw
        · exact key _ (fun u hu => (R.ev hu).1) mf h hpre rfl rfl rfl rfl
      · cases h
    · rename_i _ _ _ x y T T' h1 h2 h3
      simp only at h1 h2 h3
      subst h1
      have ha : args = #[x, y] := by rw [← Array.toArray_toList (xs := args), h2]
      have hat : argTypes = #[T, T'] := by rw [← Array.toArray_toList (xs := argTypes), h3]
      subst ha hat
      refine Out.mem R (by simp [okind]) (by simp [okind]) hd (fun v w' h => .inl ?_) ht hp (cpAV_ok (T' := T') (ty := type) htt R (vx := a.eval x) (vy := a.eval y) (fun u hu => (R.ev hu).1) (fun u hu => (R.ev hu).1) h hpre) hK
      unfold execOp
      simp only [resolve, invoke, builtin, Sem.run_bind, Sem.run_pure, Result.andThen_ok, List.map_toArray, List.map_cons, List.map_nil, h]
    · rename_i _ _ _ x T h1 h2 h3
      simp only at h1 h2 h3
      subst h1
      have ha : args = #[x] := by rw [← Array.toArray_toList (xs := args), h2]
      have hat : argTypes = #[T] := by rw [← Array.toArray_toList (xs := argTypes), h3]
      subst ha hat
      refine Out.mem R (by simp [okind]) (by simp [okind]) hd (fun v w' h => .inl ?_) ht hp (clAV_ok (ty := type) htt R (vx := a.eval x) (fun u hu => (R.ev hu).1) h) hK
      unfold execOp
      simp only [resolve, invoke, builtin, Sem.run_bind, Sem.run_pure, Result.andThen_ok, List.map_toArray, List.map_cons, List.map_nil, h]
    · cases h

/-- What is owned throughout is owned, whatever stands. -/
theorem own_full' {w : World} {S S' : Nat → Prop} : ∀ {t : Ty} {k k' : Nat} {x : t.den} {ct : CT} {cs : List Value} {F : Nat → Prop}, t.lev ≤ k → t.lev ≤ k' → Own w S t k x none ct cs F → Own w S' t k' x none ct cs F
  | .int _, _, _, _, _, _, _, _, _, H | .bool, _, _, _, _, _, _, _, _, H | .str, _, _, _, _, _, _, _, _, H | .raw, _, _, _, _, _, _, _, _, H => H
  | .fn _ _, k, k', _, _, _, _, h, _, H | .row _ _, k, k', _, _, _, _, h, _, H => by
    simp only [Ty.lev] at h
    rcases H.2 with q | q
    · cases q.1
    · have := q.2.1; omega
  | .list e t, k, k', l, ct, cs, F, h, h', H => by
    simp only [Ty.lev] at h h'
    obtain ⟨k, rfl⟩ : ∃ j, k = j + 1 := ⟨k - 1, by omega⟩
    obtain ⟨k', rfl⟩ : ∃ j, k' = j + 1 := ⟨k' - 1, by omega⟩
    rcases own_inv H with ⟨rfl, rfl, hv, hF⟩ | ⟨b, cap, kids, arr, Fs, rfl, hv, q2, q3, h4, h5', g1, g2, g3, g4⟩
    · exact .inr ⟨by simp, rfl, hv, hF⟩
    · exact .inr ⟨by simp, hv, q2, q3, arr, h4, h5', Fs, g1, g2, g3, fun i hi => by simpa using own_full' (by omega) (by omega) (g4 i hi)⟩
  | .prod a b, k, k', x, ct, cs, F, h, h', H => by
    simp only [Ty.lev] at h h'
    rcases H with H | ⟨h0, H⟩
    · exact .inl H
    · cases ct with
      | pair c d =>
        obtain ⟨c1, c2, F1, F2, h1, g1, g2, g3, g4⟩ := H
        exact .inr ⟨h0, c1, c2, F1, F2, h1, g1, g2, own_full' (by omega) (by omega) g3, own_full' (by omega) (by omega) g4⟩
      | nil => exact H.elim
      | leaf => exact H.elim
      | node => exact H.elim

/-! ### Calls -/

theorem capTV_S {T : Nat → Prop} (R : RelAt w0 S0 N dr pc s a w S pl) (hS0 : ∀ n, S n → T n) (hT : ∀ r rt n, s.root r = some rt → (pl r).F n → T n) : ∀ (cs : List Nat) (l : List TV) (vs : List Value), capTV s cs = some l → vs.length = cs.length →
    (∀ (i c : Nat) (rt : RT) (u : Value), cs[i]? = some c → lk s.rts c = some rt → vs[i]? = some u → u = addrP (pl c) rt [0]) → CapsAt w T (l.map (·.t)) l vs
  | [], l, vs, h, hl, _ => by
    simp only [capTV, Option.some.injEq] at h
    subst h
    obtain rfl : vs = [] := List.eq_nil_of_length_eq_zero hl
    exact .nil
  | c :: cs, l, [], h, hl, _ => by simp at hl
  | c :: cs, l, v :: vs, h, hl, hv => by
    simp only [capTV] at h
    cases hr : s.root c with
    | none => rw [hr] at h; cases h
    | some rt =>
      rw [hr] at h
      cases hc : capTV s cs with
      | none => rw [hc] at h; cases h
      | some l' =>
        rw [hc] at h
        simp only at h
        split at h
        · rename_i x hx hh
          cases h
          obtain ⟨b, o, cs', F', h', e1, e2, e3, e4, _, e6, e7⟩ := R.place hr (i := 0) (p := []) (by simp [RT.ty, okS, hx]) (by rw [hh]; rfl)
          have hat : rt.at [0] = ⟨rt.t, x⟩ := by simp [RT.at, RT.ty, getS, hx]
          have hhn := e6 hh
          subst hhn
          rw [hat] at e3
          have hro : RO w T rt.t x cs' := e3.freeze (fun b hb => hS0 b hb) fun b hb => hT c rt b hr (e4 b hb)
          obtain ⟨arr, E, q1, q2, q3⟩ := e2
          have hlen : cs'.length = rt.t.width := hro.length
          have hve : v = .pointer (some ⟨b, o, none⟩) := (hv 0 c rt v rfl hr rfl).trans e1
          subst hve
          rw [hlen] at q2 q3
          exact .cons (hT c rt b hr e7) q1 q2 (by rw [q3]; exact hro) (capTV_S R hS0 hT cs l' vs hc (by simpa using hl) fun i c' rt' u h1 h2 h3 => hv (i + 1) c' rt' u h1 h2 h3)
        · cases h

theorem argAV_S {T : Nat → Prop} (R : RelAt w0 S0 N dr pc s a w S pl) (hS0 : ∀ n, S n → T n) (hT : ∀ r rt n, s.root r = some rt → (pl r).F n → T n) {t : Ty} {av : AV} {v : Value} (hv : AVR w S s.rts pl av v) {p : Prop} {tv : TV} (h : argAV s t av = some (p, tv)) (hp : p) :
    ∃ x u, tv = ⟨t, x⟩ ∧ v = pack t u ∧ RO w T t x u := by
  have hS : ∀ b, S b → T b ∧ w.heap[b]? = w.heap[b]? := fun b hb => ⟨hS0 b hb, rfl⟩
  have dat : ∀ av, (datOf t av).map (fun v => ((True : Prop), (⟨t, v⟩ : TV))) = some (p, tv) → AVR w S s.rts pl av v → ∃ x u, tv = ⟨t, x⟩ ∧ v = pack t u ∧ RO w T t x u := by
    intro av h hv
    cases hd : datOf t av with
    | none => rw [hd] at h; cases h
    | some x =>
      rw [hd] at h
      simp only [Option.map_some, Option.some.injEq, Prod.mk.injEq] at h
      obtain ⟨cs, h1, h2⟩ := datOf_ok hd hv
      exact ⟨x, cs, h.2.symm, h1, h2.frame hS⟩
  cases av with
  | ref r q =>
    simp only [argAV] at h
    cases hr : s.root r with
    | none => rw [hr] at h; cases h
    | some rt =>
      rw [hr] at h
      simp only at h
      cases hel : elAt rt q with
      | none => rw [hel] at h; cases h
      | some el =>
        rw [hel] at h
        simp only at h
        split at h
        · rename_i hc
          simp only [Option.some.injEq, Prod.mk.injEq] at h
          obtain ⟨rfl, rfl⟩ := h
          obtain ⟨hh, rfl⟩ := hc
          obtain ⟨k, v', F', hk, H, hv', hF'⟩ := R.nodeL hr hh hel hp
          have : v = v' := by rw [hv']; exact hv rt hr
          subst this
          exact ⟨el.l, [v], rfl, rfl, H.freeze (fun b hb => hS0 b hb) fun b hb => hT r rt b hr (hF' b hb)⟩
        · split at h
          · split at h
            · rename_i hc
              obtain ⟨hh, rfl⟩ := hc
              simp only [Option.some.injEq, Prod.mk.injEq] at h
              obtain ⟨rfl, rfl⟩ := h
              obtain ⟨e0, t0, k0, x0, h0⟩ := rt
              simp only at hh hp
              subst hh
              obtain ⟨hv0, H⟩ := R.own r _ hr
              have hve : v = hv0 := by
                have h1 : v = hdr (atCT [] (Ty.list e0 t0) (pl r).ct) (List.length x0) := hv _ hr
                rw [h1]; exact (H.hdr (by simp)).1.symm
              subst hve
              rcases own_inv H with ⟨_, hl0, _, _⟩ | ⟨b, cap, kids, arr, Fs, hct, hv1, q2, q3, h4, h5, g1, g2, g3, g4⟩
              · have hl0 : x0 = [] := hl0
                subst hl0
                simp at hp
              · refine ⟨x0, [v], rfl, rfl, b, cap, arr, hv1, q2, q3, hT r _ b hr ((g1 b).2 (.inl rfl)), h4, h5, fun i hi => ?_⟩
                exact (g4 i hi).freeze (fun n hn => hS0 n hn) fun n hn => hT r _ n hr ((g1 n).2 (.inr ⟨i, hi, hn⟩))
            · cases h
          · cases h
  | dat t' x => exact dat _ h hv
  | sub => simp [argAV, datOf] at h
  | mp => simp [argAV, datOf] at h
  | ptr => simp [argAV, datOf] at h
  | rptr => simp [argAV, datOf] at h
  | clo f c =>
    obtain ⟨vs, rfl, h1, h2⟩ := hv
    simp only [argAV] at h
    split at h
    · cases h
      have : vs = [] := List.length_eq_zero_iff.1 h1
      subst this
      exact ⟨_, [_], rfl, rfl, rfl, rfl⟩
    · rename_i q
      split at h
      · rename_i u hcap
        obtain ⟨ut, ux⟩ := u
        split at h
        · rename_i hu
          simp only [Option.some.injEq, Prod.mk.injEq] at h
          obtain ⟨_, rfl⟩ := h
          have hcp : CapsAt w T [ut] [⟨ut, ux⟩] vs := capTV_S R hS0 hT _ _ _ hcap h1 h2
          cases hcp with
          | cons b1 b2 b3 b4 hl =>
            cases hl
            cases hu
            exact ⟨_, [_], rfl, rfl, _, _, _, _, _, rfl, b1, b2, b3, b4⟩
        · cases h
      · cases h
    · cases h
  | tup => simp [argAV, datOf] at h
  | agg => simp [argAV, datOf] at h
  | loc => simp [argAV, datOf] at h
  | one => simp [argAV, datOf] at h
  | junk => simp [argAV, datOf] at h

theorem argAV_ok (R : RelAt w0 S0 N dr pc s a w S pl) {t : Ty} {av : AV} {v : Value} (hv : AVR w S s.rts pl av v) {p : Prop} {tv : TV} (h : argAV s t av = some (p, tv)) (hp : p) :
    ∃ x u, tv = ⟨t, x⟩ ∧ v = pack t u ∧ RO w (oldS w) t x u :=
  argAV_S R (fun b hb => R.lt b hb) (fun r rt n hr hn => (R.Flt r rt n hr hn).1) hv h hp

theorem argsAV_ok (R : RelAt w0 S0 N dr pc s a w S pl) : ∀ (ts : List Ty) (xs : List Operand) (p : Prop) (l : List TV), argsAV s ts xs = some (p, l) → p → Args w (oldS w) ts l (xs.map a.eval)
  | [], [], p, l, h, _ => by
    simp only [argsAV, Option.some.injEq, Prod.mk.injEq] at h
    obtain ⟨_, rfl⟩ := h
    exact .nil
  | t :: ts, x :: xs, p, l, h, hp => by
    simp only [argsAV] at h
    cases hx : s.ev x with
    | none => rw [hx] at h; simp at h
    | some av =>
      rw [hx] at h
      simp only [Option.bind_some] at h
      cases ha : argAV s t av with
      | none => rw [ha] at h; simp at h
      | some pv =>
        obtain ⟨p1, tv⟩ := pv
        rw [ha] at h
        cases hl : argsAV s ts xs with
        | none => rw [hl] at h; simp at h
        | some ql =>
          obtain ⟨q, l'⟩ := ql
          rw [hl] at h
          simp only [Option.some.injEq, Prod.mk.injEq] at h
          obtain ⟨rfl, rfl⟩ := h
          obtain ⟨y, u, rfl, e1, e2⟩ := argAV_ok R (R.ev hx).1 ha hp.1
          simp only [List.map_cons]
          rw [e1]
          exact .cons e2 (argsAV_ok R ts xs q l' hl hp.2)
  | [], _ :: _, _, _, h, _ => by simp [argsAV] at h
  | _ :: _, [], _, _, h, _ => by simp [argsAV] at h

theorem retAV_ok {T : Nat → Prop} {v : TV} {u : Value} {F : Nat → Prop} (R : RelAt w0 S0 N dr pc s a w' S pl) (h : Ret1 T w' v u F) (hS : ∀ n, S n → T n)
    (hF : ∀ r rt n, s.root r = some rt → (pl r).F n → ¬ F n) (hp : dr = true → ∀ i n, pc i n → T n) :
    ∃ pl2, RelAt w0 S0 N dr pc (retAV s v).1 a w' S pl2 ∧ BVR w' S (retAV s v).1.rts pl2 (retAV s v).2 u ∧ (∀ r ∈ (retAV s v).2.ids, r < (retAV s v).1.nxt) ∧ s.nxt ≤ (retAV s v).1.nxt ∧
      (∀ r, r < s.nxt → lk (retAV s v).1.rts r = lk s.rts r ∧ pl2 r = pl r) ∧ (∀ r rt n, (retAV s v).1.root r = some rt → (pl2 r).F n → F n ∨ ∃ r rt, s.root r = some rt ∧ (pl r).F n) := by
  obtain ⟨t, x⟩ := v
  obtain ⟨h1, h2⟩ := h
  have plain : (∀ n, ¬ F n) ∧ (∃ cs, u = pack t cs ∧ RO w' noS t x cs) → ∃ pl2, RelAt w0 S0 N dr pc s a w' S pl2 ∧ BVR w' S s.rts pl2 (.dat t x) u ∧ (∀ r ∈ (AV.dat t x).ids, r < s.nxt) ∧ s.nxt ≤ s.nxt ∧
      (∀ r, r < s.nxt → lk s.rts r = lk s.rts r ∧ pl2 r = pl r) ∧ (∀ r rt n, s.root r = some rt → (pl2 r).F n → F n ∨ ∃ r rt, s.root r = some rt ∧ (pl r).F n) := by
    rintro ⟨_, cs, e1, e2⟩
    exact ⟨pl, R, ⟨cs, e1, e2.frame fun _ h => h.elim⟩, by simp [AV.ids], Nat.le_refl _, fun _ _ => ⟨rfl, rfl⟩, fun r rt n h3 h4 => .inr ⟨r, rt, h3, h4⟩⟩
  cases t with
  | list e t =>
    obtain ⟨ct, H⟩ := h2
    have H' : Own w' S (.list e t) (t.lev + 1) x none ct [u] F := H.frame (fun _ h => h.elim) fun _ _ => rfl
    refine ⟨_, R.addRoot (Grew.refl w') (rt := ⟨e, t, t.lev, x, none⟩) H' (fun n hn => ⟨(h1 n hn).2, .inr ⟨fun hs => ?_, fun r2 rt2 h2 h3 => hF r2 rt2 n h2 h3 hn, fun hd i hi => ?_⟩⟩), ?_, ?_, Nat.le_succ _, ?_, ?_⟩
    · exact (h1 n hn).1 (hS n hs)
    · exact absurd (hp hd i n hi) (h1 n hn).1
    · intro rt2 hrt2
      have : rt2 = ⟨e, t, t.lev, x, none⟩ := by
        simp only [retAV, XS.addRoot, lk, if_true, Option.some.injEq] at hrt2; exact hrt2.symm
      subst this
      simp only [if_true]
      have := (H'.hdr (by simp)).1
      rw [this]
      simp [RT.at, TV.len, atCT]
    · simp [retAV, AV.ids, XS.addRoot]
    · intro r hr
      refine ⟨?_, ?_⟩
      · show lk ((s.nxt, _) :: s.rts) r = _
        simp only [lk]; rw [if_neg (by omega)]
      · show (if r = s.nxt then _ else pl r) = _
        rw [if_neg (by omega)]
    · intro r rt n h3 h4
      simp only [retAV, XS.root, XS.addRoot, lk] at h3
      by_cases e1 : s.nxt = r
      · subst e1
        simp only [if_true] at h4
        exact .inl h4
      · rw [if_neg e1] at h3
        simp only [if_neg (fun e => e1 e.symm : ¬ r = s.nxt)] at h4
        exact .inr ⟨r, rt, h3, h4⟩
  | int | bool | str | raw | prod | fn | row => exact plain h2

theorem retsAV_ok {T : Nat → Prop} (hS : ∀ n, S n → T n) (hp : dr = true → ∀ i n, pc i n → T n) {outs : List TV} {us : List Value} {F : Nat → Prop} (h : Rets T w' outs us F) :
    ∀ {s : XS} {pl : Nat → PL}, RelAt w0 S0 N dr pc s a w' S pl → (∀ r rt n, s.root r = some rt → (pl r).F n → ¬ F n) →
    ∃ pl2, RelAt w0 S0 N dr pc (retsAV s outs).1 a w' S pl2 ∧ BVRs w' S (retsAV s outs).1.rts pl2 (retsAV s outs).2 us ∧ (∀ av ∈ (retsAV s outs).2, ∀ r ∈ av.ids, r < (retsAV s outs).1.nxt) ∧ s.nxt ≤ (retsAV s outs).1.nxt ∧
      (∀ r, r < s.nxt → lk (retsAV s outs).1.rts r = lk s.rts r ∧ pl2 r = pl r) := by
  induction h with
  | nil => exact fun {s pl} R _ => ⟨pl, R, .nil, by simp [retsAV], Nat.le_refl _, fun _ _ => ⟨rfl, rfl⟩⟩
  | cons h1 hl hd ih =>
    intro s pl R hF
    obtain ⟨pl1, R1, b1, l1, n1, k1, f1⟩ := retAV_ok R h1 hS (fun r rt n h2 h3 h4 => hF r rt n h2 h3 (.inl h4)) hp
    obtain ⟨pl2, R2, b2, l2, n2, k2⟩ := ih R1 (fun r rt n h2 h3 h4 => by
      rcases f1 r rt n h2 h3 with h | ⟨r', rt', h5, h6⟩
      · exact hd n h h4
      · exact hF r' rt' n h5 h6 (.inr h4))
    refine ⟨pl2, R2, .cons ?_ b2, ?_, Nat.le_trans n1 n2, fun r hr => ⟨(k2 r (by omega)).1.trans (k1 r hr).1, (k2 r (by omega)).2.trans (k1 r hr).2⟩⟩
    · exact b1.frame (n := (retAV s _).1.nxt) (fun b hb => ⟨hb, rfl⟩) (fun r hr => .inr ⟨(k2 r hr).1, (k2 r hr).2⟩) l1
    · intro av hav r hr
      simp only [retsAV, List.mem_cons] at hav
      rcases hav with rfl | hav
      · exact Nat.lt_of_lt_of_le (l1 r hr) n2
      · exact l2 av hav r hr

theorem retAV_plain (s : XS) (v : TV) (rts : List (Nat × RT)) {u : Value} (h : BVR w S rts pl (retAV s v).2 u) (n : Nat) (hl : ∀ r ∈ (retAV s v).2.ids, r < n) : AVR w S rts pl (retAV s v).2 u ∧ (retAV s v).2.lt n := by
  obtain ⟨t, x⟩ := v
  cases t <;> exact ⟨h, hl⟩

theorem rets_new {T : Nat → Prop} {outs : List TV} {us : List Value} {F : Nat → Prop} (h : Rets T w' outs us F) : ∀ n, F n → ¬ T n := by
  induction h with
  | nil => exact fun _ h => h.elim
  | cons h1 _ _ ih => exact fun n hn => hn.elim (fun h => (h1.1 n h).1) (ih n)

theorem retAV_isPlain (s : XS) (v : TV) : (retAV s v).2.plain = true := by
  obtain ⟨t, x⟩ := v
  cases t <;> rfl

theorem retsPut_at {T : Nat → Prop} (R1 : RelAt w0 S0 N dr pc s a w' S pl) (hS : ∀ n, S n → T n) (hT : ∀ r rt n, s.root r = some rt → (pl r).F n → T n) (hp : dr = true → ∀ i n, pc i n → T n)
    {outs : List TV} {us : List Value} {F : Nat → Prop} (h : Rets T w' outs us F) {d : Option Nat} (hd : ∀ t, d = some t → t < N) :
    Rel w0 S0 N dr pc (retsPut s d outs) (a.put d (valOf us)) w' := by
  have hF : ∀ r rt n, s.root r = some rt → (pl r).F n → ¬ F n := fun r rt n h2 h3 h4 => rets_new h n h4 (hT r rt n h2 h3)
  obtain ⟨pl2, R2, b2, l2, n2, k2⟩ := retsAV_ok hS hp h R1 hF
  have tup : ∀ l, l = outs → (∀ v, l ≠ [v]) → valOf us = .tuple us.toArray → Rel w0 S0 N dr pc ((retsAV s l).1.put d (.tup (retsAV s l).2)) (a.put d (valOf us)) w' := by
    rintro l rfl _ hv
    exact ⟨S, pl2, R2.put hd ⟨us, hv, b2⟩ l2⟩
  cases h with
  | nil => exact tup [] rfl (by simp) rfl
  | cons h1 hl hdd =>
    rename_i v vs u us F G
    cases hl with
    | nil =>
      cases b2 with
      | cons hb _ =>
        obtain ⟨q1, q2⟩ := retAV_plain s v _ hb _ (l2 _ (by simp [retsAV]))
        exact ⟨S, pl2, R2.put hd q1 q2 (AV.plain_new (retAV_isPlain _ _))⟩
    | cons h2 hl2 hd2 => exact tup _ rfl (by simp) rfl

theorem retsPut_ok (R : RelAt w0 S0 N dr pc s a w S pl) (g : Grew w w') {outs : List TV} {us : List Value} {F : Nat → Prop} (h : Rets (oldS w) w' outs us F) {d : Option Nat} (hd : ∀ t, d = some t → t < N) :
    Rel w0 S0 N dr pc (retsPut s d outs) (a.put d (valOf us)) w' :=
  retsPut_at (T := oldS w) (R.grown g) (fun n hn => R.lt n hn) (fun r rt n h2 h3 => (R.Flt r rt n h2 h3).1) (fun hd i n hi => by obtain ⟨_, _, h2, _⟩ := R.pins hd i n hi; exact h2) h hd

theorem run_call {f : Nat} {fn : Func} (hf : P.funcs[f]? = some fn) (hn : (fn.name == "runtime.NumGoroutine") = false) (hb : fn.body.isNone = false) (args : Array Value) :
    (callFunc f args).run P w = .ok (.enter f args) w := by
  have hn' : fn.name ≠ "runtime.NumGoroutine" := by simpa using hn
  have hb' : fn.body ≠ none := by intro e; simp [e] at hb
  simp [callFunc, hf, hn', hb']

theorem xcall_ok (hC : CtxOK P C) (R : RelAt w0 S0 N dr pc s a w S pl) {o : Oper} {i f : Nat} {args : Array Operand} {ats : Array TypeId} {K : XS → Prop} (hd : ∀ t, o.dst = some t → t < N) {y : Operand} (hy : a.eval y = .func (.func f) #[] #[]) (ho : o.op = .call { callee := .value y, args, argTypes := ats }) {sp : Spec} (hs : C.fn f = some sp)
    {p : Prop} {l : List TV} (ha : argsAV s sp.ps args.toList = some (p, l)) (hp : p) (hK : sp.wp l fun outs => K (retsPut s o.dst outs)) :
    Out P dr o i pc a w (fun pc' a' w' => ∃ s', K s' ∧ Rel w0 S0 N dr pc' s' a' w') := by
  obtain ⟨⟨fn, hf, hn, hb⟩, hcall⟩ := hC.2.1 f sp hs
  have hA := argsAV_ok R sp.ps args.toList p l ha hp
  have hrun : (execOp a.eval o).run P w = .ok (.enter f (args.toList.map a.eval).toArray) w := by
    unfold execOp
    rw [ho]
    have e : (args.toList.map a.eval).toArray = args.map a.eval := by rw [← Array.toList_map, Array.toArray_toList]
    rw [e]
    have := run_call (P := P) (w := w) hf hn hb (args.map a.eval)
    simp only [resolve, invoke, hy, Deferred.ofValue, Sem.run_bind, Sem.run_pure, Result.andThen_ok, Array.empty_append, Array.append_empty]
    exact this
  have main : o.wp P a w (fun a' w' => (dr = true → kept o pc w w') ∧ ∃ s', K s' ∧ Rel w0 S0 N dr pc s' a' w') noQ := by
    unfold Oper.wp
    rw [hrun]
    refine Calls.mono (hcall l _ hK w _ hA) fun e w' h => ?_
    cases e with
    | returned v =>
      obtain ⟨g, outs, us, F, h1, rfl, h2⟩ := h
      exact ⟨fun hdr i b hb _ => g.old b (by obtain ⟨_, _, h2, _⟩ := R.pins hdr i b hb; exact h2), _, h1, retsPut_ok R g h2 hd⟩
    | panicked => exact h.elim
    | outgrown => exact h.elim
  unfold Out
  have hk : okind o.op = 2 := by rw [ho]; rfl
  rw [hk]
  exact main

theorem capTV_ok (R : RelAt w0 S0 N dr pc s a w S pl) (cs : List Nat) (l : List TV) (vs : List Value) (h : capTV s cs = some l) (hl : vs.length = cs.length)
    (hv : ∀ (i c : Nat) (rt : RT) (u : Value), cs[i]? = some c → lk s.rts c = some rt → vs[i]? = some u → u = addrP (pl c) rt [0]) : CapsAt w (oldS w) (l.map (·.t)) l vs :=
  capTV_S R (fun b hb => R.lt b hb) (fun r rt n hr hn => (R.Flt r rt n hr hn).1) cs l vs h hl hv

theorem xcl_ok (hC : CtxOK P C) (R : RelAt w0 S0 N dr pc s a w S pl) {o : Oper} {i f t : Nat} {args : Array Operand} {ats : Array TypeId} {K : XS → Prop} (hd : ∀ t, o.dst = some t → t < N) {cs : List Nat} (hy : s.get t = some (.clo f cs)) (ho : o.op = .call { callee := .value (.tmp t), args, argTypes := ats }) {sp : Spec} {l' : List TV} (hs : C.cl f = some (sp, l'.map (·.t)))
    (hcap : capTV s cs = some l') {p : Prop} {l : List TV} (ha : argsAV s sp.ps args.toList = some (p, l)) (hp : p) (hK : sp.wp (l ++ l') fun outs => K (retsPut s o.dst outs)) :
    Out P dr o i pc a w (fun pc' a' w' => ∃ s', K s' ∧ Rel w0 S0 N dr pc' s' a' w') := by
  obtain ⟨⟨fn, hf, hn, hb⟩, hcall⟩ := hC.2.2.2.2.1 f _ hs
  have hA := argsAV_ok R sp.ps args.toList p l ha hp
  obtain ⟨vs, e, h1, h2⟩ := (R.ev (x := .tmp t) hy).1
  have hCp := capTV_ok R cs l' vs hcap h1 h2
  have hrun : (execOp a.eval o).run P w = .ok (.enter f (args.toList.map a.eval ++ vs).toArray) w := by
    unfold execOp
    rw [ho]
    have e' : (args.toList.map a.eval ++ vs).toArray = args.map a.eval ++ vs.toArray := by
      rw [← List.append_toArray, ← Array.toList_map, Array.toArray_toList]
    rw [e']
    have := run_call (P := P) (w := w) hf hn hb (args.map a.eval ++ vs.toArray)
    simp only [resolve, invoke, e, Deferred.ofValue, Sem.run_bind, Sem.run_pure, Result.andThen_ok, Array.empty_append, Array.append_empty]
    exact this
  have main : o.wp P a w (fun a' w' => (dr = true → kept o pc w w') ∧ ∃ s', K s' ∧ Rel w0 S0 N dr pc s' a' w') noQ := by
    unfold Oper.wp
    rw [hrun]
    refine Calls.mono (hcall l l' _ hK w _ _ hA hCp) fun e w' h => ?_
    cases e with
    | returned v =>
      obtain ⟨g, outs, us, F, h1, rfl, h2⟩ := h
      exact ⟨fun hdr i b hb _ => g.old b (by obtain ⟨_, _, h2, _⟩ := R.pins hdr i b hb; exact h2), _, h1, retsPut_ok R g h2 hd⟩
    | panicked => exact h.elim
    | outgrown => exact h.elim
  unfold Out
  have hk : okind o.op = 2 := by rw [ho]; rfl
  rw [hk]
  exact main

theorem xclf_ok (hC : CtxOK P C) (R : RelAt w0 S0 N dr pc s a w S pl) {o : Oper} {i f t : Nat} {args : Array Operand} {ats : Array TypeId} {K : XS → Prop} (hd : ∀ t, o.dst = some t → t < N) {u : Ty} {y : u.den} (hy : s.get t = some (.dat (.fn f u) y)) (ho : o.op = .call { callee := .value (.tmp t), args, argTypes := ats }) {sp : Spec} (hs : C.cl f = some (sp, [u]))
    {p : Prop} {l : List TV} (ha : argsAV s sp.ps args.toList = some (p, l)) (hp : p) (hK : sp.wp (l ++ [⟨u, y⟩]) fun outs => K (retsPut s o.dst outs)) :
    Out P dr o i pc a w (fun pc' a' w' => ∃ s', K s' ∧ Rel w0 S0 N dr pc' s' a' w') := by
  obtain ⟨⟨fn, hf, hn, hb⟩, hcall⟩ := hC.2.2.2.2.1 f _ hs
  have hA := argsAV_ok R sp.ps args.toList p l ha hp
  obtain ⟨cs', e, hro⟩ := (R.ev (x := .tmp t) hy).1
  obtain ⟨b', o', arr, E, fr, rfl, k1, k2, k3, k4⟩ := hro
  obtain ⟨vs, hvs⟩ : ∃ vs : List Value, vs = [.pointer (some ⟨b', o', none⟩)] := ⟨_, rfl⟩
  have e : a.eval (.tmp t) = .func (.func f) #[] vs.toArray := by rw [hvs]; exact e
  have hCp : CapsAt w (oldS w) [u] [⟨u, y⟩] vs := by rw [hvs]; exact .cons (R.lt b' k1) k2 k3 (k4.frame fun b hb => ⟨R.lt b hb, rfl⟩) .nil
  have hrun : (execOp a.eval o).run P w = .ok (.enter f (args.toList.map a.eval ++ vs).toArray) w := by
    unfold execOp
    rw [ho]
    have e' : (args.toList.map a.eval ++ vs).toArray = args.map a.eval ++ vs.toArray := by
      rw [← List.append_toArray, ← Array.toList_map, Array.toArray_toList]
    rw [e']
    have := run_call (P := P) (w := w) hf hn hb (args.map a.eval ++ vs.toArray)
    simp only [resolve, invoke, e, Deferred.ofValue, Sem.run_bind, Sem.run_pure, Result.andThen_ok, Array.empty_append, Array.append_empty]
    exact this
  have main : o.wp P a w (fun a' w' => (dr = true → kept o pc w w') ∧ ∃ s', K s' ∧ Rel w0 S0 N dr pc s' a' w') noQ := by
    unfold Oper.wp
    rw [hrun]
    refine Calls.mono (hcall l [⟨u, y⟩] _ hK w _ _ hA hCp) fun e w' h => ?_
    cases e with
    | returned v =>
      obtain ⟨g, outs, us, F, h1, rfl, h2⟩ := h
      exact ⟨fun hdr i b hb _ => g.old b (by obtain ⟨_, _, h2, _⟩ := R.pins hdr i b hb; exact h2), _, h1, retsPut_ok R g h2 hd⟩
    | panicked => exact h.elim
    | outgrown => exact h.elim
  unfold Out
  have hk : okind o.op = 2 := by rw [ho]; rfl
  rw [hk]
  exact main

theorem calleeOf_ok (R : RelAt w0 S0 N dr pc s a w S pl) {t f : Nat} (h : calleeOf (s.get t) = some f) : a.eval (.tmp t) = .func (.func f) #[] #[] := by
  unfold calleeOf at h
  split at h
  · rename_i f' fst cap hg
    split at h
    · rename_i hc
      cases h
      have hv := (R.ev (x := .tmp t) hg).1
      obtain ⟨e, _⟩ := AVR.raw hv
      rw [e, Array.eq_empty_of_size_eq_zero hc.1, Array.eq_empty_of_size_eq_zero hc.2]
    · cases h
  · rename_i f' hg
    cases h
    obtain ⟨vs, e, h1, _⟩ := (R.ev (x := .tmp t) hg).1
    have : vs = [] := List.length_eq_zero_iff.1 h1
    subst this
    exact e
  · cases h

theorem argsAV_S {T : Nat → Prop} (R : RelAt w0 S0 N dr pc s a w S pl) (hS : ∀ n, S n → T n) (hT : ∀ r rt n, s.root r = some rt → (pl r).F n → T n) : ∀ (ts : List Ty) (xs : List Operand) (p : Prop) (l : List TV), argsAV s ts xs = some (p, l) → p → Args w T ts l (xs.map a.eval)
  | [], [], p, l, h, _ => by
    simp only [argsAV, Option.some.injEq, Prod.mk.injEq] at h
    obtain ⟨_, rfl⟩ := h
    exact .nil
  | t :: ts, x :: xs, p, l, h, hp => by
    simp only [argsAV] at h
    cases hx : s.ev x with
    | none => rw [hx] at h; simp at h
    | some av =>
      rw [hx] at h
      simp only [Option.bind_some] at h
      cases ha : argAV s t av with
      | none => rw [ha] at h; simp at h
      | some pv =>
        obtain ⟨p1, tv⟩ := pv
        rw [ha] at h
        cases hl : argsAV s ts xs with
        | none => rw [hl] at h; simp at h
        | some ql =>
          obtain ⟨q, l'⟩ := ql
          rw [hl] at h
          simp only [Option.some.injEq, Prod.mk.injEq] at h
          obtain ⟨rfl, rfl⟩ := h
          obtain ⟨y, u, rfl, e1, e2⟩ := argAV_S R hS hT (R.ev hx).1 ha hp.1
          simp only [List.map_cons]
          rw [e1]
          exact .cons e2 (argsAV_S R hS hT ts xs q l' hl hp.2)
  | [], _ :: _, _, _, h, _ => by simp [argsAV] at h
  | _ :: _, [], _, _, h, _ => by simp [argsAV] at h

theorem xmv_core (hC : CtxOK P C) (R : RelAt w0 S0 N dr pc s a w S pl) {o : Oper} {i f : Nat} {args : Array Operand} {ats : Array TypeId} {K : XS → Prop} (hd : ∀ t, o.dst = some t → t < N) (ho : o.op = .call { callee := .value (.func f), args, argTypes := ats }) {sp : Spec} (hs : C.mv f = some sp)
    {x : Operand} {xs : List Operand} (hargs : args.toList = x :: xs) {r : Nat} {rt : RT} (hr : s.root r = some rt) (H : Own w S rt.ty (rt.k + 1) rt.x none (pl r).ct [a.eval x] (pl r).F) (hk : rt.t.lev ≤ rt.k) {ts : List Ty} (hps : sp.ps = rt.ty :: ts)
    {p : Prop} {l : List TV} (ha : argsAV (s.kill r) ts xs = some (p, l)) (hp : p) (hnp : noPin dr s r = true) (hK : sp.wp (⟨rt.ty, rt.x⟩ :: l) fun outs => K (retsPut (s.kill r) o.dst outs)) :
    Out P dr o i pc a w (fun pc' a' w' => ∃ s', K s' ∧ Rel w0 S0 N dr pc' s' a' w') := by
  obtain ⟨⟨fn, hf, hn, hb⟩, hcall⟩ := hC.2.2.1 f sp hs
  have hk2 : ∀ r2 rt2, (s.kill r).root r2 = some rt2 → r2 ≠ r ∧ s.root r2 = some rt2 := fun r2 rt2 h => lk_rm_some h
  have RK := R.kill r
  have hFlt : ∀ n, (pl r).F n → n < w.heap.size := fun n hn => (R.Flt r rt n hr hn).1
  have hS : ∀ n, S n → butF w (pl r).F n := fun n hn => ⟨R.lt n hn, fun h => (R.Flt r rt n hr h).2 hn⟩
  have hT : ∀ r2 rt2 n, (s.kill r).root r2 = some rt2 → (pl r2).F n → butF w (pl r).F n := fun r2 rt2 n h2 h3 => ⟨(R.Flt r2 rt2 n (hk2 r2 rt2 h2).2 h3).1, fun h => (hk2 r2 rt2 h2).1 (R.disj r2 r rt2 rt n (hk2 r2 rt2 h2).2 hr h3 h)⟩
  have hO : Own w (butF w (pl r).F) rt.ty (rt.t.lev + 1) rt.x none (pl r).ct [a.eval x] (pl r).F := by
    exact own_full' (by simp only [Ty.lev]; omega) (by simp only [Ty.lev]; omega) H
  have hpin : dr = true → ∀ i n, pc i n → butF w (pl r).F n := fun hd i n hn => by
    obtain ⟨q, h1, h2, h3⟩ := R.pins hd i n hn
    refine ⟨h2, fun hF => ?_⟩
    have hq := h3 r rt hr hF
    subst hq
    simp only [noPin, hd, Bool.not_true, Bool.false_or, List.all_eq_true] at hnp
    have := hnp _ h1
    simp at this
  have hA := argsAV_S RK hS hT ts xs p l ha hp
  have hrun : (execOp a.eval o).run P w = .ok (.enter f (a.eval x :: xs.map a.eval).toArray) w := by
    unfold execOp
    rw [ho]
    have e : (a.eval x :: xs.map a.eval).toArray = args.map a.eval := by rw [← List.map_cons, ← hargs, ← Array.toList_map, Array.toArray_toList]
    rw [e]
    have := run_call (P := P) (w := w) hf hn hb (args.map a.eval)
    simp only [resolve, invoke, Deferred.ofValue, Act.eval, Sem.run_bind, Sem.run_pure, Result.andThen_ok, Array.empty_append, Array.append_empty]
    exact this
  have main : o.wp P a w (fun a' w' => (dr = true → kept o pc w w') ∧ ∃ s', K s' ∧ Rel w0 S0 N dr pc s' a' w') noQ := by
    unfold Oper.wp
    rw [hrun]
    refine Calls.mono (hcall rt.e rt.t ts rt.x l _ hps hK w _ _ _ _ hO hFlt hA) fun e w' h => ?_
    cases e with
    | returned v =>
      obtain ⟨g, outs, us, G, h1, rfl, h2⟩ := h
      have R1 : RelAt w0 S0 N dr pc (s.kill r) a w' S pl := RK.moved g.os g.tape (g.output.mono fun n hn => hS n (R.base n hn)) g.size fun n hn h => g.old n (by
        rcases h with h | ⟨r2, rt2, h3, h4⟩
        · exact hS n h
        · exact hT r2 rt2 n h3 h4)
      exact ⟨fun hdr i b hb _ => g.old b (hpin hdr i b hb), _, h1, retsPut_at R1 hS hT hpin h2 hd⟩
    | panicked => exact h.elim
    | outgrown => exact h.elim
  unfold Out
  have hk : okind o.op = 2 := by rw [ho]; rfl
  rw [hk]
  exact main

theorem xmv_ok (hC : CtxOK P C) (R : RelAt w0 S0 N dr pc s a w S pl) {o : Oper} {i f : Nat} {args : Array Operand} {ats : Array TypeId} {K : XS → Prop} (hd : ∀ t, o.dst = some t → t < N) (ho : o.op = .call { callee := .value (.func f), args, argTypes := ats }) {sp : Spec} (hs : C.mv f = some sp)
    {x : Operand} {xs : List Operand} (hargs : args.toList = x :: xs) {r : Nat} (hx : s.ev x = some (.ref r [])) {rt : RT} (hr : s.root r = some rt) (hh : rt.h = none) (hk : rt.t.lev ≤ rt.k) {ts : List Ty} (hps : sp.ps = rt.ty :: ts)
    {p : Prop} {l : List TV} (ha : argsAV (s.kill r) ts xs = some (p, l)) (hp : p) (hnp : noPin dr s r = true) (hK : sp.wp (⟨rt.ty, rt.x⟩ :: l) fun outs => K (retsPut (s.kill r) o.dst outs)) :
    Out P dr o i pc a w (fun pc' a' w' => ∃ s', K s' ∧ Rel w0 S0 N dr pc' s' a' w') := by
  refine xmv_core hC R hd ho hs hargs hr ?_ hk hps ha hp hnp hK
  obtain ⟨hv, H⟩ := R.own r rt hr
  have hv0 : a.eval x = hv := by
    have h1 : a.eval x = hdr (atCT [] rt.ty (pl r).ct) (rt.at []).len := (R.ev hx).1 rt hr
    rw [h1]; exact (H.hdr (by rw [hh]; simp)).1.symm
  rw [hv0]
  rw [hh] at H
  exact H

/-- .. a row of a list: it is taken out first. -/
theorem xmvp_ok (hC : CtxOK P C) (R : RelAt w0 S0 N false pc s a w S pl) {o : Oper} {i f : Nat} {args : Array Operand} {ats : Array TypeId} {K : XS → Prop} (hd : ∀ t, o.dst = some t → t < N) (ho : o.op = .call { callee := .value (.func f), args, argTypes := ats }) {sp : Spec} (hs : C.mv f = some sp)
    {x : Operand} {xs : List Operand} (hargs : args.toList = x :: xs) {x' : AV} (hx : s.ev x = some x') {e : Nat} {u : Ty} {p1 : Prop} {s1 : XS} {r : Nat} (ho1 : own1 s e u x' = some (p1, s1, r)) (hp1 : p1) {rt : RT} (hr : s1.root r = some rt) (hk : rt.t.lev ≤ rt.k) {ts : List Ty} (hps : sp.ps = rt.ty :: ts)
    {p : Prop} {l : List TV} (ha : argsAV (s1.kill r) ts xs = some (p, l)) (hp : p) (hK : sp.wp (⟨rt.ty, rt.x⟩ :: l) fun outs => K (retsPut (s1.kill r) o.dst outs)) :
    Out P false o i pc a w (fun pc' a' w' => ∃ s', K s' ∧ Rel w0 S0 N false pc' s' a' w') := by
  obtain ⟨pl1, rt1, R1, h1, h2, h3, h4, H, _⟩ := own1_ok R (R.ev hx).1 ho1 hp1
  rw [hr] at h1
  cases h1
  exact xmv_core hC R1 hd ho hs hargs hr H hk hps ha hp (by simp [noPin]) hK

theorem xip_ok (hC : CtxOK P C) (R : RelAt w0 S0 N false pc s a w S pl) {o : Oper} {i f : Nat} {args : Array Operand} {ats : Array TypeId} {K : XS → Prop} (hd : ∀ t, o.dst = some t → t < N) (ho : o.op = .call { callee := .value (.func f), args, argTypes := ats }) {sp : Spec} (hs : C.ip f = some sp)
    {x : Operand} {xs : List Operand} (hargs : args.toList = x :: xs) {r : Nat} (hx : s.ev x = some (.ref r [])) {rt : RT} (hr : s.root r = some rt) (hh : rt.h = none) (hk : rt.t.lev ≤ rt.k) {ts : List Ty} (hps : sp.ps = rt.ty :: ts)
    {p : Prop} {l : List TV} (ha : argsAV (s.kill r) ts xs = some (p, l)) (hp : p) (hK : sp.wp (⟨rt.ty, rt.x⟩ :: l) fun outs => match outs with | [v] => K ((s.inPlace r rt v).put o.dst (.tup [])) | _ => False) :
    Out P false o i pc a w (fun pc' a' w' => ∃ s', K s' ∧ Rel w0 S0 N false pc' s' a' w') := by
  obtain ⟨⟨fn, hf, hn, hb⟩, hcall⟩ := hC.2.2.2.1 f sp hs
  have hk2 : ∀ r2 rt2, (s.kill r).root r2 = some rt2 → r2 ≠ r ∧ s.root r2 = some rt2 := fun r2 rt2 h => lk_rm_some h
  have RK := R.kill r
  obtain ⟨hv, H⟩ := R.own r rt hr
  have hv0 : a.eval x = hv := by
    have h1 : a.eval x = hdr (atCT [] rt.ty (pl r).ct) (rt.at []).len := (R.ev hx).1 rt hr
    rw [h1]; exact (H.hdr (by rw [hh]; simp)).1.symm
  have hFlt : ∀ n, (pl r).F n → n < w.heap.size := fun n hn => (R.Flt r rt n hr hn).1
  have hS : ∀ n, S n → butF w (pl r).F n := fun n hn => ⟨R.lt n hn, fun h => (R.Flt r rt n hr h).2 hn⟩
  have hT : ∀ r2 rt2 n, (s.kill r).root r2 = some rt2 → (pl r2).F n → butF w (pl r).F n := fun r2 rt2 n h2 h3 => ⟨(R.Flt r2 rt2 n (hk2 r2 rt2 h2).2 h3).1, fun h => (hk2 r2 rt2 h2).1 (R.disj r2 r rt2 rt n (hk2 r2 rt2 h2).2 hr h3 h)⟩
  have hO : Own w (butF w (pl r).F) rt.ty (rt.t.lev + 1) rt.x none (pl r).ct [a.eval x] (pl r).F := by
    rw [hv0]
    rw [hh] at H
    exact own_full' (by simp only [Ty.lev]; omega) (by simp only [Ty.lev]; omega) H
  have hA := argsAV_S RK hS hT ts xs p l ha hp
  have hrun : (execOp a.eval o).run P w = .ok (.enter f (a.eval x :: xs.map a.eval).toArray) w := by
    unfold execOp
    rw [ho]
    have e : (a.eval x :: xs.map a.eval).toArray = args.map a.eval := by rw [← List.map_cons, ← hargs, ← Array.toList_map, Array.toArray_toList]
    rw [e]
    have := run_call (P := P) (w := w) hf hn hb (args.map a.eval)
    simp only [resolve, invoke, Deferred.ofValue, Act.eval, Sem.run_bind, Sem.run_pure, Result.andThen_ok, Array.empty_append, Array.append_empty]
    exact this
  have main : o.wp P a w (fun a' w' => (false = true → kept o pc w w') ∧ ∃ s', K s' ∧ Rel w0 S0 N false pc s' a' w') noQ := by
    unfold Oper.wp
    rw [hrun]
    refine Calls.mono (hcall rt.e rt.t ts rt.x l _ hps hK w _ _ _ _ hO hFlt hA) fun e w' h => ?_
    cases e with
    | returned v =>
      obtain ⟨rfl, g, x', ct', G, h1, h2, h3⟩ := h
      have hO1 := hO.hdr (by simp)
      have hO2 := h3.hdr (by simp)
      have hce : hdr ct' x'.length = hdr (pl r).ct rt.x.length := hO2.1.symm.trans hO1.1
      have hinv := own_inv h3
      have hinv0 := own_inv hO
      have hnm : SameNames isNilP isOneP rt (rt.withX ⟨.list rt.e rt.t, x'⟩) (pl r).ct ct' := by
        rcases hinv0 with ⟨q1, q2, _⟩ | ⟨b, cap, kids, _, _, q1, _⟩ <;> rcases hinv with ⟨p1, p2, _⟩ | ⟨b', cap', kids', _, _, p1, _⟩
        · rw [q1, p1]
          refine ⟨fun p hp => ?_, fun p lo hi v hp h1 h2 h3 => ?_, fun p hp => ?_⟩
          · cases p with
            | nil => simp [hdr, atCT]
            | cons => cases hp
          · cases p with
            | nil =>
              simp only [RT.at, getS, TV.len, RT.ty] at h2 ⊢
              rw [q2] at h2
              exact ⟨Nat.le_trans h2 (Nat.zero_le _), h3⟩
            | cons => cases hp
          · cases p <;> rfl
        · rw [q1, p1] at hce; simp [hdr] at hce
        · rw [q1, p1] at hce; simp [hdr] at hce
        · rw [q1, p1] at hce
          simp only [hdr, Value.slice.injEq, Option.some.injEq, Addr.mk.injEq] at hce
          obtain ⟨⟨rfl, _⟩, hl, rfl⟩ := hce
          rw [q1, p1]
          refine ⟨fun p hp => ?_, fun p lo hi v hp h1 h2 h3 => ?_, fun p hp => ?_⟩
          · cases p with
            | nil =>
              show hdr (.node _ _ _) x'.length = hdr (.node _ _ _) rt.x.length
              simp only [hdr, hl]
            | cons => cases hp
          · cases p with
            | nil =>
              have h2' : hi ≤ rt.x.length := h2
              exact ⟨show hi ≤ x'.length by omega, h3⟩
            | cons => cases hp
          · match p with
            | [] => rfl
            | [i] => rfl
            | i :: j :: p => cases hp
      refine ⟨(fun h => by cases h), _, h1, ?_⟩
      refine ⟨S, _, (R.setRoot (w' := w') (rt' := rt.withX ⟨.list rt.e rt.t, x'⟩) (kr := isNilP) (kp := isOneP) hr rfl g.os g.tape (g.output.mono fun n hn => hS n (R.base n hn)) g.size (fun b hb hnF => g.old b ⟨hb, hnF⟩) (ct' := ct') (F' := G) (hv := a.eval x) ?_ ?_ hnm).put hd ⟨[], rfl, .nil⟩ fun _ h => by cases h⟩
      · show Own w' S (.list rt.e rt.t) (rt.k + 1) x' rt.h ct' [a.eval x] G
        rw [hh]
        exact own_full' (by simp only [Ty.lev]; omega) (by simp only [Ty.lev]; omega) h3
      · intro b hb
        obtain ⟨g1, g2⟩ := h2 b hb
        refine ⟨g2, ?_⟩
        by_cases hFb : (pl r).F b
        · exact .inl hFb
        · exact .inr (.inl (Nat.le_of_not_lt fun hlt => g1 ⟨hlt, hFb⟩))
    | panicked => exact h.elim
    | outgrown => exact h.elim
  unfold Out
  have hk : okind o.op = 2 := by rw [ho]; rfl
  rw [hk]
  exact main

end
end Fer

/- Maps from numbers to numbers, that a function has made itself. Over any program. -/
namespace Fer
open Go Go.MapKept

section
variable {P : Program} {C : Ctx} {w0 : World} {S0 : Nat → Prop} {dr : Bool} {pc : Pins} {s : XS} {a : Act} {w w' : World} {S : Nat → Prop} {pl : Nat → PL}

def isCells (w : World) (b : Nat) : Prop := ∃ arr E fr, w.heap[b]? = some (.cells arr E fr)

theorem RO.frameC {w w' : World} {S S' : Nat → Prop} (hS : ∀ b, S b → isCells w b → S' b ∧ w'.heap[b]? = w.heap[b]?) :
    ∀ {t : Ty} {x : t.den} {cs : List Value}, RO w S t x cs → RO w' S' t x cs
  | .int _, _, _, h => h
  | .bool, _, _, h => h
  | .str, _, _, h => h
  | .raw, _, _, h => h
  | .row _ t, x, cs, h => by
    obtain ⟨b, cap, arr, h1, h2, h3, h4, h5, h6, h7⟩ := h
    have hb := hS b h4 ⟨arr, _, _, h5⟩
    exact ⟨b, cap, arr, h1, h2, h3, hb.1, hb.2.trans h5, h6, fun i hi => (h7 i hi).frameC hS⟩
  | .fn _ t, x, cs, h => by
    obtain ⟨b, o, arr, E, fr, h1, h2, h3, h4, h5⟩ := h
    have hb := hS b h2 ⟨arr, E, fr, h3⟩
    exact ⟨b, o, arr, E, fr, h1, hb.1, hb.2.trans h3, h4, h5.frameC hS⟩
  | .list _ t, xs, cs, h => by
    obtain ⟨a, cap, h1, h2, h3, h4⟩ := h
    refine ⟨a, cap, h1, h2, h3, fun hne => ?_⟩
    obtain ⟨b, off, arr, E, fr, e1, e2, e3, e4, e5⟩ := h4 hne
    have hb := hS b e2 ⟨arr, E, fr, e3⟩
    exact ⟨b, off, arr, E, fr, e1, hb.1, hb.2.trans e3, e4, fun i hi => (e5 i hi).frameC hS⟩
  | .prod a b, x, cs, h => by
    obtain ⟨c1, c2, h0, h1, h2⟩ := h
    exact ⟨c1, c2, h0, h1.frameC hS, h2.frameC hS⟩

theorem Own.frameC {w w' : World} {S S' : Nat → Prop} (hS : ∀ b, S b → isCells w b → S' b ∧ w'.heap[b]? = w.heap[b]?) :
    ∀ {t : Ty} {k : Nat} {x : t.den} {h : Option (List Nat)} {ct : CT} {cs : List Value} {F : Nat → Prop},
    Own w S t k x h ct cs F → (∀ b, F b → w'.heap[b]? = w.heap[b]?) → Own w' S' t k x h ct cs F
  | .int _, _, _, _, _, _, _, h, _ => h
  | .bool, _, _, _, _, _, _, h, _ => h
  | .str, _, _, _, _, _, _, h, _ => h
  | .raw, _, _, _, _, _, _, h, _ => ⟨h.1, h.2.imp id fun q => ⟨q.1, q.2.frameC hS⟩⟩
  | .fn _ _, _, _, _, _, _, _, h, _ | .row _ _, _, _, _, _, _, _, h, _ => ⟨h.1, h.2.imp id fun q => ⟨q.1, q.2.1, q.2.2.frameC hS⟩⟩
  | .list e t, k, xs, h, ct, cs, F, H, hF => by
    rcases H with H | ⟨h0, H⟩
    · exact .inl H
    · refine .inr ⟨h0, ?_⟩
      cases k with
      | zero => exact ⟨H.1, H.2.1.frameC hS, H.2.2⟩
      | succ k =>
        cases ct with
        | nil => exact H
        | node b cap kids =>
          obtain ⟨h1, h2, h3, arr, h4, h5, Fs, g1, g2, g3, g4⟩ := H
          exact ⟨h1, h2, h3, arr, (hF b ((g1 b).2 (.inl rfl))).trans h4, h5, Fs, g1, g2, g3,
            fun i hi => (g4 i hi).frameC hS fun n hn => hF n ((g1 n).2 (.inr ⟨i, hi, hn⟩))⟩
        | leaf => exact H.elim
        | pair => exact H.elim
  | .prod a b, k, x, h, ct, cs, F, H, hF => by
    rcases H with H | ⟨h0, H⟩
    · exact .inl H
    · refine .inr ⟨h0, ?_⟩
      cases ct with
      | pair c d =>
        obtain ⟨c1, c2, F1, F2, h1, g1, g2, g3, g4⟩ := H
        exact ⟨c1, c2, F1, F2, h1, g1, g2, g3.frameC hS fun n hn => hF n ((g1 n).2 (.inl hn)), g4.frameC hS fun n hn => hF n ((g1 n).2 (.inr hn))⟩
      | nil => exact H.elim
      | node => exact H.elim
      | leaf => exact H.elim

theorem BVR.frameC {rts : List (Nat × RT)} (hS : ∀ b, S b → isCells w b → S b ∧ w'.heap[b]? = w.heap[b]?) {av : AV} {v : Value} (h : BVR w S rts pl av v) : BVR w' S rts pl av v := by
  cases av with
  | dat t x => obtain ⟨cs, h1, h2⟩ := h; exact ⟨cs, h1, h2.frameC hS⟩
  | rptr t x =>
    obtain ⟨b, o, arr, E, fr, h1, h2, h3, h4, h5⟩ := h
    exact ⟨b, o, arr, E, fr, h1, h2, ((hS b h2 ⟨arr, E, fr, h3⟩).2).trans h3, h4, h5.frameC hS⟩
  | ref r p => exact h
  | sub r p lo hi => exact h
  | ptr r p => exact h
  | clo f c => exact h
  | loc r b => exact h
  | one r => exact h
  | tup l => exact h
  | agg l => exact h
  | mp b f => exact h
  | junk => trivial
theorem BVRs.frameC {rts : List (Nat × RT)} (hS : ∀ b, S b → isCells w b → S b ∧ w'.heap[b]? = w.heap[b]?) {l : List AV} {vs : List Value} (h : BVRs w S rts pl l vs) : BVRs w' S rts pl l vs := by
  induction h with
  | nil => exact .nil
  | cons h t ih => exact .cons (h.frameC hS) ih

theorem lk_mpSet {b : Nat} {g : Int → Int} {i : Nat} : ∀ (l : List (Nat × AV)), lk (mpSet b g l) i = (lk l i).map (AV.setMp b g)
  | [] => rfl
  | (j, x) :: l => by
    simp only [mpSet, lk]
    split
    · rfl
    · exact lk_mpSet l

/-- A map of one's own is turned. -/
theorem RelAt.mapSet {N : Nat} (R : RelAt w0 S0 N dr pc s a w S pl) {b i : Nat} {f g : Int → Int} (hi : s.get i = some (.mp b f)) (hos : w'.os = w.os) (htape : w'.tape = w.tape) (hout : SameOut S0 w w') (hsz : w'.heap.size = w.heap.size)
    (hold : ∀ n, n ≠ b → w'.heap[n]? = w.heap[n]?) (hm : MapAt w' b g) : RelAt w0 S0 N dr pc { s with env := mpSet b g s.env } a w' S pl := by
  obtain ⟨_, hSb, es, c, hb, _⟩ := (R.env i _ hi).1
  have hnc : ∀ n, isCells w n → n ≠ b := fun n hn e => by
    subst e
    obtain ⟨arr, E, fr, h⟩ := hn
    rw [hb] at h
    cases h
  have hSC : ∀ n, S n → isCells w n → S n ∧ w'.heap[n]? = w.heap[n]? := fun n hn hc => ⟨hn, hold n (hnc n hc)⟩
  have hFb : ∀ r rt n, s.root r = some rt → (pl r).F n → w'.heap[n]? = w.heap[n]? := fun r rt n hr hn => hold n fun e => (R.Flt r rt n hr hn).2 (e ▸ hSb)
  have hnew := R.news i b f hi
  refine { defers := R.defers, size := R.size, os := hos.trans R.os, tape := htape.trans R.tape, output := hout.trans R.output, grow := by rw [hsz]; exact R.grow, stay := fun n hn => ?_, base := R.base, lt := fun n hn => by rw [hsz]; exact R.lt n hn, own := fun r rt hr => ?_, Flt := fun r rt n hr hn => by rw [hsz]; exact R.Flt r rt n hr hn, disj := R.disj, ids := R.ids, env := fun j av hj => ?_, pins := fun hd i b hp => ?_, news := fun j b' f' hj => ?_ }
  · refine (hold n fun e => ?_).trans (R.stay n hn)
    have h1 := R.stay n hn
    rw [e, hb, Array.getElem?_eq_none hnew] at h1
    cases h1
  · obtain ⟨hv, H⟩ := R.own r rt hr
    exact ⟨hv, H.frameC hSC fun n hn => hFb r rt n hr hn⟩
  · simp only [XS.get, lk_mpSet, Option.map_eq_some_iff] at hj
    obtain ⟨av0, h0, rfl⟩ := hj
    obtain ⟨h1, h2⟩ := R.env j av0 h0
    cases av0 with
    | mp b' f' =>
      obtain ⟨q1, q2, q3⟩ := h1
      by_cases e : b' = b
      · subst e
        simp only [AV.setMp, if_true]
        exact ⟨⟨q1, q2, hm⟩, fun r hr => by simp [AV.ids] at hr⟩
      · simp only [AV.setMp, if_neg e]
        obtain ⟨es', c', q3, q4⟩ := q3
        exact ⟨⟨q1, q2, es', c', (hold b' e).trans q3, q4⟩, fun r hr => by simp [AV.ids] at hr⟩
    | tup l => obtain ⟨vs, q1, q2⟩ := h1; exact ⟨⟨vs, q1, q2.frameC hSC⟩, h2⟩
    | agg l => obtain ⟨vs, q1, q2⟩ := h1; exact ⟨⟨vs, q1, q2.frameC hSC⟩, h2⟩
    | dat t x => exact ⟨BVR.frameC (rts := s.rts) (pl := pl) (av := .dat t x) hSC h1, h2⟩
    | rptr t x => exact ⟨BVR.frameC (rts := s.rts) (pl := pl) (av := .rptr t x) hSC h1, h2⟩
    | ref r p => exact ⟨h1, h2⟩
    | sub r p lo hi => exact ⟨h1, h2⟩
    | ptr r p => exact ⟨h1, h2⟩
    | clo f c => exact ⟨h1, h2⟩
    | loc r b => exact ⟨h1, h2⟩
    | one r => exact ⟨h1, h2⟩
    | junk => exact ⟨trivial, h2⟩
  · obtain ⟨q, h1, h2, h3⟩ := R.pins hd i b hp
    exact ⟨q, h1, by rw [hsz]; exact h2, h3⟩
  · simp only [XS.get, lk_mpSet, Option.map_eq_some_iff] at hj
    obtain ⟨av0, h0, h1⟩ := hj
    cases av0 with
    | mp b2 f2 =>
      simp only [AV.setMp] at h1
      split at h1
      · rename_i e
        cases h1
        exact R.news j _ f2 h0 |> fun h => e ▸ h
      · cases h1
        exact R.news j _ _ h0
    | _ => cases h1

/-! ### What a map holds -/

def keyedE (l : List MapEntry) : Prop := ∀ e ∈ l, ∃ k v, e.key = .int .i64 k ∧ e.val = .int .i64 v

theorem mget_cons {e : MapEntry} {l : List MapEntry} {k v j : Int} (h1 : e.key = .int .i64 j) (h2 : e.val = .int .i64 v) : mget (e :: l) k = if j = k then v else mget l k := by
  simp only [mget, h1, h2]

theorem find_spec (n m : Int) (born : Nat) : ∀ (l : List MapEntry) (i : Nat), keyedE l →
    (Instr.findNow (.int .i64) (.int .i64 n) l i = some none ∧ mget l n = 0 ∧ ∀ k, mget (l ++ [{ key := .int .i64 n, val := .int .i64 m, born := born }]) k = if k = n then m else mget l k) ∨
    ∃ j v e, Instr.findNow (.int .i64) (.int .i64 n) l i = some (some (i + j, .int .i64 v)) ∧ mget l n = v ∧ l[j]? = some e ∧ e.key = .int .i64 n ∧
      ∀ k, mget (l.modify j fun e => { e with key := .int .i64 n, val := .int .i64 m }) k = if k = n then m else mget l k
  | [], i, _ => .inl ⟨rfl, rfl, fun k => by
      simp only [List.nil_append, mget]
      by_cases h : k = n
      · rw [if_pos h.symm, if_pos h]
      · rw [if_neg (fun e => h e.symm), if_neg h]⟩
  | e :: l, i, h => by
    obtain ⟨j, v, hj, hv⟩ := h e (.head _)
    have hl : keyedE l := fun x hx => h x (.tail _ hx)
    have hs : Instr.sameNow (.int .i64) (.int .i64 n) e.key = some (n == j) := by rw [hj]; simp [Instr.sameNow]
    by_cases hn : n = j
    · subst hn
      refine .inr ⟨0, v, e, by simp [Instr.findNow, hs, hv], by rw [mget_cons hj hv, if_pos rfl], rfl, hj, fun k => ?_⟩
      simp only [List.modify_succ_cons, List.modify_zero_cons]
      rw [mget_cons (j := n) (v := m) rfl rfl, mget_cons hj hv]
      by_cases hk : k = n
      · rw [if_pos hk.symm, if_pos hk]
      · rw [if_neg (fun e => hk e.symm), if_neg hk, if_neg (fun e => hk e.symm)]
    · have hb : (n == j) = false := by simpa using hn
      rw [hb] at hs
      rcases find_spec n m born l (i + 1) hl with ⟨h1, h2, h3⟩ | ⟨q, v', e', h1, h2, h3, h4, h5⟩
      · refine .inl ⟨by simp [Instr.findNow, hs, h1], by rw [mget_cons hj hv, if_neg (fun e => hn e.symm), h2], fun k => ?_⟩
        rw [List.cons_append, mget_cons hj hv, mget_cons hj hv, h3 k]
        by_cases hk : k = n
        · rw [if_pos hk, if_pos hk, if_neg (by omega)]
        · rw [if_neg hk, if_neg hk]
      · refine .inr ⟨q + 1, v', e', by simp [Instr.findNow, hs, h1]; omega, by rw [mget_cons hj hv, if_neg (fun e => hn e.symm), h2], by simpa using h3, h4, fun k => ?_⟩
        simp only [List.modify_succ_cons]
        rw [mget_cons hj hv, mget_cons hj hv, h5 k]
        by_cases hk : k = n
        · rw [if_pos hk, if_pos hk, if_neg (by omega)]
        · rw [if_neg hk, if_neg hk]

theorem keyed_modify {l : List MapEntry} (h : keyedE l) (j : Nat) (n m : Int) : keyedE (l.modify j fun e => { e with key := .int .i64 n, val := .int .i64 m }) := by
  intro e he
  rw [List.mem_iff_getElem?] at he
  obtain ⟨q, hq⟩ := he
  rw [List.getElem?_modify] at hq
  cases hx : l[q]? with
  | none => rw [hx] at hq; simp at hq
  | some x =>
    rw [hx] at hq
    have hx' := h x (List.mem_of_getElem? hx)
    simp only [Option.map_eq_map, Option.map_some, Option.some.injEq] at hq
    split at hq
    · subst hq
      exact ⟨n, m, rfl, rfl⟩
    · subst hq
      exact hx'

structure MTE (P : Program) (t kt vt : Nat) : Prop where
  hm : P.underlying t = some (.map kt vt)
  hk : P.underlying kt = some (.int .i64)
  hz : ∃ inf, P.info? vt = some inf ∧ inf.zero = some (.int .i64 0)

theorem map_te {t kt vt : Nat} (h : teB P t (.map kt vt) = true) : MTE P t kt vt := by
  simp only [teB, Bool.and_eq_true] at h
  obtain ⟨⟨h1, h2⟩, h3⟩ := h
  refine ⟨?_, ?_, ?_⟩
  · split at h1
    · rename_i k v hu
      simp only [Bool.and_eq_true, beq_iff_eq] at h1
      rw [hu, h1.1, h1.2]
    · cases h1
  · split at h2
    · assumption
    · cases h2
  · split at h3
    · rename_i inf hi
      split at h3
      · rename_i n hz
        simp only [beq_iff_eq] at h3
        subst h3
        exact ⟨inf, hi, hz⟩
      · cases h3
    · cases h3

theorem run_get {t kt vt b : Nat} {f : Int → Int} {n : Int} (h : MTE P t kt vt) (hb : MapAt w b f) : (Instr.lookup t (.map (some b)) (.int .i64 n) false).run P w = .ok (.int .i64 (f n)) w := by
  obtain ⟨es, c, h1, h2, h3⟩ := hb
  have hc : (Instr.checkKey es.isEmpty 10000 kt (.int .i64 n)).run P w = .ok () w := run_checkKey h.hk (by simp [IsKey]) _ 9999
  obtain ⟨inf, z1, z2⟩ := h.hz
  have hz : (zeroValue vt).run P w = .ok (.int .i64 0) w := by simp [zeroValue, typeInfo, z1, z2]
  rcases find_spec n 0 0 es.toList 0 h2 with ⟨q1, q2, _⟩ | ⟨j, v, e, q1, q2, _, _, _⟩
  · simp [Instr.lookup, run_underlying h.hm, run_getObj_map h1, hc, run_findKey h.hk q1, hz, Result.andThen, h3, q2]
  · simp [Instr.lookup, run_underlying h.hm, run_getObj_map h1, hc, run_findKey h.hk q1, Result.andThen, h3, q2]

theorem run_upd {t kt vt b : Nat} {f : Int → Int} {n m : Int} (h : MTE P t kt vt) (hb : MapAt w b f) : ∃ o, (Instr.mapUpdate t (.map (some b)) (.int .i64 n) (.int .i64 m)).run P w = .ok () { w with heap := w.heap.setIfInBounds b o } ∧
    MapAt { w with heap := w.heap.setIfInBounds b o } b (fun j => if j = n then m else f j) := by
  obtain ⟨es, c, h1, h2, h3⟩ := hb
  have hc : (Instr.checkKey false 10000 kt (.int .i64 n)).run P w = .ok () w := run_checkKey h.hk (by simp [IsKey]) _ 9999
  have hlt : b < w.heap.size := (Array.getElem?_eq_some_iff.1 h1).1
  have hset : ∀ o, (w.heap.setIfInBounds b o)[b]? = some o := fun o => by simp [hlt]
  rcases find_spec n m c es.toList 0 h2 with ⟨q1, q2, q3⟩ | ⟨j, v, e, q1, q2, q3, q4, q5⟩
  · refine ⟨.map (es.push { key := .int .i64 n, val := .int .i64 m, born := c }) (c + 1), ?_, _, _, hset _, ?_, fun k => ?_⟩
    · simp [Instr.mapUpdate, run_underlying h.hm, run_getObj_map h1, hc, run_findKey h.hk q1, run_setObj_map _ h1, Result.andThen]
    · intro x hx
      simp only [Array.toList_push, List.mem_append, List.mem_singleton] at hx
      rcases hx with hx | rfl
      · exact h2 x hx
      · exact ⟨n, m, rfl, rfl⟩
    · show (if k = n then m else f k) = _
      rw [Array.toList_push, q3 k, h3 k]
  · have hj : es[j]? = some e := by simpa using q3
    refine ⟨.map (es.modify j fun e => { e with key := .int .i64 n, val := .int .i64 m }) c, ?_, _, _, hset _, ?_, fun k => ?_⟩
    · simp [Instr.mapUpdate, run_underlying h.hm, run_getObj_map h1, hc, run_findKey h.hk q1, hj, q4, run_keyThatStays (d := .int .i64) (k := .int .i64 n) rfl, run_setObj_map _ h1, Result.andThen]
    · rw [Array.toList_modify]
      exact keyed_modify h2 j n m
    · show (if k = n then m else f k) = _
      rw [Array.toList_modify, q5 k, h3 k]

theorem Out.two {o : Oper} {i : Nat} {K : Pins → Act → World → Prop} (h2 : okind o.op = 2) (h : o.wp P a w (fun a' w' => (dr = true → kept o pc w w') ∧ K pc a' w') noQ) : Out P dr o i pc a w K := by
  unfold Out
  rw [h2]
  exact h

theorem mpOp_ok {N : Nat} (htt : ttB P C.tt = true) (R : RelAt w0 S0 N dr pc s a w S pl) {o : Oper} {i : Nat} {K : XS → Prop} {m : MpOp} (hd : ∀ t, o.dst = some t → t < N) (hm : mpOp C.tt s o = some m)
    (h : match m with
      | .mk => dr = false ∧ ∀ b : Nat, K (s.put o.dst (.mp b fun _ => 0))
      | .get _ f n => dr = false ∧ K (s.put o.dst (.dat (.int .i64) (f n)))
      | .upd b f n m => dr = false ∧ K ({ s with env := mpSet b (fun j => if j = n then m else f j) s.env }.put o.dst (.tup []))) :
    Out P dr o i pc a w (fun pc' a' w' => ∃ s', K s' ∧ Rel w0 S0 N dr pc' s' a' w') := by
  obtain ⟨dst, op, type, pos', after, guard⟩ := o
  cases op <;> simp only [mpOp] at hm <;> try cases hm
  case makeMap t r =>
    cases r with
    | some _ => cases hm
    | none =>
    simp only at hm
    split at hm
    · cases hm
      obtain ⟨rfl, h⟩ := h
      refine Out.two rfl ?_
      have g : Grew w (w.alloc (.map #[] 0)) := by
        refine ⟨rfl, rfl, ⟨rfl, fun a _ ha => ?_, by simp, fun _ => Nat.le_refl _⟩, by simp, fun b hb => RowKit.Below.heap_alloc w _ b hb⟩
        unfold World.frozen?
        rw [RowKit.Below.heap_alloc w _ a.block ha]
      have R1 := (R.grown g).widen (S' := fun n => S n ∨ n = w.heap.size) (fun b hb => .inl hb) (fun b hb => hb.elim (fun h => Nat.lt_of_lt_of_le (R.lt b h) g.size) fun h => by subst h; simp) fun r rt b hr hb hS => hS.elim (R.Flt r rt b hr hb).2 fun e => by
        have := (R.Flt r rt b hr hb).1
        omega
      have hrun : (execOp a.eval { dst, op := .makeMap t none, type, pos := pos', after, guard }).run P w = .ok (.value (.map (some w.heap.size))) (w.alloc (.map #[] 0)) := exec_val rfl rfl
      unfold Oper.wp
      rw [hrun]
      refine ⟨(fun h => by cases h), _, h w.heap.size, _, pl, R1.put hd ⟨rfl, .inr rfl, #[], 0, (heap_alloc w _).1, fun e he => by simp at he, fun k => rfl⟩ (fun r hr => by simp [AV.ids] at hr) R.grow⟩
    · cases hm
  case lookup t x k ok =>
    cases ok with
    | true => cases hm
    | false =>
    simp only at hm
    split at hm
    · rename_i kt vt b f n ht hx hk
      cases hm
      obtain ⟨rfl, h⟩ := h
      refine Out.two rfl ?_
      obtain ⟨e1, _, e3⟩ := (R.ev hx).1
      have e2 : a.eval k = .int .i64 n := (R.ev hk).1.int
      have hrun : (execOp a.eval { dst, op := .lookup t x k false, type, pos := pos', after, guard }).run P w = .ok (.value (.int .i64 (f n))) w := exec_val rfl (by rw [e1, e2]; exact run_get (map_te (ttB_get htt ht)) e3)
      unfold Oper.wp
      rw [hrun]
      exact ⟨(fun h => by cases h), _, h, S, pl, R.put hd ⟨_, rfl, rfl⟩ AV.lt_dat⟩
    · cases hm
  case mapUpdate t x k v =>
    split at hm
    · rename_i kt vt b f n m' ht hx hk hv
      cases hm
      obtain ⟨rfl, h⟩ := h
      refine Out.two rfl ?_
      obtain ⟨e1, e4, e3⟩ := (R.ev hx).1
      have e2 : a.eval k = .int .i64 n := (R.ev hk).1.int
      have e5 : a.eval v = .int .i64 m' := (R.ev hv).1.int
      obtain ⟨ob, hr, hM⟩ := run_upd (n := n) (m := m') (map_te (ttB_get htt ht)) e3
      obtain ⟨es, c, hb, _⟩ := id e3
      have hrun : (execOp a.eval { dst, op := .mapUpdate t x k v, type, pos := pos', after, guard }).run P w = .ok .skip { w with heap := w.heap.setIfInBounds b ob } := (exec_unit (x := Instr.mapUpdate t (a.eval x) (a.eval k) (a.eval v)) (v := undef) rfl (by rw [e1, e2, e5, hr])).1
      have hold : ∀ n, n ≠ b → (w.heap.setIfInBounds b ob)[n]? = w.heap[n]? := fun n hn => (heap_set hb).2 n hn
      have hslot : ∃ i, s.get i = some (.mp b f) := by
        cases x with
        | tmp x => exact ⟨x, hx⟩
        | const c => 
          have : (constAV c) = some (.mp b f) := hx
          cases c <;> simp [constAV] at this
        | _ => cases hx
      obtain ⟨i, hi⟩ := hslot
      obtain ⟨es', c', hb', _⟩ := id hM
      have hout : SameOut S0 w { w with heap := w.heap.setIfInBounds b ob } := ⟨rfl, fun ad _ _ => by
        unfold World.frozen?
        by_cases e : ad.block = b
        · rw [e, hb', hb]
        · rw [hold _ e], by simp, (fun _ => Nat.le_refl _)⟩
      have R1 := R.mapSet hi (w' := { w with heap := w.heap.setIfInBounds b ob }) rfl rfl hout (by simp) hold hM
      unfold Oper.wp
      rw [hrun]
      exact ⟨(fun h => by cases h), _, h, S, pl, R1.put hd ⟨[], rfl, .nil⟩ fun _ h => by cases h⟩
    · cases hm

end
end Fer

/- Calls that turn cells of the caller's: sound. Over any program. -/
namespace Fer
open Go

inductive AVRs (w : World) (S : Nat → Prop) (rts : List (Nat × RT)) (pl : Nat → PL) (n : Nat) : List AV → List Value → Prop
  | nil : AVRs w S rts pl n [] []
  | cons {x v xs vs} (h : AVR w S rts pl x v) (hl : x.lt n) (t : AVRs w S rts pl n xs vs) : AVRs w S rts pl n (x :: xs) (v :: vs)

theorem AVRs.app {w : World} {S : Nat → Prop} {rts : List (Nat × RT)} {pl : Nat → PL} {n : Nat} {xs ys : List AV} {vs us : List Value} (h : AVRs w S rts pl n xs vs) (h' : AVRs w S rts pl n ys us) : AVRs w S rts pl n (xs ++ ys) (vs ++ us) := by
  induction h with
  | nil => exact h'
  | cons h1 h2 _ ih => exact .cons h1 h2 ih

def rsF (pl : Nat → PL) : List Nat → Nat → Prop
  | [] => noF
  | r :: rs => fun n => (pl r).F n ∨ rsF pl rs n
theorem rsF_mem {pl : Nat → PL} : ∀ {rs : List Nat} {n : Nat}, rsF pl rs n ↔ ∃ r ∈ rs, (pl r).F n
  | [], n => by simp [rsF, noF]
  | r :: rs, n => by simp [rsF, rsF_mem]

theorem killAll_root {rs : List Nat} : ∀ {s : XS} {q : Nat} {rt : RT}, (killAll rs s).root q = some rt ↔ q ∉ rs ∧ s.root q = some rt := by
  induction rs with
  | nil => intro s q rt; simp [killAll]
  | cons r rs ih =>
    intro s q rt
    simp only [killAll, ih, List.mem_cons, not_or]
    constructor
    · rintro ⟨h1, h2⟩
      obtain ⟨h3, h4⟩ := lk_rm_some h2
      exact ⟨⟨h3, h1⟩, h4⟩
    · rintro ⟨⟨h1, h2⟩, h3⟩
      exact ⟨h2, by show lk (rm s.rts r) q = _; rw [lk_rm_ne h1]; exact h3⟩
theorem killAll_same {rs : List Nat} : ∀ {s : XS}, (killAll rs s).env = s.env ∧ (killAll rs s).nxt = s.nxt ∧ (killAll rs s).pins = s.pins := by
  induction rs with
  | nil => intro s; exact ⟨rfl, rfl, rfl⟩
  | cons r rs ih => intro s; exact ih

section
variable {P : Program} {C : Ctx} {w0 : World} {S0 : Nat → Prop} {N : Nat} {dr : Bool} {pc : Pins} {s : XS} {a : Act} {w w' : World} {S : Nat → Prop} {pl : Nat → PL}

theorem RelAt.killAll (rs : List Nat) : ∀ {s : XS}, RelAt w0 S0 N dr pc s a w S pl → RelAt w0 S0 N dr pc (killAll rs s) a w S pl := by
  induction rs with
  | nil => exact fun h => h
  | cons r rs ih => exact fun h => ih (h.kill r)

theorem addr0 (e : Nat) (t : Ty) (ct : CT) : (addrOf [0] (.list e t) ct (0, 0)).2 = 0 := by
  cases ct <;> simp [addrOf]

theorem RelAt.name {n r b : Nat} (R : RelAt w0 S0 N dr pc s a w S pl) (hr : r < s.nxt) (hb : ∀ rt, s.root r = some rt → addrOf [0] rt.ty (pl r).ct (0, 0) = (b, 0)) :
    RelAt w0 S0 N dr pc { s with env := (n, .loc r b) :: s.env } a w S pl := by
  refine { defers := R.defers, size := R.size, os := R.os, tape := R.tape, output := R.output, grow := R.grow, stay := R.stay, base := R.base, lt := R.lt, own := R.own, Flt := R.Flt, disj := R.disj, ids := R.ids, env := fun i av h => ?_, pins := R.pins, news := fun i c f h => ?_ }
  · simp only [XS.get, lk] at h
    split at h
    · cases h
      exact ⟨hb, fun q hq => by simp only [AV.ids, List.mem_singleton] at hq; subst hq; exact hr⟩
    · exact R.env i av h
  · simp only [XS.get, lk] at h
    split at h
    · cases h
    · exact R.news i c f h

theorem locOf_ok (R : RelAt w0 S0 N dr pc s a w S pl) {r b : Nat} (h : locOf s r = some b) : ∀ rt, s.root r = some rt → addrOf [0] rt.ty (pl r).ct (0, 0) = (b, 0) := by
  unfold locOf at h
  split at h
  · rename_i i _ _
    split at h
    · rename_i q c hq
      split at h
      · rename_i e
        subst e
        cases h
        exact (R.env i _ hq).1
      · cases h
    · cases h
  · cases h

theorem named_ok {n : Nat} : ∀ (rs : List Nat) {K : List Nat → XS → Prop} {s : XS}, RelAt w0 S0 N dr pc s a w S pl → named n rs K s →
    ∃ bl s1, K bl s1 ∧ RelAt w0 S0 N dr pc s1 a w S pl ∧ s1.rts = s.rts ∧ s1.nxt = s.nxt ∧ s1.pins = s.pins ∧ bl.length = rs.length ∧
      ∀ (i r b : Nat), rs[i]? = some r → bl[i]? = some b → ∀ rt, s.root r = some rt → addrOf [0] rt.ty (pl r).ct (0, 0) = (b, 0)
  | [], K, s, R, h => ⟨[], s, h, R, rfl, rfl, rfl, rfl, fun i r b h => by simp at h⟩
  | r :: rs, K, s, R, h => by
    simp only [named] at h
    split at h
    · rename_i b hb
      obtain ⟨bl, s1, h1, R1, e1, e2, e3, e4, e5⟩ := named_ok rs R h
      refine ⟨b :: bl, s1, h1, R1, e1, e2, e3, by simp [e4], fun i q c hq hc rt hrt => ?_⟩
      cases i with
      | zero =>
        simp only [List.getElem?_cons_zero, Option.some.injEq] at hq hc
        subst hq; subst hc
        exact locOf_ok R hb rt hrt
      | succ i =>
        simp only [List.getElem?_cons_succ] at hq hc
        exact e5 i q c hq hc rt hrt
    · obtain ⟨hlt, h⟩ := h
      obtain ⟨b, hb⟩ : ∃ b, ∀ rt, s.root r = some rt → addrOf [0] rt.ty (pl r).ct (0, 0) = (b, 0) := by
        cases hr : s.root r with
        | none => exact ⟨0, fun rt h => by cases h⟩
        | some rt => exact ⟨(addrOf [0] rt.ty (pl r).ct (0, 0)).1, fun rt' h => by cases h; exact Prod.ext rfl (addr0 _ _ _)⟩
      obtain ⟨bl, s1, h1, R1, e1, e2, e3, e4, e5⟩ := named_ok rs (R.name (n := n + 64 + r) hlt hb) (h b)
      refine ⟨b :: bl, s1, h1, R1, e1, e2, e3, by simp [e4], fun i q c hq hc rt hrt => ?_⟩
      cases i with
      | zero =>
        simp only [List.getElem?_cons_zero, Option.some.injEq] at hq hc
        subst hq; subst hc
        exact hb rt hrt
      | succ i =>
        simp only [List.getElem?_cons_succ] at hq hc
        exact e5 i q c hq hc rt hrt

theorem stBox_some {s : XS} {e r : Nat} {t : Ty} {al : Bool} {v : TV} (h : stBox s e t al r = some v) : ∃ (rt : RT) (x : rt.t.den), s.root r = some rt ∧ rt.x = [x] ∧ rt.h = none ∧ rt.e = e ∧ rt.t = t ∧ t.lev ≤ rt.k ∧ (al = true → oneOf s r = true) ∧ v = ⟨rt.t, x⟩ := by
  unfold stBox at h
  split at h
  · rename_i rt hr
    split at h
    · rename_i x hx hh
      split at h
      · rename_i hc
        cases h
        exact ⟨rt, x, hr, hx, hh, hc.1, hc.2.1, hc.2.2.1, hc.2.2.2, rfl⟩
      · cases h
    · cases h
  · cases h
/-- How the first cell and the others go. -/
theorem stBoxes_cons {s : XS} {p : PA} {e : Nat} {t : Ty} {al : Bool} (hp : p = .box e t ∧ al = false ∨ (p = .one e t ∨ p = .gone e t) ∧ al = true) {ps : List PA} {rs : List Nat} {l : List TV} (h : stBoxes s (p :: ps) rs = some l) :
    ∃ r rs' v l', rs = r :: rs' ∧ l = v :: l' ∧ stBox s e t al r = some v ∧ stBoxes s ps rs' = some l' := by
  have key : ∀ r rs', (match stBox s e t al r, stBoxes s ps rs' with | some v, some l => some (v :: l) | _, _ => none) = some l → ∃ v l', l = v :: l' ∧ stBox s e t al r = some v ∧ stBoxes s ps rs' = some l' := fun r rs' h => by
    cases h1 : stBox s e t al r with
    | none => rw [h1] at h; simp at h
    | some v =>
      cases h2 : stBoxes s ps rs' with
      | none => rw [h1, h2] at h; simp at h
      | some l' =>
        rw [h1, h2] at h
        cases h
        exact ⟨v, l', rfl, rfl, rfl⟩
  rcases hp with ⟨rfl, rfl⟩ | ⟨rfl | rfl, rfl⟩ <;> cases rs with
  | nil => simp [stBoxes] at h
  | cons r rs' =>
    obtain ⟨v, l', h1, h2, h3⟩ := key r rs' h
    exact ⟨r, rs', v, l', rfl, h1, h2, h3⟩
theorem stBoxes_root {s : XS} : ∀ (ps : List PA) (rs : List Nat) (l : List TV), stBoxes s ps rs = some l → ∀ q ∈ rs, ∃ qt, s.root q = some qt := by
  intro ps
  induction ps with
  | nil => intro rs l h q hq; cases rs with
    | nil => cases hq
    | cons => simp [stBoxes] at h
  | cons p ps ih =>
    intro rs l h q hq
    have go : ∀ {e : Nat} {t : Ty} {al : Bool}, (p = .box e t ∧ al = false ∨ (p = .one e t ∨ p = .gone e t) ∧ al = true) → ∃ qt, s.root q = some qt := fun hp => by
      obtain ⟨r, rs', v, l', rfl, rfl, h1, h2⟩ := stBoxes_cons hp h
      rcases List.mem_cons.1 hq with rfl | hq
      · obtain ⟨rt, _, hr, _⟩ := stBox_some h1
        exact ⟨rt, hr⟩
      · exact ih rs' l' h2 q hq
    cases p with
    | val => exact ih rs l h q hq
    | cap => exact ih rs l h q hq
    | box e t => exact go (.inl ⟨rfl, rfl⟩)
    | one e t => exact go (.inr ⟨.inl rfl, rfl⟩)
    | gone e t => exact go (.inr ⟨.inr rfl, rfl⟩)
/-- Likewise the roots. -/
theorem stRoots_cons {p : PA} {e : Nat} {t : Ty} (hp : p = .box e t ∨ p = .one e t ∨ p = .gone e t) {ps : List PA} {xs : List AV} {rs : List Nat} (h : stRoots (p :: ps) xs = some rs) :
    ∃ r xs' rs', xs = .ptr r [0] :: xs' ∧ rs = r :: rs' ∧ stRoots ps xs' = some rs' := by
  have key : ∀ r xs', (match stRoots ps xs' with | some l => some (r :: l) | none => none) = some rs → ∃ rs', rs = r :: rs' ∧ stRoots ps xs' = some rs' := fun r xs' h => by
    cases h1 : stRoots ps xs' with
    | none => rw [h1] at h; simp at h
    | some l => rw [h1] at h; cases h; exact ⟨l, rfl, rfl⟩
  rcases hp with rfl | rfl | rfl
  all_goals
    cases xs with
    | nil => simp [stRoots] at h
    | cons x xs' =>
      match x, h with
      | .ptr r [0], h =>
        simp only [stRoots] at h
        obtain ⟨rs', h1, h2⟩ := key r xs' h
        exact ⟨r, xs', rs', rfl, h1, h2⟩
      | .dat .., h => simp [stRoots] at h
      | .ref .., h => simp [stRoots] at h
      | .sub .., h => simp [stRoots] at h
      | .rptr .., h => simp [stRoots] at h
      | .clo .., h => simp [stRoots] at h
      | .tup .., h => simp [stRoots] at h
      | .agg .., h => simp [stRoots] at h
      | .mp .., h => simp [stRoots] at h
      | .loc .., h => simp [stRoots] at h
      | .one .., h => simp [stRoots] at h
      | .junk, h => simp [stRoots] at h
      | .ptr _ [], h => simp [stRoots] at h
      | .ptr _ ((_ + 1) :: _), h => simp [stRoots] at h
      | .ptr _ (0 :: _ :: _), h => simp [stRoots] at h
theorem oneOf_ok {w0 : World} {S0 : Nat → Prop} {N : Nat} {dr : Bool} {pc : Pins} {s : XS} {a : Act} {w : World} {S : Nat → Prop} {pl : Nat → PL} (R : RelAt w0 S0 N dr pc s a w S pl) {r : Nat} (h : oneOf s r = true) : ∀ rt, s.root r = some rt → ∃ b, hdr (pl r).ct rt.x.length = .slice (some ⟨b, 0, none⟩) 1 1 := by
  unfold oneOf at h
  split at h
  · rename_i i _
    split at h
    · rename_i q hq
      have e : q = r := by simpa using h
      subst e
      intro rt hrt
      obtain ⟨b, hb⟩ := (R.env i _ hq).1 rt hrt
      exact ⟨b, hb⟩
    · cases h
  · cases h

theorem distinctL_cons {r : Nat} {rs : List Nat} (h : distinctL (r :: rs) = true) : r ∉ rs ∧ distinctL rs = true := by
  simp only [distinctL, Bool.and_eq_true, List.all_eq_true] at h
  exact ⟨fun hm => by have := h.1 r hm; simp at this, h.2⟩

/-- The node of a cell's root. -/
theorem cell_node (R : RelAt w0 S0 N dr pc s a w S pl) {r : Nat} {rt : RT} (hr : s.root r = some rt) {x : rt.t.den} (hx : rt.x = [x]) (hh : rt.h = none) (hk : rt.t.lev ≤ rt.k) (T : Nat → Prop) :
    ∃ b cap kids hv, (pl r).ct = .node b cap kids ∧ Own w T (.list rt.e rt.t) (rt.t.lev + 1) [x] none (.node b cap kids) [hv] (pl r).F := by
  obtain ⟨hv, H⟩ := R.own r rt hr
  rw [hh, hx] at H
  have H2 : Own w T (.list rt.e rt.t) (rt.t.lev + 1) [x] none (pl r).ct [hv] (pl r).F := own_full' (by simp only [Ty.lev]; omega) (by simp only [Ty.lev]; omega) H
  rcases own_inv H2 with ⟨_, q, _⟩ | ⟨b, cap, kids, _, _, q1, _⟩
  · cases q
  · exact ⟨b, cap, kids, hv, q1, q1 ▸ H2⟩

theorem stArgs_ok {rs0 : List Nat} (R : RelAt w0 S0 N dr pc s a w S pl) {T : Nat → Prop} (hS : ∀ n, S n → T n)
    (hT : ∀ r rt n, (killAll rs0 s).root r = some rt → (pl r).F n → T n) :
    ∀ (pat : List PA) (xs : List AV) (vs : List Value) (rs bl : List Nat) (p : Prop) (vals boxes : List TV), stRoots pat xs = some rs → AVRs w S s.rts pl s.nxt xs vs → stVals (killAll rs0 s) pat xs = some (p, vals) → p → stBoxes s pat rs = some boxes →
      distinctL rs = true → bl.length = rs.length → (∀ (i r b : Nat), rs[i]? = some r → bl[i]? = some b → ∀ rt, s.root r = some rt → addrOf [0] rt.ty (pl r).ct (0, 0) = (b, 0)) → StArgs w T pat bl vals boxes vs (rsF pl rs)
  | [], [], vs, rs, bl, p, vals, boxes, h1, h2, h3, hp, h4, hd, hl, hb => by
    simp only [stRoots, Option.some.injEq] at h1
    subst h1
    simp only [stVals, Option.some.injEq, Prod.mk.injEq] at h3
    obtain ⟨_, rfl⟩ := h3
    simp only [stBoxes, Option.some.injEq] at h4
    subst h4
    cases h2
    obtain rfl : bl = [] := List.eq_nil_of_length_eq_zero hl
    exact .nil
  | [], _ :: _, _, _, _, _, _, _, h1, _, _, _, _, _, _, _ => by simp [stRoots] at h1
  | .val t :: ps, [], _, _, _, _, _, _, h1, _, _, _, _, _, _, _ => by simp [stRoots] at h1
  | .cap t :: ps, [], _, _, _, _, _, _, h1, _, _, _, _, _, _, _ => by simp [stRoots] at h1
  | .box e t :: ps, [], _, _, _, _, _, _, h1, _, _, _, _, _, _, _ => by simp [stRoots] at h1
  | .one e t :: ps, [], _, _, _, _, _, _, h1, _, _, _, _, _, _, _ => by simp [stRoots] at h1
  | .gone e t :: ps, [], _, _, _, _, _, _, h1, _, _, _, _, _, _, _ => by simp [stRoots] at h1
  | .val t :: ps, x :: xs, v :: vs, rs, bl, p, vals, boxes, h1, .cons hx hlt h2, h3, hp, h4, hd, hl, hb => by
    simp only [stRoots] at h1
    simp only [stBoxes] at h4
    simp only [stVals] at h3
    cases ha : argAV (killAll rs0 s) t x with
    | none => rw [ha] at h3; simp at h3
    | some pv =>
      obtain ⟨p1, tv⟩ := pv
      rw [ha] at h3
      cases hv : stVals (killAll rs0 s) ps xs with
      | none => rw [hv] at h3; simp at h3
      | some ql =>
        obtain ⟨q, l⟩ := ql
        rw [hv] at h3
        simp only [Option.some.injEq, Prod.mk.injEq] at h3
        obtain ⟨rfl, rfl⟩ := h3
        have hx' : AVR w S (killAll rs0 s).rts pl x v := hx.frame (n := s.nxt) (fun b hb => ⟨hb, rfl⟩) (fun r _ => by
          cases hr : lk (killAll rs0 s).rts r with
          | none => exact .inl rfl
          | some rt => exact .inr ⟨((killAll_root.1 hr).2).symm ▸ rfl, rfl⟩) hlt
        obtain ⟨y, u, rfl, e1, e2⟩ := argAV_S (R.killAll rs0) hS hT hx' ha hp.1
        rw [e1]
        exact .val e2 (stArgs_ok R hS hT ps xs vs rs bl q l boxes h1 h2 hv hp.2 h4 hd hl hb)
  | .cap t :: ps, x :: xs, v :: vs, rs, bl, p, vals, boxes, h1, .cons hx hlt h2, h3, hp, h4, hd, hl, hb => by
    simp only [stRoots] at h1
    simp only [stBoxes] at h4
    simp only [stVals] at h3
    cases ha : capAV (killAll rs0 s) t x with
    | none => rw [ha] at h3; simp at h3
    | some tv =>
      rw [ha] at h3
      cases hv : stVals (killAll rs0 s) ps xs with
      | none => rw [hv] at h3; simp at h3
      | some ql =>
        obtain ⟨q, l⟩ := ql
        rw [hv] at h3
        simp only [Option.some.injEq, Prod.mk.injEq] at h3
        obtain ⟨rfl, rfl⟩ := h3
        have ih := stArgs_ok R hS hT ps xs vs rs bl _ l boxes h1 h2 hv hp h4 hd hl hb
        unfold capAV at ha
        split at ha
        · rename_i r
          split at ha
          · rename_i rt hr
            split at ha
            · rename_i y hy hh
              split at ha
              · rename_i et
                cases ha
                have hr2 := (killAll_root.1 hr).2
                obtain ⟨b, o, cs', F', h', e1, e2, e3, e4, _, e6, e7⟩ := (R.killAll rs0).place hr (i := 0) (p := []) (by simp [RT.ty, okS, hy]) (by rw [hh]; rfl)
                have hat : rt.at [0] = ⟨rt.t, y⟩ := by simp [RT.at, RT.ty, getS, hy]
                have hhn := e6 hh
                subst hhn
                rw [hat] at e3
                have hro : RO w T rt.t y cs' := e3.freeze (fun b hb => hS b hb) fun b hb => hT r rt b hr (e4 b hb)
                obtain ⟨arr, E, q1, q2, q3⟩ := e2
                have hlen : cs'.length = rt.t.width := hro.length
                have hve : v = .pointer (some ⟨b, o, none⟩) := (hx rt hr2).trans e1
                subst hve
                subst et
                rw [hlen] at q2 q3
                exact .cap (hT r rt b hr e7) q1 q2 (by rw [q3]; exact hro) ih
              · cases ha
            · cases ha
          · cases ha
        · rename_i t' y
          split at ha
          · rename_i et
            subst et
            cases ha
            obtain ⟨b, o, arr, E, fr, rfl, g2, g3, g4, g5⟩ := hx
            exact .cap (hS b g2) g3 g4 (g5.frame fun b hb => ⟨hS b hb, rfl⟩) ih
          · cases ha
        · cases ha
  | .box e t :: ps, x :: xs, v :: vs, rs, bl, p, vals, boxes, h1, .cons hx hlt h2, h3, hp, h4, hd, hl, hb => by
    obtain ⟨r, xs', rs', ex, rfl, hs⟩ := stRoots_cons (e := e) (t := t) (by simp) h1
    cases ex
    obtain ⟨r2, rs2, bv, l, er, rfl, hbx1, hbx⟩ := stBoxes_cons (e := e) (t := t) (al := false) (by simp) h4
    cases er
    obtain ⟨rt, y, hr, hy, hh, rfl, rfl, hk, hal, rfl⟩ := stBox_some hbx1
    simp only [stVals] at h3
    obtain ⟨hn, hd'⟩ := distinctL_cons hd
    match bl, hl with
    | b :: bl, hl =>
      obtain ⟨b1, cap, kids, hv, e1, H⟩ := cell_node R hr hy hh hk T
      have hadr := hb 0 r b rfl rfl rt hr
      have hv0 := hx rt hr
      have : b1 = b := by
        rw [e1] at hadr
        simp only [RT.ty, addrOf, Prod.mk.injEq] at hadr
        exact hadr.1
      subst this
      have hve : v = .pointer (some ⟨b1, 0, none⟩) := by
        rw [hv0]; unfold addrP; rw [hadr]
      subst hve
      refine .box H (fun n hG hF => ?_) (stArgs_ok R hS hT ps xs vs rs' bl p vals l hs h2 h3 hp hbx hd' (by simpa using hl) fun i q c hq hc => hb (i + 1) q c (by simpa using hq) (by simpa using hc))
      obtain ⟨q, hq, hqF⟩ := rsF_mem.1 hF
      obtain ⟨qt, hqt⟩ := stBoxes_root ps rs' l hbx q hq
      have := R.disj r q rt qt n hr hqt hG hqF
      subst this
      exact hn hq
  | .one e t :: ps, x :: xs, v :: vs, rs, bl, p, vals, boxes, h1, .cons hx hlt h2, h3, hp, h4, hd, hl, hb => by
    obtain ⟨r, xs', rs', ex, rfl, hs⟩ := stRoots_cons (e := e) (t := t) (by simp) h1
    cases ex
    obtain ⟨r2, rs2, bv, l, er, rfl, hbx1, hbx⟩ := stBoxes_cons (e := e) (t := t) (al := true) (by simp) h4
    cases er
    obtain ⟨rt, y, hr, hy, hh, rfl, rfl, hk, hal, rfl⟩ := stBox_some hbx1
    simp only [stVals] at h3
    obtain ⟨hn, hd'⟩ := distinctL_cons hd
    match bl, hl with
    | b :: bl, hl =>
      obtain ⟨b1, cap, kids, hv, e1, H⟩ := cell_node R hr hy hh hk T
      have hadr := hb 0 r b rfl rfl rt hr
      have hv0 := hx rt hr
      have : b1 = b := by
        rw [e1] at hadr
        simp only [RT.ty, addrOf, Prod.mk.injEq] at hadr
        exact hadr.1
      subst this
      have hve : v = .pointer (some ⟨b1, 0, none⟩) := by
        rw [hv0]; unfold addrP; rw [hadr]
      subst hve
      have : cap = 1 := by
        obtain ⟨b', hb'⟩ := oneOf_ok R (hal rfl) rt hr
        rw [e1] at hb'
        simp only [hdr, Value.slice.injEq] at hb'
        exact hb'.2.2
      subst this
      refine .one H (fun n hG hF => ?_) (stArgs_ok R hS hT ps xs vs rs' bl p vals l hs h2 h3 hp hbx hd' (by simpa using hl) fun i q c hq hc => hb (i + 1) q c (by simpa using hq) (by simpa using hc))
      obtain ⟨q, hq, hqF⟩ := rsF_mem.1 hF
      obtain ⟨qt, hqt⟩ := stBoxes_root ps rs' l hbx q hq
      have := R.disj r q rt qt n hr hqt hG hqF
      subst this
      exact hn hq
  | .gone e t :: ps, x :: xs, v :: vs, rs, bl, p, vals, boxes, h1, .cons hx hlt h2, h3, hp, h4, hd, hl, hb => by
    obtain ⟨r, xs', rs', ex, rfl, hs⟩ := stRoots_cons (e := e) (t := t) (by simp) h1
    cases ex
    obtain ⟨r2, rs2, bv, l, er, rfl, hbx1, hbx⟩ := stBoxes_cons (e := e) (t := t) (al := true) (by simp) h4
    cases er
    obtain ⟨rt, y, hr, hy, hh, rfl, rfl, hk, hal, rfl⟩ := stBox_some hbx1
    simp only [stVals] at h3
    obtain ⟨hn, hd'⟩ := distinctL_cons hd
    match bl, hl with
    | b :: bl, hl =>
      obtain ⟨b1, cap, kids, hv, e1, H⟩ := cell_node R hr hy hh hk T
      have hadr := hb 0 r b rfl rfl rt hr
      have hv0 := hx rt hr
      have : b1 = b := by
        rw [e1] at hadr
        simp only [RT.ty, addrOf, Prod.mk.injEq] at hadr
        exact hadr.1
      subst this
      have hve : v = .pointer (some ⟨b1, 0, none⟩) := by
        rw [hv0]; unfold addrP; rw [hadr]
      subst hve
      have : cap = 1 := by
        obtain ⟨b', hb'⟩ := oneOf_ok R (hal rfl) rt hr
        rw [e1] at hb'
        simp only [hdr, Value.slice.injEq] at hb'
        exact hb'.2.2
      subst this
      refine .gone H (fun n hG hF => ?_) (stArgs_ok R hS hT ps xs vs rs' bl p vals l hs h2 h3 hp hbx hd' (by simpa using hl) fun i q c hq hc => hb (i + 1) q c (by simpa using hq) (by simpa using hc))
      obtain ⟨q, hq, hqF⟩ := rsF_mem.1 hF
      obtain ⟨qt, hqt⟩ := stBoxes_root ps rs' l hbx q hq
      have := R.disj r q rt qt n hr hqt hG hqF
      subst this
      exact hn hq
  termination_by pat _ _ _ _ _ _ _ => pat.length

theorem BVR.readd {rts rtsK : List (Nat × RT)} {plK : Nat → PL} {r : Nat} {rt rt' : RT} {L : PL} (hr : lk rts r = some rt) (hadr : addrOf [0] rt'.ty L.ct (0, 0) = addrOf [0] rt.ty (pl r).ct (0, 0))
    {av : AV} {v : Value} (hsh : shB r noP isBoxP av = true) (h : BVR w S rts pl av v) (hK : BVR w' S rtsK plK av v) : BVR w' S ((r, rt') :: rtsK) (fun q => if q = r then L else plK q) av v := by
  have look : ∀ q rt1, lk ((r, rt') :: rtsK) q = some rt1 → (q = r ∧ rt1 = rt') ∨ (q ≠ r ∧ lk rtsK q = some rt1) := fun q rt1 hq => by
    simp only [lk] at hq
    by_cases e : r = q
    · rw [if_pos e] at hq; cases hq; exact .inl ⟨e.symm, rfl⟩
    · rw [if_neg e] at hq; exact .inr ⟨fun e' => e e'.symm, hq⟩
  cases av with
  | dat t x => exact hK
  | rptr t x => exact hK
  | junk => trivial
  | tup l => exact h.elim
  | agg l => exact h.elim
  | mp b f => exact h.elim
  | ref q p =>
    intro rt1 hq
    rcases look q rt1 hq with ⟨rfl, rfl⟩ | ⟨hne, hq⟩
    · simp [shB, noP] at hsh
    · simp only [if_neg hne]; exact hK rt1 hq
  | sub q p lo hi =>
    intro rt1 hq
    rcases look q rt1 hq with ⟨rfl, rfl⟩ | ⟨hne, hq⟩
    · simp [shB, noP] at hsh
    · simp only [if_neg hne]; exact hK rt1 hq
  | ptr q p =>
    intro rt1 hq
    rcases look q rt1 hq with ⟨rfl, rfl⟩ | ⟨hne, hq⟩
    · simp [shB] at hsh
      have h1 := h rt hr
      simp only [if_true]
      match p, hsh with
      | [], _ => exact h1
      | [0], _ =>
        unfold addrP at *
        rw [hadr]; exact h1
    · simp only [if_neg hne]; exact hK rt1 hq
  | clo f caps =>
    obtain ⟨vs, h1, h2, h3⟩ := h
    obtain ⟨us, g1, g2, g3⟩ := hK
    have : vs = us := by
      rw [h1] at g1
      simpa using g1
    subst this
    refine ⟨vs, h1, h2, fun i c rt1 u hc hq hu => ?_⟩
    rcases look c rt1 hq with ⟨rfl, rfl⟩ | ⟨hne, hq⟩
    · simp only [if_true]
      have := h3 i c rt u hc hr hu
      unfold addrP at *
      rw [hadr]; exact this
    · simp only [if_neg hne]; exact g3 i c rt1 u hc hq hu
  | loc q b =>
    intro rt1 hq
    rcases look q rt1 hq with ⟨rfl, rfl⟩ | ⟨hne, hq⟩
    · simp only [if_true]
      rw [hadr]; exact h rt hr
    · simp only [if_neg hne]; exact hK rt1 hq
  | one q =>
    intro rt1 hq
    rcases look q rt1 hq with ⟨rfl, rfl⟩ | ⟨hne, hq⟩
    · simp [shB, noP] at hsh
    · simp only [if_neg hne]; exact hK rt1 hq

theorem BVRs.readd {rts rtsK : List (Nat × RT)} {plK : Nat → PL} {r : Nat} {rt rt' : RT} {L : PL} (hr : lk rts r = some rt) (hadr : addrOf [0] rt'.ty L.ct (0, 0) = addrOf [0] rt.ty (pl r).ct (0, 0))
    {l : List AV} {vs : List Value} (hsh : l.all (shB r noP isBoxP) = true) (h : BVRs w S rts pl l vs) (hK : BVRs w' S rtsK plK l vs) : BVRs w' S ((r, rt') :: rtsK) (fun q => if q = r then L else plK q) l vs := by
  induction h with
  | nil => exact .nil
  | cons h1 t ih =>
    cases hK with
    | cons g1 gt =>
      simp only [List.all_cons, Bool.and_eq_true] at hsh
      exact .cons (h1.readd hr hadr hsh.1 g1) (ih hsh.2 gt)
theorem BVR.apart {rtsK : List (Nat × RT)} {plK : Nat → PL} {r : Nat} {rt' : RT} {L : PL} {av : AV} {v : Value} (hn : av.ids.contains r = false) (h : BVR w S rtsK plK av v) : BVR w S ((r, rt') :: rtsK) (fun q => if q = r then L else plK q) av v := by
  have look : ∀ q rt1, q ≠ r → lk ((r, rt') :: rtsK) q = some rt1 → lk rtsK q = some rt1 := fun q rt1 hne hq => by
    simp only [lk] at hq
    rwa [if_neg (fun e => hne e.symm)] at hq
  cases av with
  | dat t x => exact h
  | rptr t x => exact h
  | junk => trivial
  | tup l => exact h.elim
  | agg l => exact h.elim
  | mp b f => exact h.elim
  | ref q p =>
    have hne : q ≠ r := fun e => by simp [AV.ids, e] at hn
    intro rt1 hq
    simp only [if_neg hne]; exact h rt1 (look q rt1 hne hq)
  | sub q p lo hi =>
    have hne : q ≠ r := fun e => by simp [AV.ids, e] at hn
    intro rt1 hq
    simp only [if_neg hne]; exact h rt1 (look q rt1 hne hq)
  | ptr q p =>
    have hne : q ≠ r := fun e => by simp [AV.ids, e] at hn
    intro rt1 hq
    simp only [if_neg hne]; exact h rt1 (look q rt1 hne hq)
  | loc q b =>
    have hne : q ≠ r := fun e => by simp [AV.ids, e] at hn
    intro rt1 hq
    simp only [if_neg hne]; exact h rt1 (look q rt1 hne hq)
  | one q =>
    have hne : q ≠ r := fun e => by simp [AV.ids, e] at hn
    intro rt1 hq
    simp only [if_neg hne]; exact h rt1 (look q rt1 hne hq)
  | clo f caps =>
    obtain ⟨vs, h1, h2, h3⟩ := h
    refine ⟨vs, h1, h2, fun i c rt1 u hc hq hu => ?_⟩
    have hne : c ≠ r := fun e => by
      subst e
      have : c ∈ caps := List.mem_of_getElem? hc
      simp [AV.ids, this] at hn
    simp only [if_neg hne]; exact h3 i c rt1 u hc (look c rt1 hne hq) hu
theorem AVR.readd {rts rtsK : List (Nat × RT)} {plK : Nat → PL} {r : Nat} {rt rt' : RT} {L : PL} (hr : lk rts r = some rt) (hadr : addrOf [0] rt'.ty L.ct (0, 0) = addrOf [0] rt.ty (pl r).ct (0, 0))
    {av : AV} {v : Value} (hsh : stKeep r av = true) (h : AVR w S rts pl av v) (hK : AVR w' S rtsK plK av v) : AVR w' S ((r, rt') :: rtsK) (fun q => if q = r then L else plK q) av v := by
  cases av with
  | tup l =>
    obtain ⟨vs, h1, h2⟩ := h
    obtain ⟨us, g1, g2⟩ := hK
    have : vs = us := by rw [h1] at g1; simpa using g1
    subst this
    exact ⟨vs, h1, h2.readd hr hadr hsh g2⟩
  | agg l =>
    obtain ⟨us, g1, g2⟩ := hK
    refine ⟨us, g1, ?_⟩
    have hsh' : ∀ a ∈ l, a.ids.contains r = false := fun a ha => by
      have := List.all_eq_true.1 hsh a ha
      simpa using this
    clear h hsh g1
    induction g2 with
    | nil => exact .nil
    | cons q1 _ ih => exact .cons (q1.apart (hsh' _ (by simp))) (ih fun a ha => hsh' a (by simp [ha]))
  | mp b f => exact hK
  | junk => trivial
  | dat t x => exact BVR.readd (w := w) (w' := w') (S := S) (rtsK := rtsK) (plK := plK) (av := .dat t x) hr hadr hsh h hK
  | rptr t x => exact BVR.readd (w := w) (w' := w') (S := S) (rtsK := rtsK) (plK := plK) (av := .rptr t x) hr hadr hsh h hK
  | clo f c => exact BVR.readd (w := w) (w' := w') (S := S) (rtsK := rtsK) (plK := plK) (av := .clo f c) hr hadr hsh h hK
  | loc q b => exact BVR.readd (w := w) (w' := w') (S := S) (rtsK := rtsK) (plK := plK) (av := .loc q b) (v := v) hr hadr hsh h hK
  | one q => exact BVR.readd (w := w) (w' := w') (S := S) (rtsK := rtsK) (plK := plK) (av := .one q) (v := v) hr hadr hsh h hK
  | ref q p => exact BVR.readd (w := w) (w' := w') (S := S) (rtsK := rtsK) (plK := plK) (av := .ref q p) hr hadr hsh h hK
  | sub q p lo hi => exact BVR.readd (w := w) (w' := w') (S := S) (rtsK := rtsK) (plK := plK) (av := .sub q p lo hi) hr hadr hsh h hK
  | ptr q p => exact BVR.readd (w := w) (w' := w') (S := S) (rtsK := rtsK) (plK := plK) (av := .ptr q p) hr hadr hsh h hK

theorem lk_stCut {r i : Nat} {av : AV} : ∀ {l : List (Nat × AV)}, lk (stCut r l) i = some av → av = .junk ∨ (lk l i = some av ∧ stKeep r av = true)
  | [], h => by cases h
  | (j, u) :: l, h => by
    simp only [stCut, lk] at h ⊢
    by_cases e : j = i
    · rw [if_pos e] at h ⊢
      split at h
      · rename_i hk
        cases h
        exact .inr ⟨rfl, hk⟩
      · cases h; exact .inl rfl
    · rw [if_neg e] at h ⊢
      exact lk_stCut h

theorem RelAt.readd (R : RelAt w0 S0 N dr pc s a w S pl) {r : Nat} {rt : RT} (hr : s.root r = some rt) {sK : XS} {plK : Nat → PL} (RK : RelAt w0 S0 N dr pc sK a w' S plK) (hnx : sK.nxt = s.nxt)
    (henv : ∀ i av, sK.get i = some av → av = .junk ∨ s.get i = some av ∨ ∃ q, q ≠ r ∧ av = .one q) {rt' : RT} {ct' : CT} {F' : Nat → Prop} {hv : Value} (H : Own w' S rt'.ty (rt'.k + 1) rt'.x rt'.h ct' [hv] F')
    (hF : ∀ b, F' b → b < w'.heap.size ∧ ¬ S b ∧ (∀ r2 rt2, sK.root r2 = some rt2 → ¬ (plK r2).F b) ∧ (dr = true → ∀ i, ¬ pc i b))
    (hadr : addrOf [0] rt'.ty ct' (0, 0) = addrOf [0] rt.ty (pl r).ct (0, 0)) :
    RelAt w0 S0 N dr pc { sK with rts := (r, rt') :: sK.rts, env := stCut r sK.env } a w' S (fun q => if q = r then ⟨ct', F'⟩ else plK q) := by
  have look : ∀ q rt1, lk ((r, rt') :: sK.rts) q = some rt1 → (q = r ∧ rt1 = rt') ∨ (q ≠ r ∧ sK.root q = some rt1) := fun q rt1 hq => by
    simp only [lk] at hq
    by_cases e : r = q
    · rw [if_pos e] at hq; cases hq; exact .inl ⟨e.symm, rfl⟩
    · rw [if_neg e] at hq; exact .inr ⟨fun e' => e e'.symm, hq⟩
  refine { defers := RK.defers, size := RK.size, os := RK.os, tape := RK.tape, output := RK.output, grow := RK.grow, stay := RK.stay, base := RK.base, lt := RK.lt, own := ?_, Flt := ?_, disj := ?_, ids := ?_, env := ?_, pins := ?_, news := fun i b f h => (lk_stCut h).elim (fun e => by cases e) fun e => RK.news i b f e.1 }
  · intro q rt1 h
    rcases look q rt1 h with ⟨rfl, rfl⟩ | ⟨hne, h⟩
    · simp only [if_true]; exact ⟨hv, H⟩
    · simp only [if_neg hne]; exact RK.own q rt1 h
  · intro q rt1 b h hb
    rcases look q rt1 h with ⟨rfl, rfl⟩ | ⟨hne, h⟩
    · simp only [if_true] at hb; exact ⟨(hF b hb).1, (hF b hb).2.1⟩
    · simp only [if_neg hne] at hb; exact RK.Flt q rt1 b h hb
  · intro q q' rt1 rt2 b h h' hb hb'
    rcases look q rt1 h with ⟨rfl, rfl⟩ | ⟨hne, hq⟩ <;> rcases look q' rt2 h' with ⟨e, e2⟩ | ⟨hne', hq'⟩
    · exact e.symm
    · simp only [if_true] at hb; simp only [if_neg hne'] at hb'; exact absurd hb' ((hF b hb).2.2.1 q' rt2 hq')
    · subst e; simp only [if_true] at hb'; simp only [if_neg hne] at hb; exact absurd hb ((hF b hb').2.2.1 q rt1 hq)
    · simp only [if_neg hne] at hb; simp only [if_neg hne'] at hb'; exact RK.disj q q' rt1 rt2 b hq hq' hb hb'
  · intro q rt1 h
    rcases look q rt1 h with ⟨rfl, rfl⟩ | ⟨hne, h⟩
    · show q < sK.nxt; rw [hnx]; exact R.ids q rt hr
    · exact RK.ids q rt1 h
  · intro i av h
    rcases lk_stCut h with rfl | ⟨h1, h2⟩
    · exact ⟨trivial, fun q hq => by simp [AV.ids] at hq⟩
    · rcases henv i av h1 with rfl | h3 | ⟨q, hq, rfl⟩
      · exact ⟨trivial, fun q hq => by simp [AV.ids] at hq⟩
      · obtain ⟨q1, q2⟩ := RK.env i av h1
        exact ⟨AVR.readd (rts := s.rts) (pl := pl) (L := ⟨ct', F'⟩) hr hadr h2 (R.env i av h3).1 q1, q2⟩
      · obtain ⟨q1, q2⟩ := RK.env i _ h1
        exact ⟨BVR.apart (w := w') (S := S) (av := .one q) (v := a.tmps.getD i undef) (by simp [AV.ids, Ne.symm hq]) q1, q2⟩
  · intro hd i b hp
    obtain ⟨q, h1, h2, h3⟩ := RK.pins hd i b hp
    refine ⟨q, h1, h2, fun q' rt1 h hb => ?_⟩
    rcases look q' rt1 h with ⟨rfl, rfl⟩ | ⟨hne, h⟩
    · simp only [if_true] at hb; exact absurd hp ((hF b hb).2.2.2 hd i)
    · simp only [if_neg hne] at hb; exact h3 q' rt1 h hb

theorem stAdd_ok {T : Nat → Prop} (R : RelAt w0 S0 N dr pc s a w S pl) (hST : ∀ n, S n → T n) (hpT : dr = true → ∀ i n, pc i n → T n) :
    ∀ (pat : List PA) (xs : List AV) (rs bl : List Nat) (boxes bx : List TV) (H : Nat → Prop) (sK : XS) (plK : Nat → PL), stRoots pat xs = some rs → stBoxes s pat rs = some boxes → StOut w' T pat bl bx H →
      (∀ (i r b : Nat), rs[i]? = some r → bl[i]? = some b → ∀ rt, s.root r = some rt → addrOf [0] rt.ty (pl r).ct (0, 0) = (b, 0)) →
      RelAt w0 S0 N dr pc sK a w' S plK → sK.nxt = s.nxt → distinctL rs = true → (∀ i av, sK.get i = some av → av = .junk ∨ s.get i = some av ∨ ∃ q, q ∉ rs ∧ av = .one q) → (∀ r rt n, sK.root r = some rt → (plK r).F n → ¬ H n) →
      ∃ pl2, RelAt w0 S0 N dr pc (stAdd s pat rs bx sK) a w' S pl2 ∧ ∀ r rt n, (stAdd s pat rs bx sK).root r = some rt → (pl2 r).F n → (∃ rt', sK.root r = some rt' ∧ (plK r).F n) ∨ H n
  | [], [], rs, bl, boxes, bx, H, sK, plK, h1, h2, h3, h4, RK, h5, hds, h6, h7 => by
    simp only [stRoots, Option.some.injEq] at h1
    subst h1
    cases h3
    exact ⟨plK, RK, fun r rt n hr hn => .inl ⟨rt, hr, hn⟩⟩
  | [], _ :: _, _, _, _, _, _, _, _, h1, _, _, _, _, _, _, _, _ => by simp [stRoots] at h1
  | .val t :: ps, [], _, _, _, _, _, _, _, h1, _, _, _, _, _, _, _, _ => by simp [stRoots] at h1
  | .cap t :: ps, [], _, _, _, _, _, _, _, h1, _, _, _, _, _, _, _, _ => by simp [stRoots] at h1
  | .box e t :: ps, [], _, _, _, _, _, _, _, h1, _, _, _, _, _, _, _, _ => by simp [stRoots] at h1
  | .one e t :: ps, [], _, _, _, _, _, _, _, h1, _, _, _, _, _, _, _, _ => by simp [stRoots] at h1
  | .gone e t :: ps, [], _, _, _, _, _, _, _, h1, _, _, _, _, _, _, _, _ => by simp [stRoots] at h1
  | .val t :: ps, x :: xs, rs, bl, boxes, bx, H, sK, plK, h1, h2, h3, h4, RK, h5, hds, h6, h7 => by
    cases h3 with
    | val h3 => exact (by simpa only [stAdd] using stAdd_ok R hST hpT ps xs rs bl boxes bx H sK plK (by simpa only [stRoots] using h1) (by simpa only [stBoxes] using h2) h3 h4 RK h5 hds h6 h7)
  | .cap t :: ps, x :: xs, rs, bl, boxes, bx, H, sK, plK, h1, h2, h3, h4, RK, h5, hds, h6, h7 => by
    cases h3 with
    | cap h3 => exact (by simpa only [stAdd] using stAdd_ok R hST hpT ps xs rs bl boxes bx H sK plK (by simpa only [stRoots] using h1) (by simpa only [stBoxes] using h2) h3 h4 RK h5 hds h6 h7)
  | .box e t :: ps, x :: xs, rs, bl, boxes, bx, H, sK, plK, h1, h2, h3, h4, RK, h5, hds, h6, h7 => by
    obtain ⟨r, xs', rs', ex, rfl, hs⟩ := stRoots_cons (e := e) (t := t) (by simp) h1
    cases ex
    obtain ⟨r2, rs2, bv, l, er, rfl, hbx1, hbx⟩ := stBoxes_cons (e := e) (t := t) (al := false) (by simp) h2
    cases er
    obtain ⟨rt, y, hr, hy, hh, rfl, rfl, hk, hal, rfl⟩ := stBox_some hbx1
    cases h3 with
    | @box _ _ x' _ bl' bx' H' G b cap kids hv HO hn hd hl =>
      have hadr := h4 0 r b rfl rfl rt hr
      have R1 := R.readd hr RK h5 (fun i av h => (h6 i av h).imp_right fun h => h.imp_right fun ⟨q, hq, e⟩ => ⟨q, fun e => hq (e ▸ List.mem_cons_self ..), e⟩) (rt' := ⟨rt.e, rt.t, rt.k, [x'], none⟩) (ct' := .node b cap kids) (F' := G) (hv := hv) (own_full' (by simp only [RT.ty, Ty.lev]; omega) (by simp only [RT.ty, Ty.lev]; omega) HO)
        (fun n hG => ⟨(hn n hG).2, fun hS => (hn n hG).1 (hST n hS), fun r2 rt2 hr2 hF => h7 r2 rt2 n hr2 hF (.inl hG), fun hdr i hp => (hn n hG).1 (hpT hdr i n hp)⟩)
        (by rw [hadr]; simp [RT.ty, addrOf])
      have R2 := R1
      obtain ⟨pl2, g1, g2⟩ := stAdd_ok R hST hpT ps xs rs' bl' l bx' H' _ _ hs hbx hl (fun i q c hq hc => h4 (i + 1) q c (by simpa using hq) (by simpa using hc)) R2 h5 (distinctL_cons hds).2
        (fun i av h => by
          rcases lk_stCut h with rfl | ⟨g1, _⟩
          · exact .inl rfl
          · exact (h6 i av g1).imp_right fun h => h.imp_right fun ⟨q, hq, e⟩ => ⟨q, fun hm => hq (List.mem_cons_of_mem _ hm), e⟩)
        (fun q rt1 n hq hF => by
          simp only [XS.root, lk] at hq
          by_cases e : r = q
          · subst e
            simp only [if_true] at hF
            exact hd n hF
          · rw [if_neg e] at hq
            simp only [if_neg (Ne.symm e)] at hF
            exact fun hH => h7 q rt1 n hq hF (.inr hH))
      refine ⟨pl2, ?_, ?_⟩
      · simp only [stAdd, hr]; exact g1
      · simp only [stAdd, hr]
        intro q rt1 n hq hF
        rcases g2 q rt1 n hq hF with ⟨rt', hq', hF'⟩ | hH
        · simp only [XS.root, lk] at hq'
          by_cases e : r = q
          · subst e
            simp only [if_true] at hF'
            exact .inr (.inl hF')
          · rw [if_neg e] at hq'
            simp only [if_neg (Ne.symm e)] at hF'
            exact .inl ⟨rt', hq', hF'⟩
        · exact .inr (.inr hH)
  | .one e t :: ps, x :: xs, rs, bl, boxes, bx, H, sK, plK, h1, h2, h3, h4, RK, h5, hds, h6, h7 => by
    obtain ⟨r, xs', rs', ex, rfl, hs⟩ := stRoots_cons (e := e) (t := t) (by simp) h1
    cases ex
    obtain ⟨r2, rs2, bv, l, er, rfl, hbx1, hbx⟩ := stBoxes_cons (e := e) (t := t) (al := true) (by simp) h2
    cases er
    obtain ⟨rt, y, hr, hy, hh, rfl, rfl, hk, hal, rfl⟩ := stBox_some hbx1
    cases h3 with
    | @one _ _ x' _ bl' bx' H' G b kids hv HO hn hd hl =>
      have hadr := h4 0 r b rfl rfl rt hr
      have R1 := R.readd hr RK h5 (fun i av h => (h6 i av h).imp_right fun h => h.imp_right fun ⟨q, hq, e⟩ => ⟨q, fun e => hq (e ▸ List.mem_cons_self ..), e⟩) (rt' := ⟨rt.e, rt.t, rt.k, [x'], none⟩) (ct' := .node b 1 kids) (F' := G) (hv := hv) (own_full' (by simp only [RT.ty, Ty.lev]; omega) (by simp only [RT.ty, Ty.lev]; omega) HO)
        (fun n hG => ⟨(hn n hG).2, fun hS => (hn n hG).1 (hST n hS), fun r2 rt2 hr2 hF => h7 r2 rt2 n hr2 hF (.inl hG), fun hdr i hp => (hn n hG).1 (hpT hdr i n hp)⟩)
        (by rw [hadr]; simp [RT.ty, addrOf])
      have R2 := R1.fact (n := 100000 + r) (av := .one r) (fun _ rt1 hrt1 => by
        simp only [lk, if_true, Option.some.injEq] at hrt1
        subst hrt1
        exact ⟨b, by simp [RT.ty, RT.at, getS, TV.len, atCT, hdr]⟩) (fun q hq => by simp only [AV.ids, List.mem_singleton] at hq; subst hq; show _ < sK.nxt; rw [h5]; exact R.ids _ rt hr) rfl
      obtain ⟨pl2, g1, g2⟩ := stAdd_ok R hST hpT ps xs rs' bl' l bx' H' _ _ hs hbx hl (fun i q c hq hc => h4 (i + 1) q c (by simpa using hq) (by simpa using hc)) R2 h5 (distinctL_cons hds).2
        (fun i av h => by
          simp only [XS.get, lk] at h
          split at h
          · cases h
            exact .inr (.inr ⟨r, (distinctL_cons hds).1, rfl⟩)
          rcases lk_stCut h with rfl | ⟨g1, _⟩
          · exact .inl rfl
          · exact (h6 i av g1).imp_right fun h => h.imp_right fun ⟨q, hq, e⟩ => ⟨q, fun hm => hq (List.mem_cons_of_mem _ hm), e⟩)
        (fun q rt1 n hq hF => by
          simp only [XS.root, lk] at hq
          by_cases e : r = q
          · subst e
            simp only [if_true] at hF
            exact hd n hF
          · rw [if_neg e] at hq
            simp only [if_neg (Ne.symm e)] at hF
            exact fun hH => h7 q rt1 n hq hF (.inr hH))
      refine ⟨pl2, ?_, ?_⟩
      · simp only [stAdd, hr]; exact g1
      · simp only [stAdd, hr]
        intro q rt1 n hq hF
        rcases g2 q rt1 n hq hF with ⟨rt', hq', hF'⟩ | hH
        · simp only [XS.root, lk] at hq'
          by_cases e : r = q
          · subst e
            simp only [if_true] at hF'
            exact .inr (.inl hF')
          · rw [if_neg e] at hq'
            simp only [if_neg (Ne.symm e)] at hF'
            exact .inl ⟨rt', hq', hF'⟩
        · exact .inr (.inr hH)
  | .gone e t :: ps, x :: xs, rs, bl, boxes, bx, H, sK, plK, h1, h2, h3, h4, RK, h5, hds, h6, h7 => by
    obtain ⟨r, xs', rs', ex, rfl, hs⟩ := stRoots_cons (e := e) (t := t) (by simp) h1
    cases ex
    obtain ⟨r2, rs2, bv, l, er, rfl, hbx1, hbx⟩ := stBoxes_cons (e := e) (t := t) (al := true) (by simp) h2
    cases er
    cases h3 with
    | @gone _ _ _ b bl' _ _ hl =>
      obtain ⟨pl2, g1, g2⟩ := stAdd_ok R hST hpT ps xs rs' bl' l bx H sK plK hs hbx hl (fun i q c hq hc => h4 (i + 1) q c (by simpa using hq) (by simpa using hc)) RK h5 (distinctL_cons hds).2 (fun i av h => (h6 i av h).imp_right fun h => h.imp_right fun ⟨q, hq, e⟩ => ⟨q, fun hm => hq (List.mem_cons_of_mem _ hm), e⟩) h7
      exact ⟨pl2, by simpa only [stAdd] using g1, by simpa only [stAdd] using g2⟩
  termination_by pat _ _ _ _ _ _ _ _ => pat.length

theorem evs_ok (R : RelAt w0 S0 N dr pc s a w S pl) : ∀ (l : List Operand) (xs : List AV), evs s l = some xs → AVRs w S s.rts pl s.nxt xs (l.map a.eval)
  | [], xs, h => by
    simp only [evs, Option.some.injEq] at h
    subst h
    exact .nil
  | x :: l, xs, h => by
    simp only [evs] at h
    cases hx : s.ev x with
    | none => rw [hx] at h; simp at h
    | some v =>
      rw [hx] at h
      cases hl : evs s l with
      | none => rw [hl] at h; simp at h
      | some l' =>
        rw [hl] at h
        cases h
        exact .cons (R.ev hx).1 (R.ev hx).2 (evs_ok R l l' hl)

/-- A call that turns cells. -/
theorem xst_ok (hC : CtxOK P C) (R : RelAt w0 S0 N dr pc s a w S pl) {o : Oper} {i f n : Nat} {K : XS → Prop} (hd : ∀ t, o.dst = some t → t < N) (hk2 : okind o.op = 2) {sp : SpecS} (hs : C.st f = some sp) {xs : List AV} {vs : List Value}
    (hrun : (∃ fn, P.funcs[f]? = some fn ∧ (fn.name == "runtime.NumGoroutine") = false ∧ fn.body.isNone = false) → (execOp a.eval o).run P w = .ok (.enter f vs.toArray) w) (hx : AVRs w S s.rts pl s.nxt xs vs) (h : stCall n dr sp (some xs) o.dst K s) :
    Out P dr o i pc a w (fun pc' a' w' => ∃ s', K s' ∧ Rel w0 S0 N dr pc' s' a' w') := by
  obtain ⟨hfn, hcall⟩ := hC.2.2.2.2.2 f sp hs
  simp only [stCall] at h
  split at h
  rotate_left
  · exact h.elim
  rename_i rs hrs
  obtain ⟨hdis, hnp, h⟩ := h
  obtain ⟨bl, s1, h, R1, e1, e2, e3, e4, hb⟩ := named_ok rs R h
  split at h
  rotate_left
  · exact h.elim
  rename_i p vals boxes hv hbx
  obtain ⟨hp, hK⟩ := h
  have hroot : ∀ r, s1.root r = s.root r := fun r => by show lk s1.rts r = lk s.rts r; rw [e1]
  have hF : ∀ n, rsF pl rs n → n < w.heap.size := fun n hn => by
    obtain ⟨r, hr, hn⟩ := rsF_mem.1 hn
    obtain ⟨rt, hrt⟩ := stBoxes_root _ _ _ hbx r hr
    exact (R1.Flt r rt n hrt hn).1
  have hS : ∀ n, S n → butF w (rsF pl rs) n := fun n hn => ⟨R1.lt n hn, fun h => by
    obtain ⟨r, hr, hn'⟩ := rsF_mem.1 h
    have := hF n h
    cases hq : s1.root r with
    | none =>
      (obtain ⟨_, h0⟩ := stBoxes_root _ _ _ hbx r hr; rw [hq] at h0; cases h0)
    | some rt => exact (R1.Flt r rt n hq hn').2 hn⟩
  have hT : ∀ r rt n, (Fer.killAll rs s1).root r = some rt → (pl r).F n → butF w (rsF pl rs) n := fun r rt n h1 h2 => by
    obtain ⟨g1, g2⟩ := killAll_root.1 h1
    refine ⟨(R1.Flt r rt n g2 h2).1, fun h => ?_⟩
    obtain ⟨q, hq, hqF⟩ := rsF_mem.1 h
    cases hqr : s1.root q with
    | none =>
      have hlt := hF n h
      (obtain ⟨_, h0⟩ := stBoxes_root _ _ _ hbx q hq; rw [hqr] at h0; cases h0)
    | some qt =>
      have := R1.disj r q rt qt n g2 hqr h2 hqF
      subst this
      exact g1 hq
  have hpin : dr = true → ∀ i n, pc i n → butF w (rsF pl rs) n := fun hdr i n hn => by
    obtain ⟨q, h1, h2, h3⟩ := R.pins hdr i n hn
    refine ⟨h2, fun hF' => ?_⟩
    obtain ⟨r, hr, hrF⟩ := rsF_mem.1 hF'
    cases hq : s.root r with
    | none =>
      have hlt := hF n hF'
      have hs1 : s1.root r = none := (hroot r).trans hq
      (obtain ⟨_, h0⟩ := stBoxes_root _ _ _ hbx r hr; rw [hs1] at h0; cases h0)
    | some rt =>
      have hqr := h3 r rt hq hrF
      subst hqr
      have := List.all_eq_true.1 hnp r hr
      simp only [noPin, hdr, Bool.not_true, Bool.false_or, List.all_eq_true] at this
      have := this _ h1
      simp at this
  have hx1 : AVRs w S s1.rts pl s1.nxt xs vs := by rw [e1, e2]; exact hx
  have hA := stArgs_ok R1 hS hT sp.pat xs vs rs bl p vals boxes hrs hx1 hv hp hbx hdis e4 (fun i r b h1 h2 rt hrt => hb i r b h1 h2 rt ((hroot r).symm.trans hrt))
  have main : o.wp P a w (fun a' w' => (dr = true → kept o pc w w') ∧ ∃ s', K s' ∧ Rel w0 S0 N dr pc s' a' w') noQ := by
    unfold Oper.wp
    rw [hrun hfn]
    refine Calls.mono (hcall bl vals boxes _ hK w _ _ hA hF) fun e w' h => ?_
    cases e with
    | returned v =>
      obtain ⟨g, outs, bx, us, G, H, h1, rfl, h2, h3⟩ := h
      have RK := R1.killAll rs
      have RK2 : RelAt w0 S0 N dr pc (Fer.killAll rs s1) a w' S pl := RK.moved g.os g.tape (g.output.mono fun n hn => hS n (R1.base n hn)) g.size fun n hn h => g.old n (by
        rcases h with h | ⟨r2, rt2, h3, h4⟩
        · exact hS n h
        · exact hT r2 rt2 n h3 h4)
      have hout : ∀ {ps bl bx H}, StOut w' (butF w (rsF pl rs)) ps bl bx H → ∀ n, H n → ¬ butF w (rsF pl rs) n := by
        intro ps bl bx H h
        induction h with
        | nil => intro n hn; exact hn.elim
        | val _ ih => exact ih
        | cap _ ih => exact ih
        | box _ hn _ _ ih => exact fun n h => h.elim (fun h => (hn n h).1) (ih n)
        | one _ hn _ _ ih => exact fun n h => h.elim (fun h => (hn n h).1) (ih n)
        | gone _ ih => exact ih
      obtain ⟨k1, k2, k3⟩ := killAll_same (rs := rs) (s := s1)
      obtain ⟨pl2, R2, hF2⟩ := stAdd_ok R1 hS hpin sp.pat xs rs bl boxes bx H (Fer.killAll rs s1) pl hrs hbx h2 (fun i r b h1 h2 rt hrt => hb i r b h1 h2 rt ((hroot r).symm.trans hrt)) RK2 k2 hdis (fun i av h => .inr (.inl (by unfold XS.get at h ⊢; rw [k1] at h; exact h)))
        (fun r rt n hr hn hH => hout h2 n hH (hT r rt n hr hn))
      exact ⟨fun hdr i b hb _ => g.old b (hpin hdr i b hb), _, h1, retsPut_at R2 (T := fun n => butF w (rsF pl rs) n ∨ H n) (fun n hn => .inl (hS n hn)) (fun r rt n hr hn => (hF2 r rt n hr hn).elim (fun ⟨rt', q1, q2⟩ => .inl (hT r rt' n q1 q2)) .inr) (fun hdr i n hn => .inl (hpin hdr i n hn)) h3 hd⟩
    | panicked => exact h.elim
    | outgrown => exact h.elim
  unfold Out
  rw [hk2]
  exact main
end
end Fer

/- The abstract machine is sound: regions, control, functions. Over any program. -/
namespace Fer
open Go

section
variable {P : Program} {C : Ctx} {w0 : World} {S0 : Nat → Prop} {dr : Bool} {pc : Pins} {s : XS} {a : Act} {w w' : World} {S : Nat → Prop} {pl : Nat → PL}

theorem dOK_lt {n : Nat} {d : Option Nat} (h : dOK n d = true) : ∀ t, d = some t → t < n := by
  rintro t rfl; simpa [dOK] using h

theorem RelAt.pin {N : Nat} (R : RelAt w0 S0 N dr pc s a w S pl) {i b : Nat} {q : Option Nat} (hb : b < w.heap.size) (hq : ∀ r rt, s.root r = some rt → (pl r).F b → q = some r) :
    RelAt w0 S0 N dr (addPin i b pc) (s.pin dr i q) a w S pl := by
  cases dr with
  | false => exact { R with pins := (fun h => by cases h) }
  | true =>
    have R1 := R.pinned (l := (i, q) :: s.pins) fun x hx => List.mem_cons_of_mem _ hx
    refine { R1 with pins := fun _ i' b' hp => ?_ }
    rcases hp with ⟨rfl, rfl⟩ | hp
    · exact ⟨q, List.mem_cons_self, hb, hq⟩
    · exact R1.pins rfl i' b' hp

theorem nil_key {T : Nat → Prop} {e : Nat} {t : Ty} {l : List t.den} {v : Value} (hro : RO w T (.list e t) l [v]) : ∃ ad cap, v = .slice ad l.length cap ∧ (ad.isNone = true → l = []) := by
  obtain ⟨ad, cap, e1, e2, e3, e4⟩ := hro
  simp only [List.cons.injEq, and_true] at e1
  refine ⟨ad, cap, e1, fun hn => ?_⟩
  cases ad with
  | some _ => cases hn
  | none =>
    refine Classical.byContradiction fun hne => ?_
    obtain ⟨_, _, _, _, _, e, _⟩ := e4 hne; cases e

theorem nilCmp_ok {N : Nat} (htt : ttB P C.tt = true) (R : RelAt w0 S0 N dr pc s a w S pl) {o : Oper} {q : Prop} {pos : Bool} (h : nilCmp C.tt s o = some (q, pos)) :
    ∃ b : Bool, okind o.op = 0 ∧ (∀ w', (execOp a.eval o).run P w' = .ok (.value (.bool b)) w') ∧ (b = pos → q) := by
  obtain ⟨dst, op, type, pos', after, guard⟩ := o
  simp only [nilCmp] at h
  split at h
  · rename_i op T x u
    split at h
    · rename_i e t by' e' t' l hte hx
      obtain ⟨hu, _⟩ := slice_te (ttB_get htt hte)
      have hx1 := (R.ev hx).1
      generalize hvx : a.eval x = vx at hx1
      obtain ⟨ad, cap, hv, hro, _, _⟩ := hx1.list
      subst hv
      have key : ad.isNone = true → l = [] := fun hn => by
        cases ad with
        | some _ => cases hn
        | none =>
          obtain ⟨ad', cap', e1, e2, e3, e4⟩ := hro
          simp only [List.cons.injEq, Value.slice.injEq, and_true] at e1
          obtain ⟨rfl, _, rfl⟩ := e1
          by_cases hne : l = []
          · exact hne
          · obtain ⟨_, _, _, _, _, e, _⟩ := e4 hne; cases e
      split at h
      · cases h
        refine ⟨ad.isNone, rfl, fun w' => ?_, key⟩
        have hv' : a.eval x = .slice ad l.length cap := hvx
        have e2 : a.eval (.const (.slice none 0 0)) = .slice none 0 0 := rfl
        refine exec_value (P := P) rfl (fun w' => ?_) w'
        rw [hv', e2]
        simp [eqGuard, binOp, run_equal_slice_nil w' T e ad l.length cap hu]
      · cases h
        refine ⟨!ad.isNone, rfl, fun w' => ?_, fun hb => key (by simpa using hb)⟩
        have hv' : a.eval x = .slice ad l.length cap := hvx
        have e2 : a.eval (.const (.slice none 0 0)) = .slice none 0 0 := rfl
        refine exec_value (P := P) rfl (fun w' => ?_) w'
        rw [hv', e2]
        simp [eqGuard, binOp, run_equal_slice_nil w' T e ad l.length cap hu]
      · cases h
    · rename_i e t by' ad n cap hte hx
      obtain ⟨hu, _⟩ := slice_te (ttB_get htt hte)
      obtain ⟨cs, hcs, hro, _⟩ := (R.ev hx).1
      subst hro
      have hv' : a.eval x = .slice (some ad) n cap := hcs
      have e2 : a.eval (.const (.slice none 0 0)) = .slice none 0 0 := rfl
      split at h
      · cases h
        refine ⟨false, rfl, fun w' => exec_value (P := P) rfl (fun w' => ?_) w', fun h => by cases h⟩
        rw [hv', e2]
        simp [eqGuard, binOp, run_equal_slice_nil w' T e (some ad) n cap hu]
      · cases h
        refine ⟨true, rfl, fun w' => exec_value (P := P) rfl (fun w' => ?_) w', fun h => by cases h⟩
        rw [hv', e2]
        simp [eqGuard, binOp, run_equal_slice_nil w' T e (some ad) n cap hu]
      · cases h
    · rename_i e t by' n cap hte hx
      obtain ⟨hu, _⟩ := slice_te (ttB_get htt hte)
      obtain ⟨cs, hcs, hro, _⟩ := (R.ev hx).1
      subst hro
      have hv' : a.eval x = .slice none n cap := hcs
      have e2 : a.eval (.const (.slice none 0 0)) = .slice none 0 0 := rfl
      split at h
      · cases h
        refine ⟨true, rfl, fun w' => exec_value (P := P) rfl (fun w' => ?_) w', fun h => by cases h⟩
        rw [hv', e2]
        simp [eqGuard, binOp, run_equal_slice_nil w' T e none n cap hu]
      · cases h
        refine ⟨false, rfl, fun w' => exec_value (P := P) rfl (fun w' => ?_) w', fun h => by cases h⟩
        rw [hv', e2]
        simp [eqGuard, binOp, run_equal_slice_nil w' T e none n cap hu]
      · cases h
    · rename_i e t by' r hte hx
      obtain ⟨hu, _⟩ := slice_te (ttB_get htt hte)
      split at h
      · rename_i rt hr
        have hroot : ∀ hh : rt.h = none, ∃ ad cap, a.eval x = .slice ad rt.x.length cap ∧ (ad.isNone = true → rt.x = []) := fun hh => by
          obtain ⟨hv, H⟩ := R.own r rt hr
          have hv0 : a.eval x = hv := by
            have h1 : a.eval x = hdr (atCT [] rt.ty (pl r).ct) (rt.at []).len := (R.ev hx).1 rt hr
            rw [h1]; exact (H.hdr (by rw [hh]; simp)).1.symm
          rw [hh] at H
          rw [hv0]
          exact nil_key (H.freeze (S' := fun n => S n ∨ (pl r).F n) (fun b hb => .inl hb) fun b hb => .inr hb)
        split at h
        · rename_i hh
          cases h
          obtain ⟨ad, cap, hv', key⟩ := hroot hh
          refine ⟨ad.isNone, rfl, fun w' => ?_, key⟩
          have e2 : a.eval (.const (.slice none 0 0)) = .slice none 0 0 := rfl
          refine exec_value (P := P) rfl (fun w' => ?_) w'
          rw [hv', e2]
          simp [eqGuard, binOp, run_equal_slice_nil w' T e ad rt.x.length cap hu]
        · rename_i hh
          cases h
          obtain ⟨ad, cap, hv', key⟩ := hroot hh
          refine ⟨!ad.isNone, rfl, fun w' => ?_, fun hb => key (by simpa using hb)⟩
          have e2 : a.eval (.const (.slice none 0 0)) = .slice none 0 0 := rfl
          refine exec_value (P := P) rfl (fun w' => ?_) w'
          rw [hv', e2]
          simp [eqGuard, binOp, run_equal_slice_nil w' T e ad rt.x.length cap hu]
        · cases h
      · cases h
    · cases h
  · cases h

theorem ev_slot {x : Operand} {b : Nat} {f : Int → Int} (hx : s.ev x = some (.mp b f)) : ∃ i, s.get i = some (.mp b f) := by
  cases x with
  | tmp x => exact ⟨x, hx⟩
  | const c =>
    have : (constAV c) = some (.mp b f) := hx
    cases c <;> simp [constAV] at this
  | _ => cases hx

theorem xpure_new {N : Nat} {tt : List (Nat × TE)} (R : RelAt w0 S0 N dr pc s a w S pl) {o : Oper} {pf : PF} (h : xpure tt s o = some pf) (hp : (pf.av.plain || isMove o) = true) : pf.av.isNew w0.heap.size := by
  cases hpl : pf.av.plain with
  | true => exact AV.plain_new hpl
  | false =>
    rw [hpl, Bool.false_or] at hp
    have key : ∀ x, (s.ev x).map (PF.of True) = some pf → pf.av.isNew w0.heap.size := fun x hx => by
      cases hev : s.ev x with
      | none => rw [hev] at hx; cases hx
      | some av =>
        rw [hev] at hx
        cases hx
        cases av with
        | mp b f =>
          obtain ⟨i, hi⟩ := ev_slot hev
          exact R.news i b f hi
        | _ => cases hpl
    obtain ⟨dst, op, type, pos', after, guard⟩ := o
    unfold isMove at hp
    cases op <;> first | (cases hp; done) | exact key _ h

theorem xcut_ok {N : Nat} (R : RelAt w0 S0 N dr pc s a w S pl) {o : Oper} {i : Nat} {K : XS → Prop} (hd : ∀ t, o.dst = some t → t < N) {r hi : Nat} {rt : RT} (hc : cutAt s o = some (r, rt, hi)) (h : K ((s.trunc r rt hi).put o.dst (.ref r []))) :
    Out P dr o i pc a w (fun pc' a' w' => ∃ s', K s' ∧ Rel w0 S0 N dr pc' s' a' w') := by
  obtain ⟨dst, op, type, pos', after, guard⟩ := o
  simp only [cutAt] at hc
  split at hc
  · rename_i x d
    split at hc
    · rename_i r' lo hi' q hx hq
      split at hc
      · rename_i hcc
        obtain ⟨rfl, rfl⟩ := hcc
        split at hc
        · rename_i rt' hr
          split at hc
          · rename_i hh
            cases hc
            obtain ⟨_, hle, hsub⟩ := (R.ev (x := .tmp x) hx).1 rt hr
            obtain ⟨pl', R', hv, _⟩ := cutRoot R hr hh (hi := hi) (v := a.eval (.tmp x)) hle hsub
            refine Out.pure (v := a.eval (.tmp x)) rfl (fun w' => rfl) ⟨_, h, S, pl', R'.put hd ?_ (AV.lt_ref (R.ids _ rt hr))⟩
            intro rt2 hrt2
            have : rt2 = { rt with x := rt.x.take hi } := by
              simp only [XS.setRoot, lk, if_true, Option.some.injEq] at hrt2; exact hrt2.symm
            subst this
            exact hv
          · cases hc
        · cases hc
      · cases hc
    · cases hc
  · cases hc

theorem xdo_ok (hC : CtxOK P C) (R : RelAt w0 S0 C.n dr pc s a w S pl) {o : Oper} {i : Nat} {K : XS → Prop} (hd : ∀ t, o.dst = some t → t < C.n) (h : xdo C dr o i K s) :
    Out P dr o i pc a w (fun pc' a' w' => ∃ s', K s' ∧ Rel w0 S0 C.n dr pc' s' a' w') := by
  unfold xdo at h
  split at h
  · rename_i e t hn
    refine Out.pure (v := .slice none 0 0) ?_ ?_ ⟨_, h, S, _, (R.nilRoot e t).put hd ?_ ?_⟩
    · rcases nilAt_some hn with h | h <;> rw [h] <;> rfl
    · intro w'; rcases nilAt_some hn with h | h <;> (unfold execOp; rw [h]; rfl)
    · intro rt hrt
      have : rt = nilRT e t := by simp only [XS.addRoot, lk, if_true, Option.some.injEq] at hrt; exact hrt.symm
      subst this
      simp [RT.at, TV.len, nilRT, atCT, hdr]
    · exact AV.lt_ref (Nat.lt_succ_self _)
  · split at h
    · rename_i r rt hi hc
      exact xcut_ok R hd hc h
    split at h
    · rename_i hm
      exact mpOp_ok hC.1 R hd hm h
    · rename_i hm
      exact mpOp_ok hC.1 R hd hm h
    · rename_i hm
      exact mpOp_ok hC.1 R hd hm h
    split at h
    · rename_i q pos hc
      obtain ⟨b, k0, e1, e2⟩ := nilCmp_ok hC.1 R hc
      exact Out.pure (v := .bool b) k0 e1 ⟨_, h b e2, S, pl, R.put hd (AVR.mkBool _ _) AV.lt_dat⟩
    split at h
    · rename_i pf hpf
      obtain ⟨h1, hp, h2, h3⟩ := h
      obtain ⟨k0, v, e1, e2, e3, e4⟩ := xpure_ok hC.1 R hpf h1 h2
      exact Out.pure k0 v e1 ⟨_, h3 e4, S, pl, R.put hd e2 e3 (xpure_new R hpf hp)⟩
    · split at h
      · rename_i T x ho
        split at h
        · rename_i u hu
          split at h
          · rename_i pf hpf
            obtain ⟨hp, h1, h2⟩ := h
            obtain ⟨v, b, e1, e2, e3, e4, e5⟩ := ldAV_ok hC.1 R (R.ev hu).1 (R.ev hu).2 hpf h1
            have hk : okind o.op = 1 := by rw [ho]; rfl
            unfold Out
            rw [hk]
            refine ⟨v, b, fun w' hw' => ?_, _, h2, S, pl, (R.pin e4 e5).put hd ?_ ?_ (AV.plain_new hp)⟩
            · unfold execOp; rw [ho]; simp [e1 w' hw']
            · cases dr <;> exact e2
            · cases dr <;> exact e3
          · exact h.elim
        · exact h.elim
      · rename_i f args ats ho
        split at h
        · rename_i sp hsp
          split at h
          · rename_i p l ha
            exact xcall_ok hC R hd rfl ho hsp ha h.1 h.2
          · exact h.elim
        · split at h
          · rename_i sp hsp
            split at h
            · rename_i x xs t ts hargs hps
              split at h
              · rename_i r hx
                split at h
                · rename_i rt hr
                  split at h
                  · rename_i hc
                    obtain ⟨c1, c2, c3, c4⟩ := hc
                    split at h
                    · rename_i p l ha
                      exact xmv_ok hC R hd ho hsp hargs hx hr c1 c2 (by rw [hps, c3]) ha h.1 c4 h.2
                    · exact h.elim
                  · exact h.elim
                · exact h.elim
              · rename_i r j q hx
                split at h
                · rename_i e u
                  split at h
                  · rename_i p1 s1 r1 ho1
                    split at h
                    · rename_i rt hr
                      split at h
                      · rename_i hc
                        obtain ⟨c1, c2, c3, rfl⟩ := hc
                        split at h
                        · rename_i p l ha
                          exact xmvp_ok hC R hd ho hsp hargs hx ho1 h.1 hr c2 (by rw [hps, c3]) ha h.2.1 h.2.2
                        · exact h.elim
                      · exact h.elim
                    · exact h.elim
                  · exact h.elim
                · exact h.elim
              · exact h.elim
            · exact h.elim
          · split at h
            · rename_i sp hsp
              split at h
              · rename_i x xs t ts hargs hps
                split at h
                · rename_i r hx
                  split at h
                  · rename_i rt hr
                    split at h
                    · rename_i hc
                      obtain ⟨c1, c2, c3, rfl⟩ := hc
                      split at h
                      · rename_i p l ha
                        exact xip_ok hC R hd ho hsp hargs hx hr c1 c2 (by rw [hps, c3]) ha h.1 h.2
                      · exact h.elim
                    · exact h.elim
                  · exact h.elim
                · exact h.elim
              · exact h.elim
            · split at h
              · rename_i sp hsp
                cases hev : evs s args.toList with
                | none => rw [hev] at h; exact h.elim
                | some xs =>
                  rw [hev] at h
                  refine xst_ok hC R hd (by rw [ho]; rfl) hsp (vs := args.toList.map a.eval) (fun ⟨fn, hf, hn, hb⟩ => ?_) (evs_ok R _ _ hev) h
                  unfold execOp
                  rw [ho]
                  have e : (args.toList.map a.eval).toArray = args.map a.eval := by rw [← Array.toList_map, Array.toArray_toList]
                  rw [e]
                  have := run_call (P := P) (w := w) hf hn hb (args.map a.eval)
                  simp only [resolve, invoke, Deferred.ofValue, Act.eval, Sem.run_bind, Sem.run_pure, Result.andThen_ok, Array.empty_append, Array.append_empty]
                  exact this
              · exact h.elim
      · rename_i t args ats ho
        split at h
        · rename_i f hf
          split at h
          · rename_i sp hsp
            split at h
            · rename_i p l ha
              exact xcall_ok hC R hd (calleeOf_ok R hf) ho hsp ha h.1 h.2
            · exact h.elim
          · exact h.elim
        · split at h
          · rename_i f cs hy
            split at h
            · rename_i sp hsp
              cases hev : evs s args.toList with
              | none => rw [hev] at h; exact h.elim
              | some xs =>
                rw [hev] at h
                obtain ⟨us, e, h1, h2⟩ := (R.ev (x := .tmp t) hy).1
                have hlt := (R.ev (x := .tmp t) hy).2
                have hc : ∀ (cs : List Nat) (us : List Value), us.length = cs.length → (∀ r ∈ cs, r < s.nxt) → (∀ (i c : Nat) (rt : RT) (u : Value), cs[i]? = some c → lk s.rts c = some rt → us[i]? = some u → u = addrP (pl c) rt [0]) → AVRs w S s.rts pl s.nxt (cs.map fun c => .ptr c [0]) us := by
                  intro cs
                  induction cs with
                  | nil => intro us hl _ _; obtain rfl := List.eq_nil_of_length_eq_zero hl; exact .nil
                  | cons c cs ih =>
                    intro us hl hlt hv
                    match us, hl with
                    | u :: us, hl =>
                      exact .cons (fun rt hr => hv 0 c rt u rfl hr rfl) (fun q hq => by simp only [AV.ids, List.mem_singleton] at hq; subst hq; exact hlt _ (by simp)) (ih us (by simpa using hl) (fun r hr => hlt r (by simp [hr])) fun i c' rt u' g1 g2 g3 => hv (i + 1) c' rt u' g1 g2 g3)
                refine xst_ok hC R hd (by rw [ho]; rfl) hsp (vs := args.toList.map a.eval ++ us) (fun ⟨fn, hf, hn, hb⟩ => ?_) ((evs_ok R _ _ hev).app (hc cs us h1 hlt h2)) h
                unfold execOp
                rw [ho]
                have e' : (args.toList.map a.eval ++ us).toArray = args.map a.eval ++ us.toArray := by
                  rw [← List.append_toArray, ← Array.toList_map, Array.toArray_toList]
                rw [e']
                have := run_call (P := P) (w := w) hf hn hb (args.map a.eval ++ us.toArray)
                simp only [resolve, invoke, e, Deferred.ofValue, Sem.run_bind, Sem.run_pure, Result.andThen_ok, Array.empty_append, Array.append_empty]
                exact this
            split at h
            · rename_i sp us l' hs hcap
              split at h
              · rename_i hu
                subst hu
                split at h
                · rename_i p l ha
                  exact xcl_ok hC R hd hy ho hs hcap ha h.1 h.2
                · exact h.elim
              · exact h.elim
            · exact h.elim
          · rename_i f u y hy
            split at h
            · rename_i sp us hs
              split at h
              · rename_i hu
                subst hu
                split at h
                · rename_i p l ha
                  exact xclf_ok hC R hd hy ho hs ha h.1 h.2
                · exact h.elim
              · exact h.elim
            · exact h.elim
          · exact h.elim
      · split at h
        · rename_i mf hmf
          exact xmem_ok hC.1 R hd hmf h.2.2.1 h.1 h.2.1 h.2.2.2
        · exact h.elim

theorem xwant_ok {N : Nat} (R : RelAt w0 S0 N dr pc s a w S pl) {ops : Array Oper} {o : Oper} {b : Bool} (h : xwant ops s o = some b) : Region.wanted o (yielded ops a.tmps) = b := by
  unfold xwant at h
  unfold Region.wanted
  split at h
  · rename_i hg; rw [hg]; simpa using h
  · rename_i j want hg
    rw [hg]
    simp only [yielded]
    split at h
    · rename_i t ht
      rw [ht]
      simp only [Option.bind_some]
      split at h
      · rename_i c hc
        cases h
        have e := AVR.bool (R.env t _ hc).1
        have : a.tmps[t]? = some (.bool c) := by
          cases hx : a.tmps[t]? with
          | none => simp [hx, undef] at e
          | some v => simp [hx] at e; rw [e]
        rw [this]
        cases c <;> cases want <;> rfl
      · rename_i hc
        cases h
        obtain ⟨vs, e1, e2⟩ := (R.env t _ hc).1
        cases e2
        cases hx : a.tmps[t]? with
        | none => rfl
        | some v => simp [hx] at e1; rw [e1]; rfl
      · cases h
    · rename_i ht
      cases h
      rw [ht]
      rfl

theorem RelAt.known {N : Nat} (R : RelAt w0 S0 N dr pc s a w S pl) {ops : Array Oper} {o : Oper} {b : Bool} (h : xwant ops s o = some b) : RelAt w0 S0 N dr pc (known ops s o b) a w S pl := by
  unfold xwant at h
  unfold Fer.known
  split at h
  · exact R
  · rename_i j want hg
    split at h
    · rename_i t ht
      split at h
      · rename_i c hc
        rw [hc]
        dsimp only
        cases h
        have e : ((c == want) == want) = c := by cases c <;> cases want <;> rfl
        rw [e]
        refine { R with env := fun i av hi => ?_, news := fun i b f hi => ?_ }
        · simp only [XS.get, XS.put, lk] at hi
          split at hi
          · rename_i e1
            subst e1
            cases hi
            exact R.env t _ hc
          · exact R.env i av hi
        · simp only [XS.get, XS.put, lk] at hi
          split at hi
          · cases hi
          · exact R.news i b f hi
      · rename_i hc
        rw [hc]
        exact R
      · cases h
    · exact R

theorem RelAt.skip {N : Nat} (R : RelAt w0 S0 N dr pc s a w S pl) {d : Option Nat} (hd : ∀ t, d = some t → t < N) : RelAt w0 S0 N dr pc (s.put d (.tup [])) (a.put d undef) w S pl :=
  R.put hd ⟨[], rfl, .nil⟩ fun _ h => by cases h

theorem xrun_ok (hC : CtxOK P C) {ops : Array Oper} {K : XS → Prop} {Q : Exit → Act → World → Prop} (hK : ∀ s pc a w, K s → Rel w0 S0 C.n false pc s a w → Q .normal a w) :
    ∀ (l : List Oper) (i : Nat) (s : XS) (pc : Pins) (a : Act) (w : World), xrun C ops K i l s → Rel w0 S0 C.n false pc s a w → wpList P ops Q l a w
  | [], i, s, pc, a, w, h, R => hK s pc a w h R
  | o :: l, i, s, pc, a, w, h, ⟨S, pl, R⟩ => by
    obtain ⟨hd, h⟩ := h
    have hd := dOK_lt hd
    split at h
    · exact h.elim
    · rename_i b hb
      simp only [wpList, xwant_ok R hb]
      cases b with
      | true =>
        simp only [if_true]
        refine .inl ?_
        have := xdo_ok hC (R.known hb) hd h
        exact Out.wp (this.mono fun pc' a' w' hh => by
          obtain ⟨s', h1, h2⟩ := hh
          exact xrun_ok hC hK l (i + 1) s' pc' a' w' h1 h2)
      | false =>
        simp only [Bool.false_eq_true, if_false]
        exact xrun_ok hC hK l (i + 1) _ pc _ w h ⟨S, pl, (R.known hb).skip hd⟩

theorem xord_ok (hC : CtxOK P C) {ops : Array Oper} {K : XS → Prop} {Q : Act → World → Prop} (hK : ∀ s a w, K s → Rel w0 S0 C.n false noPins s a w → Q a w) :
    ∀ (l : List Nat) (s : XS) (pc : Pins) (a : Act) (w : World), xord C ops K l s → Rel w0 S0 C.n true pc s a w → wpOrd P ops (fun _ a w => Q a w) l pc a w
  | [], s, pc, a, w, h, ⟨S, pl, R⟩ => hK _ a w h ⟨S, pl, { R with pins := (fun h => by cases h) }⟩
  | i :: l, s, pc, a, w, h, ⟨S, pl, R⟩ => by
    simp only [xord] at h
    simp only [wpOrd]
    cases ho : ops[i]? with
    | none => rw [ho] at h; exact h.elim
    | some o =>
      rw [ho] at h
      obtain ⟨hd, h⟩ := h
      have hd := dOK_lt hd
      simp only [kOper]
      split at h
      · exact h.elim
      · rename_i b hb
        rw [xwant_ok R hb]
        cases b with
        | true =>
          simp only [if_true]
          have := xdo_ok hC (R.known hb) hd h
          exact Out.k (this.mono fun pc' a' w' hh => by
            obtain ⟨s', h1, h2⟩ := hh
            exact xord_ok hC hK l s' pc' a' w' h1 h2)
        | false =>
          simp only [Bool.false_eq_true, if_false]
          exact xord_ok hC hK l _ pc _ w h ⟨S, pl, (R.known hb).skip hd⟩

end
end Fer

/- The abstract machine: control; loops; functions. Over any program. -/
namespace Fer
open Go

/-! ### One state serves for another -/

def fitD (t t' : Ty) (x : t.den) (y : t'.den) : Prop := if h : t = t' then h ▸ x = y else False
@[simp] theorem fitD_self (t : Ty) (x y : t.den) : fitD t t x y ↔ x = y := by simp [fitD]

/-- Roots by other names. -/
def fitL (ren : List (Nat × Nat)) : List Nat → List Nat → Prop
  | [], [] => True
  | q :: c, r :: c' => lk ren r = some q ∧ fitL ren c c'
  | _, _ => False
theorem fitL_get {ren : List (Nat × Nat)} : ∀ {c c' : List Nat}, fitL ren c c' → c.length = c'.length ∧ ∀ i r : Nat, c'[i]? = some r → ∃ q : Nat, c[i]? = some q ∧ lk ren r = some q
  | [], [], _ => ⟨rfl, fun i r h => by simp at h⟩
  | q :: c, r :: c', ⟨h, h'⟩ => by
    obtain ⟨i1, i2⟩ := fitL_get h'
    refine ⟨by simp [i1], fun i r' hr => ?_⟩
    cases i with
    | zero =>
      simp only [List.getElem?_cons_zero, Option.some.injEq] at hr
      subst hr
      exact ⟨q, rfl, h⟩
    | succ i =>
      simp only [List.getElem?_cons_succ] at hr ⊢
      exact i2 i r' hr
  | [], _ :: _, h => h.elim
  | _ :: _, [], h => h.elim

/-- A plain value of the one as one of the other; roots by other names. -/
def fitB (ren : List (Nat × Nat)) : AV → AV → Prop
  | _, .junk => True
  | .dat t x, .dat t' y => fitD t t' x y
  | .ref r p, .ref r' p' => lk ren r' = some r ∧ p = p'
  | .sub r p lo hi, .sub r' p' lo' hi' => lk ren r' = some r ∧ p = p' ∧ lo = lo' ∧ hi = hi'
  | .ptr r p, .ptr r' p' => lk ren r' = some r ∧ p = p'
  | .mp b f, .mp b' f' => b = b' ∧ f = f'
  | .clo f c, .clo f' c' => f = f' ∧ fitL ren c c'
  | .rptr t x, .rptr t' y => fitD t t' x y
  | .loc r b, .loc r' b' => lk ren r' = some r ∧ b = b'
  | .one r, .one r' => lk ren r' = some r
  | _, _ => False

def fitEnv (ren : List (Nat × Nat)) (s : XS) : List (Nat × AV) → Prop
  | [] => True
  | (i, av) :: l => (match s.get i with | some u => fitB ren u av | none => False) ∧ fitEnv ren s l

/-- A root serves for another: the same, or empty. -/
def fitRT (rt rt' : RT) : Prop := rt.e = rt'.e ∧ rt.h = none ∧ rt'.h = none ∧ fitD (.list rt.e rt.t) (.list rt'.e rt'.t) rt.x rt'.x ∧ (rt.t.flat = true ∨ rt.k = rt'.k ∨ rt.x = [])

def fitRoots (ren : List (Nat × Nat)) (s : XS) : List (Nat × RT) → Prop
  | [] => True
  | (r, rt) :: l => (match lk ren r with | some q => (match s.root q with | some qt => fitRT qt rt | none => False) | none => False) ∧ fitRoots ren s l

def distinct : List Nat → Bool
  | [] => true
  | x :: l => l.all (fun y => !(x == y)) && distinct l

def idsOK (st : XS) : Bool := st.env.all (fun x => (match x.2 with | .tup _ | .agg _ => false | av => av.ids.all fun r => decide (r < st.nxt))) && st.rts.all (fun x => decide (x.1 < st.nxt))

/-- State s serves for st. -/
def Fits (ren : List (Nat × Nat)) (s st : XS) : Prop :=
  distinct (ren.map (·.2)) = true ∧ idsOK st = true ∧ fitEnv ren s st.env ∧ fitRoots ren s st.rts

section
variable {P : Program} {C : Ctx} {w0 : World} {S0 : Nat → Prop} {N : Nat} {s : XS} {a : Act} {w w' : World} {S : Nat → Prop} {pl : Nat → PL}

theorem distinct_ren : ∀ {l : List (Nat × Nat)} {r r' q : Nat}, distinct (l.map (·.2)) = true → lk l r = some q → lk l r' = some q → r = r'
  | [], _, _, _, _, h, _ => by cases h
  | (i, x) :: l, r, r', q, hd, h, h' => by
    simp only [List.map_cons, distinct, Bool.and_eq_true, List.all_eq_true] at hd
    have key : ∀ r, lk l r = some q → x ≠ q := fun r hr => by
      have := hd.1 q (List.mem_map.2 ⟨(r, q), lk_mem hr, rfl⟩)
      simpa using this
    simp only [lk] at h h'
    by_cases h1 : i = r <;> by_cases h2 : i = r'
    · exact h1.symm.trans h2
    · rw [if_pos h1] at h; rw [if_neg h2] at h'; exact absurd (Option.some.inj h) (key r' h')
    · rw [if_neg h1] at h; rw [if_pos h2] at h'; exact absurd (Option.some.inj h') (key r h)
    · rw [if_neg h1] at h; rw [if_neg h2] at h'; exact distinct_ren hd.2 h h'

theorem fitEnv_get {ren : List (Nat × Nat)} : ∀ {l : List (Nat × AV)} {i : Nat} {av : AV}, fitEnv ren s l → lk l i = some av → ∃ u, s.get i = some u ∧ fitB ren u av
  | [], _, _, _, h => by cases h
  | (j, a) :: l, i, av, hf, h => by
    simp only [lk] at h
    obtain ⟨h1, h2⟩ := hf
    by_cases e : j = i
    · rw [if_pos e] at h
      subst e
      cases h
      cases hg : s.get j with
      | none => rw [hg] at h1; exact h1.elim
      | some u => rw [hg] at h1; exact ⟨u, rfl, h1⟩
    · rw [if_neg e] at h; exact fitEnv_get h2 h

theorem fitRoots_get {ren : List (Nat × Nat)} : ∀ {l : List (Nat × RT)} {r : Nat} {rt : RT}, fitRoots ren s l → lk l r = some rt → ∃ q qt, lk ren r = some q ∧ s.root q = some qt ∧ fitRT qt rt
  | [], _, _, _, h => by cases h
  | (j, a) :: l, r, rt, hf, h => by
    simp only [lk] at h
    obtain ⟨h1, h2⟩ := hf
    by_cases e : j = r
    · rw [if_pos e] at h
      subst e
      cases h
      cases hg : lk ren j with
      | none => rw [hg] at h1; exact h1.elim
      | some q =>
        rw [hg] at h1
        simp only at h1
        cases hq : s.root q with
        | none => rw [hq] at h1; exact h1.elim
        | some qt => rw [hq] at h1; exact ⟨q, qt, rfl, hq, h1⟩
    · rw [if_neg e] at h; exact fitRoots_get h2 h

theorem own_flat_k {t : Ty} {k k' : Nat} {x : t.den} {ct : CT} {cs : List Value} {F : Nat → Prop} (h : t.flat = true) (H : Own w S t k x none ct cs F) : Own w S t k' x none ct cs F := by
  induction t generalizing ct cs F with
  | int | bool | str | raw => exact H
  | fn f t _ => simp [Ty.flat] at h
  | row f t _ => simp [Ty.flat] at h
  | list e t _ => simp [Ty.flat] at h
  | prod a b iha ihb =>
    simp only [Ty.flat, Bool.and_eq_true] at h
    rcases H with H | ⟨h0, H⟩
    · exact .inl H
    · cases ct with
      | pair c d =>
        obtain ⟨c1, c2, F1, F2, h1, g1, g2, g3, g4⟩ := H
        exact .inr ⟨h0, c1, c2, F1, F2, h1, g1, g2, iha h.1 g3, ihb h.2 g4⟩
      | nil => exact H.elim
      | leaf => exact H.elim
      | node => exact H.elim

theorem fitRT_own {qt rt : RT} (h : fitRT qt rt) {ct : CT} {v : Value} {F : Nat → Prop} (H : Own w S qt.ty (qt.k + 1) qt.x qt.h ct [v] F) :
    Own w S rt.ty (rt.k + 1) rt.x rt.h ct [v] F ∧ (qt.at []).len = (rt.at []).len := by
  obtain ⟨e, t, k, x, hh⟩ := qt
  obtain ⟨e', t', k', x', hh'⟩ := rt
  obtain ⟨h1, h2, h3, h4, h5⟩ := h
  simp only at h1 h2 h3 h4 h5 H ⊢
  subst h1 h2 h3
  unfold fitD at h4
  split at h4
  · rename_i e1
    cases e1
    simp only at h4
    subst h4
    refine ⟨?_, rfl⟩
    rcases h5 with h5 | h5 | h5
    · rcases own_inv H with ⟨rfl, hx, hv, hF⟩ | ⟨b, cap, kids, arr, Fs, rfl, hv, q2, q3, h4, h5', g1, g2, g3, g4⟩
      · exact .inr ⟨by simp, hx, hv, hF⟩
      · exact .inr ⟨by simp, hv, q2, q3, arr, h4, h5', Fs, g1, g2, g3, fun i hi => by simpa using own_flat_k h5 (g4 i hi)⟩
    · rw [← h5]; exact H
    · subst h5; exact own_relabel _ H
  · exact h4.elim

theorem fitRT_eq {qt rt : RT} (h : fitRT qt rt) : rt = { qt with k := rt.k } := by
  obtain ⟨e, t, k, x, hh⟩ := qt
  obtain ⟨e', t', k', x', hh'⟩ := rt
  obtain ⟨h1, h2, h3, h4, h5⟩ := h
  simp only at h1 h2 h3 h4
  subst h1 h2 h3
  unfold fitD at h4
  split at h4
  · rename_i e1
    cases e1
    simp only at h4
    subst h4
    rfl
  · exact h4.elim

theorem fitD_eq {t t' : Ty} {x : t.den} {y : t'.den} (h : fitD t t' x y) : AV.dat t x = AV.dat t' y := by
  unfold fitD at h
  split at h
  · rename_i e; subst e; simp only at h; rw [h]
  · exact h.elim

theorem lk_idsOK {st : XS} (h : idsOK st = true) : (∀ i av, st.get i = some av → (∀ l, av ≠ .tup l) ∧ (∀ l, av ≠ .agg l) ∧ ∀ r ∈ av.ids, r < st.nxt) ∧ ∀ r rt, st.root r = some rt → r < st.nxt := by
  simp only [idsOK, Bool.and_eq_true, List.all_eq_true] at h
  refine ⟨fun i av hi => ?_, fun r rt hr => by simpa using h.2 _ (lk_mem hr)⟩
  have := h.1 _ (lk_mem hi)
  cases av <;> simp_all

theorem Rel.fits (R : Rel w0 S0 N false noPins s a w) {st : XS} {ren : List (Nat × Nat)} (h : Fits ren s st) : Rel w0 S0 N false noPins st a w := by
  obtain ⟨S, pl, R⟩ := R
  obtain ⟨hd, hi, he, hr⟩ := h
  obtain ⟨i1, i2⟩ := lk_idsOK hi
  let pl' : Nat → PL := fun r => match lk ren r with | some q => pl q | none => pl 0
  have hroot : ∀ r rt, st.root r = some rt → ∃ q qt, lk ren r = some q ∧ s.root q = some qt ∧ fitRT qt rt ∧ pl' r = pl q := fun r rt h => by
    obtain ⟨q, qt, h1, h2, h3⟩ := fitRoots_get hr h
    exact ⟨q, qt, h1, h2, h3, by simp only [pl', h1]⟩
  refine ⟨S, pl', { defers := R.defers, size := R.size, os := R.os, tape := R.tape, output := R.output, grow := R.grow, stay := R.stay, base := R.base, lt := R.lt, own := ?_, Flt := ?_, disj := ?_, ids := i2, env := ?_, pins := (fun h => by cases h), news := ?_ }⟩
  rotate_right
  · intro i b f h
    obtain ⟨u, hu, hf⟩ := fitEnv_get he h
    cases u with
    | mp b' f' =>
      obtain ⟨rfl, rfl⟩ := hf
      exact R.news i _ _ hu
    | _ => exact hf.elim
  · intro r rt h
    obtain ⟨q, qt, h1, h2, h3, h4⟩ := hroot r rt h
    obtain ⟨hv, H⟩ := R.own q qt h2
    rw [h4]
    exact ⟨hv, (fitRT_own h3 H).1⟩
  · intro r rt b h hb
    obtain ⟨q, qt, h1, h2, h3, h4⟩ := hroot r rt h
    rw [h4] at hb
    exact R.Flt q qt b h2 hb
  · intro r r' rt rt' b h h' hb hb'
    obtain ⟨q, qt, h1, h2, h3, h4⟩ := hroot r rt h
    obtain ⟨q', qt', h1', h2', h3', h4'⟩ := hroot r' rt' h'
    rw [h4] at hb
    rw [h4'] at hb'
    have := R.disj q q' qt qt' b h2 h2' hb hb'
    subst this
    exact distinct_ren hd h1 h1'
  · intro i av h
    obtain ⟨t1, t2, t3⟩ := i1 i av h
    obtain ⟨u, hu, hf⟩ := fitEnv_get he h
    have hlt : av.lt st.nxt := by cases av <;> first | exact t3 | exact absurd rfl (t1 _) | exact absurd rfl (t2 _)
    refine ⟨?_, hlt⟩
    have hx := (R.env i u hu).1
    have name : ∀ r q qt rt, lk ren r = some q → lk st.rts r = some rt → (∀ q' qt', lk ren r = some q' → s.root q' = some qt' → fitRT qt' rt → q' = q → qt = qt' → True) → True := fun _ _ _ _ _ _ _ => trivial
    cases av with
    | junk => trivial
    | tup l => exact absurd rfl (t1 l)
    | agg l => exact absurd rfl (t2 l)
    | dat t y =>
      cases u with
      | dat t' x => simp only [fitB] at hf; rw [fitD_eq hf] at hx; exact hx
      | _ => exact hf.elim
    | mp b f =>
      cases u with
      | mp b' f' =>
        obtain ⟨rfl, rfl⟩ := hf
        exact hx
      | _ => exact hf.elim
    | ref r' p' =>
      cases u with
      | ref r p =>
        obtain ⟨f1, rfl⟩ := hf
        intro rt hrt
        obtain ⟨q, qt, h1, h2, h3, h4⟩ := hroot r' rt hrt
        rw [f1] at h1
        cases h1
        rw [h4, fitRT_eq h3]
        exact hx qt h2
      | _ => exact hf.elim
    | sub r' p' lo' hi' =>
      cases u with
      | sub r p lo hi =>
        obtain ⟨f1, rfl, rfl, rfl⟩ := hf
        intro rt hrt
        obtain ⟨q, qt, h1, h2, h3, h4⟩ := hroot r' rt hrt
        rw [f1] at h1
        cases h1
        rw [h4, fitRT_eq h3]
        exact hx qt h2
      | _ => exact hf.elim
    | ptr r' p' =>
      cases u with
      | ptr r p =>
        obtain ⟨f1, rfl⟩ := hf
        intro rt hrt
        obtain ⟨q, qt, h1, h2, h3, h4⟩ := hroot r' rt hrt
        rw [f1] at h1
        cases h1
        rw [h4, fitRT_eq h3]
        exact hx qt h2
      | _ => exact hf.elim
    | rptr t y =>
      cases u with
      | rptr t' x =>
        simp only [fitB] at hf
        have e : AV.rptr t' x = AV.rptr t y := by
          unfold fitD at hf
          split at hf
          · rename_i e; subst e; simp only at hf; rw [hf]
          · exact hf.elim
        rw [e] at hx; exact hx
      | _ => exact hf.elim
    | one r' =>
      cases u with
      | one r =>
        have f1 : lk ren r' = some r := hf
        intro rt hrt
        obtain ⟨q, qt, h1, h2, h3, h4⟩ := hroot r' rt hrt
        rw [f1] at h1
        cases h1
        rw [h4, fitRT_eq h3]
        exact hx qt h2
      | _ => exact hf.elim
    | loc r' b' =>
      cases u with
      | loc r b =>
        obtain ⟨f1, rfl⟩ := hf
        intro rt hrt
        obtain ⟨q, qt, h1, h2, h3, h4⟩ := hroot r' rt hrt
        rw [f1] at h1
        cases h1
        rw [h4, fitRT_eq h3]
        exact hx qt h2
      | _ => exact hf.elim
    | clo f c =>
      cases u with
      | clo f' c0 =>
        obtain ⟨rfl, hl⟩ := hf
        obtain ⟨l1, l2⟩ := fitL_get hl
        obtain ⟨vs, e1, e2, e3⟩ := hx
        refine ⟨vs, e1, e2.trans l1, fun i r rt v hc hrt hv => ?_⟩
        obtain ⟨q0, g1, g2⟩ := l2 i r hc
        obtain ⟨q, qt, h1, h2, h3, h4⟩ := hroot r rt hrt
        rw [g2] at h1
        cases h1
        rw [h4, fitRT_eq h3]
        exact e3 i q0 qt v g1 h2 hv
      | _ => exact hf.elim

/-! ### Control -/

theorem least {p : Nat → Prop} (h : ∃ n, p n) : ∃ n, p n ∧ ∀ m, p m → n ≤ m := by
  obtain ⟨n, hn⟩ := h
  induction n using Nat.strongRecOn with
  | _ n ih =>
    by_cases hx : ∃ m, m < n ∧ p m
    · obtain ⟨m, h1, h2⟩ := hx; exact ih m h1 h2
    · exact ⟨n, hn, fun m hm => Nat.le_of_not_lt fun hlt => hx ⟨m, hlt, hm⟩⟩


def XW (P : Program) (C : Ctx) (w0 : World) (S0 : Nat → Prop) (c : Code) (Q : Exit → XS → Prop) (s : XS) : Prop :=
  ∀ a w, Rel w0 S0 C.n false noPins s a w → c.wp P (fun e a' w' => ∃ s', Q e s' ∧ Rel w0 S0 C.n false noPins s' a' w') a w

variable {Q : Exit → XS → Prop} {x y : Code}

def XW.thn (K : XS → Prop) (Q : Exit → XS → Prop) : Exit → XS → Prop
  | .normal, s => K s
  | e, s => Q e s

theorem XW.skip (h : Q .normal s) : XW P C w0 S0 .skip Q s := fun _ _ R => wp_skip ⟨s, h, R⟩
theorem XW.exit {id : Nat} (h : Q (.exit id) s) : XW P C w0 S0 (.exit id) Q s := fun _ _ R => wp_exit ⟨s, h, R⟩
theorem XW.ret (h : Q .ret s) : XW P C w0 S0 .ret Q s := fun _ _ R => wp_ret ⟨s, h, R⟩
theorem XW.seq (h : XW P C w0 S0 x (XW.thn (fun s => XW P C w0 S0 y Q s) Q) s) : XW P C w0 S0 (.seq x y) Q s := fun a w R =>
  wp_seq (Go.wp_mono (h a w R) fun e a' w' hh => by
    obtain ⟨s', h1, h2⟩ := hh
    cases e <;> first | exact h1 a' w' h2 | exact ⟨s', h1, h2⟩)
theorem XW.cond {c : Operand} {t : Bool} (hc : s.ev c = some (.dat .bool t)) (h1 : t = true → XW P C w0 S0 x Q s) (h2 : t = false → XW P C w0 S0 y Q s) : XW P C w0 S0 (.cond c x y) Q s := fun a w R => by
  have : a.eval c = .bool t := by obtain ⟨S, pl, R'⟩ := R; exact AVR.bool (R'.ev hc).1
  exact wp_cond_split this (fun e => h1 e a w R) (fun e => h2 (by simpa using e) a w R)
def XW.blk (id : Nat) (Q : Exit → XS → Prop) : Exit → XS → Prop
  | .exit j, s => if j = id then Q .normal s else Q (.exit j) s
  | e, s => Q e s
theorem XW.block {id : Nat} (h : XW P C w0 S0 x (XW.blk id Q) s) : XW P C w0 S0 (.block id x) Q s := fun a w R =>
  wp_block (Go.wp_mono (h a w R) fun e a' w' hh => by
    obtain ⟨s', h1, h2⟩ := hh
    cases e with
    | exit j =>
      simp only [XW.blk] at h1
      simp only [Exit.inBlock]
      split
      · rename_i e; rw [if_pos e] at h1; exact ⟨s', h1, h2⟩
      · rename_i e; rw [if_neg e] at h1; exact ⟨s', h1, h2⟩
    | _ => exact ⟨s', h1, h2⟩)
theorem XW.region (hC : CtxOK P C) {id : Nat} {ops : Array Oper} (h : ∀ K : XS → Prop, (∀ s, Q .normal s → K s) → xrun C ops K 0 ops.toList s) : XW P C w0 S0 (.region id ops false) Q s := fun a w R =>
  wp_region_list (xrun_ok hC (K := fun s => Q .normal s) (fun s pc a w hK ⟨S, pl, R⟩ => ⟨s, hK, S, pl, { R with pins := (fun h => by cases h) }⟩) ops.toList 0 s noPins a w (h _ fun _ h => h) R)
theorem XW.draw (hC : CtxOK P C) (hm : P.follows .mixedOrders = true) {id : Nat} {ops : Array Oper} (l : List Nat) (hB : ordOK ops l = true) (h : ∀ K : XS → Prop, (∀ s, Q .normal s → K s) → xord C ops K l s) : XW P C w0 S0 (.region id ops true) Q s := fun a w R => by
  refine wp_region_ord l hm hB (xord_ok hC (Q := fun a w => ∃ s', Q .normal s' ∧ Rel w0 S0 C.n false noPins s' a w) (K := fun s => Q .normal s) (fun s a w hK R => ⟨s, hK, R⟩) l s noPins a _ (h _ fun _ h => h) ?_)
  obtain ⟨S, pl, R⟩ := R
  have R' := R.grown (Grew.drew w)
  exact ⟨S, pl, { R' with pins := (fun _ i b h => h.elim) }⟩
theorem XW.text (hC : CtxOK P C) (hm : P.follows .mixedOrders = true) {id : Nat} {ops : Array Oper} (hB : ordOK ops (List.range' 0 ops.toList.length) = true) (h : ∀ K : XS → Prop, (∀ s, Q .normal s → K s) → xtxt C ops K 0 ops.toList s) : XW P C w0 S0 (.region id ops true) Q s :=
  XW.draw hC hm _ hB fun K hK => by
    have := h K hK
    rwa [xtxt_ord ops.toList 0 fun j _ => by simp] at this
theorem XW.fits {ren : List (Nat × Nat)} {st : XS} (hf : Fits ren s st) (h : XW P C w0 S0 x Q st) : XW P C w0 S0 x Q s := fun a w R => h a w (R.fits hf)

theorem XW.loop {ι : Type} (st : ι → XS) (I : ι → Prop) (μ : ι → Nat) (i0 : ι) (ren : List (Nat × Nat)) (h0 : I i0) (hf : Fits ren s (st i0))
    (h : ∀ i, I i → XW P C w0 S0 x (XW.thn (fun s' => ∃ i' ren, I i' ∧ μ i' < μ i ∧ Fits ren s' (st i')) Q) (st i)) : XW P C w0 S0 (.loop x) Q s := fun a w R => by
  classical
  let J : Act → World → Prop := fun a w => ∃ i, I i ∧ Rel w0 S0 C.n false noPins (st i) a w
  let G : Act → World → Nat → Prop := fun a w n => ∃ i, I i ∧ Rel w0 S0 C.n false noPins (st i) a w ∧ μ i = n
  have hG : ∀ a w, J a w → ∃ n, G a w n := fun a w ⟨i, h1, h2⟩ => ⟨μ i, i, h1, h2, rfl⟩
  let m : Act → World → Nat := fun a w => if h : ∃ n, G a w n then (least h).choose else 0
  refine wp_loop J m ⟨i0, h0, R.fits hf⟩ fun a w hJ => ?_
  have hex := hG a w hJ
  have hm : m a w = (least hex).choose := by simp only [m]; rw [dif_pos hex]
  obtain ⟨i, h1, h2, h3⟩ := (least hex).choose_spec.1
  refine Go.wp_mono (h i h1 a w h2) fun e a' w' hh => ?_
  obtain ⟨s', q1, q2⟩ := hh
  cases e with
  | normal =>
    obtain ⟨i', ren', r1, r2, r3⟩ := q1
    have R' := q2.fits r3
    refine ⟨⟨i', r1, R'⟩, ?_⟩
    have hex' : ∃ n, G a' w' n := ⟨μ i', i', r1, R', rfl⟩
    have : m a' w' = (least hex').choose := by simp only [m]; rw [dif_pos hex']
    rw [this, hm, ← h3]
    exact Nat.lt_of_le_of_lt ((least hex').choose_spec.2 _ ⟨i', r1, R', rfl⟩) r2
  | _ => exact ⟨s', q1, q2⟩

/-- Ways that meet. -/
theorem XW.cut {c : Code} {ι : Type} (st : ι → XS) (I : ι → Prop) (h : ∀ x, I x → XW P C w0 S0 c Q (st x)) : ∀ s, (∃ x ren, I x ∧ Fits ren s (st x)) → XW P C w0 S0 c Q s := fun _ ⟨x, _, h1, h2⟩ => XW.fits h2 (h x h1)

end

/-- What stands behind so many steps. -/
def tl : Nat → Code → Code
  | 0, c => c
  | n + 1, .seq _ b => tl n b
  | _, c => c

end Fer

/- A region in another order: operations that look at no memory go ahead of others. Over any program. -/
namespace Fer
open Go

section
variable {P : Program} {C : Ctx} {w0 : World} {S0 : Nat → Prop} {s : XS} {ops : Array Oper}

theorem xord_cons {K : XS → Prop} {i : Nat} {o : Oper} {l : List Nat} (ho : ops[i]? = some o) (h : xoper C true ops o i (xord C ops K l) s) : xord C ops K (i :: l) s := by
  simp only [xord, ho]; exact h
theorem xord_nil {K : XS → Prop} (h : K { s with pins := [] }) : xord C ops K [] s := h

end
end Fer

/- A drawn region in which operations that change memory come in several orders: a tree of orders, each walked. Over any program. -/
namespace Fer
open Go

inductive OT where
  | nil : OT
  | one : Nat → OT → OT
  | two : Nat → OT → Nat → OT → OT

def OT.len : OT → Nat
  | .nil => 0
  | .one _ t => t.len + 1
  | .two _ t _ _ => t.len + 1

def OT.ok (ops : Array Oper) : OT → Array Bool → Bool
  | .nil, listed => (Region.ready .any ops listed).isEmpty
  | .one k t, listed => (((Region.ready .any ops listed).contains k && freeX ops listed k) || Region.ready .any ops listed == [k]) && t.ok ops (listed.setIfInBounds k true)
  | .two i t j u, listed => (Region.ready .any ops listed).all (fun k => k == i || k == j) && !(Region.ready .any ops listed).isEmpty && t.len == u.len && t.ok ops (listed.setIfInBounds i true) && u.ok ops (listed.setIfInBounds j true)

def otOK (ops : Array Oper) (t : OT) : Bool := Region.noSelect ops && t.len == ops.size && t.ok ops (Array.replicate ops.size false)

def wpTree (P : Program) (ops : Array Oper) (Q : Pins → Act → World → Prop) : OT → Pins → Act → World → Prop
  | .nil, pins, a, w => Q pins a w
  | .one i t, pins, a, w => match ops[i]? with
    | none => False
    | some o => kOper P ops o i pins a w (wpTree P ops Q t)
  | .two i t j u, pins, a, w => (match ops[i]? with
    | none => False
    | some o => kOper P ops o i pins a w (wpTree P ops Q t)) ∧ (match ops[j]? with
    | none => False
    | some o => kOper P ops o j pins a w (wpTree P ops Q u))

def xtree (C : Ctx) (ops : Array Oper) (K : XS → Prop) : OT → XS → Prop
  | .nil, s => K { s with pins := [] }
  | .one i t, s => match ops[i]? with
    | some o => xoper C true ops o i (xtree C ops K t) s
    | none => False
  | .two i t j u, s => (match ops[i]? with
    | some o => xoper C true ops o i (xtree C ops K t) s
    | none => False) ∧ (match ops[j]? with
    | some o => xoper C true ops o j (xtree C ops K u) s
    | none => False)

section
variable {P : Program} {C : Ctx} {w0 : World} {S0 : Nat → Prop} {s : XS} {ops : Array Oper}

theorem anyX_tree {Q : Pins → Act → World → Prop} (hs : Region.noSelect ops = true) : ∀ (t : OT) (listed : Array Bool) (pins : Pins) (a : Act) (w : World),
    t.ok ops listed = true → wpTree P ops Q t pins a w → wpAnyX P ops Q t.len listed pins a w
  | .nil, _, _, _, _, hB, h => ⟨by simpa [OT.ok] using hB, h⟩
  | .one k t, listed, pins, a, w, hB, h => by
    simp only [OT.ok, Bool.and_eq_true, Bool.or_eq_true, beq_iff_eq] at hB
    obtain ⟨hrf, hB'⟩ := hB
    simp only [wpTree] at h
    cases h0 : ops[k]? with
    | none => rw [h0] at h; exact h.elim
    | some o =>
      rw [h0] at h
      rcases hrf with ⟨hr, hf⟩ | hr
      case inr =>
        refine ⟨fun h1 => (by rw [h1] at hr; cases hr), fun j hj => ?_⟩
        rw [hr, List.mem_singleton] at hj
        subst hj
        unfold kOp
        rw [h0]
        exact kOper_mono (fun p a' w' h' => anyX_tree hs t _ p a' w' hB' h') h
      refine anyX_first h0 (Region.noSelect_spec hs) t.len listed pins a w (freeX_spec h0 hf) (by simpa using hr) ?_
      exact kOper_mono (fun p a' w' h' => anyX_tree hs t _ p a' w' hB' h') h
  | .two i t j u, listed, pins, a, w, hB, h => by
    simp only [OT.ok, Bool.and_eq_true, List.all_eq_true, Bool.or_eq_true, beq_iff_eq, Bool.not_eq_true'] at hB
    obtain ⟨⟨⟨⟨hr, hne⟩, hl⟩, hB1⟩, hB2⟩ := hB
    simp only [wpTree] at h
    refine ⟨fun h0 => (by rw [h0] at hne; cases hne), fun k hk => ?_⟩
    rcases hr k hk with rfl | rfl
    · have h := h.1
      unfold kOp
      cases h0 : ops[k]? with
      | none => rw [h0] at h; exact h.elim
      | some o => rw [h0] at h; exact kOper_mono (fun p a' w' h' => anyX_tree hs t _ p a' w' hB1 h') h
    · have h := h.2
      unfold kOp
      cases h0 : ops[k]? with
      | none => rw [h0] at h; exact h.elim
      | some o =>
        rw [h0] at h
        refine kOper_mono (fun p a' w' h' => ?_) h
        have := anyX_tree hs u _ p a' w' hB2 h'
        rwa [← hl] at this

theorem wp_region_tree {id : Nat} {Q : Exit → Act → World → Prop} {a : Act} {w : World} (t : OT) (hm : P.follows .mixedOrders = true) (hB : otOK ops t = true)
    (h : wpTree P ops (fun _ a' w' => Q .normal a' w') t noPins a { w with drawn := w.drawn + 1 }) : (Code.region id ops true).wp P Q a w := by
  simp only [otOK, Bool.and_eq_true, beq_iff_eq] at hB
  refine wp_region_any hm (wpAny_of_X (Q := fun _ a' w' => Q .normal a' w') (fun _ _ _ h => h) _ _ noPins _ _ ?_)
  have := anyX_tree hB.1.1 t (Array.replicate ops.size false) noPins a { w with drawn := w.drawn + 1 } hB.2 h
  rwa [hB.1.2] at this

theorem xoper_ok (hC : CtxOK P C) {o : Oper} {i : Nat} {K : XS → Prop} {K' : Pins → Act → World → Prop} {pc : Pins} {a : Act} {w : World}
    (hK : ∀ s pc a w, K s → Rel w0 S0 C.n true pc s a w → K' pc a w) (h : xoper C true ops o i K s) (R : Rel w0 S0 C.n true pc s a w) : kOper P ops o i pc a w K' := by
  obtain ⟨S, pl, R⟩ := R
  obtain ⟨hd, h⟩ := h
  have hd := dOK_lt hd
  simp only [kOper]
  split at h
  · exact h.elim
  · rename_i b hb
    rw [xwant_ok R hb]
    cases b with
    | true =>
      simp only [if_true]
      have := xdo_ok hC (R.known hb) hd h
      exact Out.k (this.mono fun pc' a' w' hh => by
        obtain ⟨s', h1, h2⟩ := hh
        exact hK s' pc' a' w' h1 h2)
    | false =>
      simp only [Bool.false_eq_true, if_false]
      exact hK _ pc _ w h ⟨S, pl, (R.known hb).skip hd⟩

theorem xtree_ok (hC : CtxOK P C) {K : XS → Prop} {Q : Act → World → Prop} (hK : ∀ s a w, K s → Rel w0 S0 C.n false noPins s a w → Q a w) :
    ∀ (t : OT) (s : XS) (pc : Pins) (a : Act) (w : World), xtree C ops K t s → Rel w0 S0 C.n true pc s a w → wpTree P ops (fun _ a w => Q a w) t pc a w
  | .nil, s, pc, a, w, h, ⟨S, pl, R⟩ => hK _ a w h ⟨S, pl, { R with pins := (fun h => by cases h) }⟩
  | .one i t, s, pc, a, w, h, R => by
    simp only [xtree] at h
    simp only [wpTree]
    cases ho : ops[i]? with
    | none => rw [ho] at h; exact h.elim
    | some o =>
      rw [ho] at h
      exact xoper_ok hC (fun s' pc' a' w' h1 h2 => xtree_ok hC hK t s' pc' a' w' h1 h2) h R
  | .two i t j u, s, pc, a, w, h, R => by
    simp only [xtree] at h
    simp only [wpTree]
    constructor
    · have h := h.1
      cases ho : ops[i]? with
      | none => rw [ho] at h; exact h.elim
      | some o =>
        rw [ho] at h
        exact xoper_ok hC (fun s' pc' a' w' h1 h2 => xtree_ok hC hK t s' pc' a' w' h1 h2) h R
    · have h := h.2
      cases ho : ops[j]? with
      | none => rw [ho] at h; exact h.elim
      | some o =>
        rw [ho] at h
        exact xoper_ok hC (fun s' pc' a' w' h1 h2 => xtree_ok hC hK u s' pc' a' w' h1 h2) h R

theorem xtree_nil {K : XS → Prop} (h : K { s with pins := [] }) : xtree C ops K .nil s := h
theorem xtree_one {K : XS → Prop} {i : Nat} {o : Oper} {t : OT} (ho : ops[i]? = some o) (h : xoper C true ops o i (xtree C ops K t) s) : xtree C ops K (.one i t) s := by
  simp only [xtree, ho]; exact h
theorem xtree_two {K : XS → Prop} {i j : Nat} {t u : OT} (h1 : xtree C ops K (.one i t) s) (h2 : xtree C ops K (.one j u) s) : xtree C ops K (.two i t j u) s := ⟨h1, h2⟩

theorem XW.tree {Q : Exit → XS → Prop} (hC : CtxOK P C) (hm : P.follows .mixedOrders = true) {id : Nat} (t : OT) (hB : otOK ops t = true) (h : ∀ K : XS → Prop, (∀ s, Q .normal s → K s) → xtree C ops K t s) : XW P C w0 S0 (.region id ops true) Q s := fun a w R => by
  refine wp_region_tree t hm hB (xtree_ok hC (Q := fun a w => ∃ s', Q .normal s' ∧ Rel w0 S0 C.n false noPins s' a w) (K := fun s => Q .normal s) (fun s a w hK R => ⟨s, hK, R⟩) t s noPins a _ (h _ fun _ h => h) ?_)
  obtain ⟨S, pl, R⟩ := R
  have R' := R.grown (Grew.drew w)
  exact ⟨S, pl, { R' with pins := (fun _ i b h => h.elim) }⟩

end
end Fer

/- Functions keep their contracts: what there is to show. Over any program. -/
namespace Fer
open Go

theorem RO.flat {w w' : World} {S S' : Nat → Prop} : ∀ {t : Ty} {x : t.den} {cs : List Value}, t.flat = true → RO w S t x cs → RO w' S' t x cs
  | .int _, _, _, _, h | .bool, _, _, _, h | .str, _, _, _, h | .raw, _, _, _, h => h
  | .list _ _, _, _, h, _ => by simp [Ty.flat] at h
  | .fn _ _, _, _, h, _ => by simp [Ty.flat] at h
  | .row _ _, _, _, h, _ => by simp [Ty.flat] at h
  | .prod a b, x, cs, hf, h => by
    simp only [Ty.flat, Bool.and_eq_true] at hf
    obtain ⟨c1, c2, rfl, h1, h2⟩ := h
    exact ⟨c1, c2, rfl, h1.flat hf.1, h2.flat hf.2⟩

/-- What is owned throughout is owned, whatever stands. -/
theorem own_full {w : World} {S S' : Nat → Prop} : ∀ {t : Ty} {k k' : Nat} {x : t.den} {ct : CT} {cs : List Value} {F : Nat → Prop}, t.lev ≤ k → t.lev ≤ k' → Own w S t k x none ct cs F → Own w S' t k' x none ct cs F
  | .int _, _, _, _, _, _, _, _, _, H | .bool, _, _, _, _, _, _, _, _, H | .str, _, _, _, _, _, _, _, _, H | .raw, _, _, _, _, _, _, _, _, H => H
  | .fn _ _, k, k', _, _, _, _, h, _, H | .row _ _, k, k', _, _, _, _, h, _, H => by
    simp only [Ty.lev] at h
    rcases H.2 with q | q
    · cases q.1
    · have := q.2.1; omega
  | .list e t, k, k', l, ct, cs, F, h, h', H => by
    simp only [Ty.lev] at h h'
    obtain ⟨k, rfl⟩ : ∃ j, k = j + 1 := ⟨k - 1, by omega⟩
    obtain ⟨k', rfl⟩ : ∃ j, k' = j + 1 := ⟨k' - 1, by omega⟩
    rcases own_inv H with ⟨rfl, rfl, hv, hF⟩ | ⟨b, cap, kids, arr, Fs, rfl, hv, q2, q3, h4, h5', g1, g2, g3, g4⟩
    · exact .inr ⟨by simp, rfl, hv, hF⟩
    · exact .inr ⟨by simp, hv, q2, q3, arr, h4, h5', Fs, g1, g2, g3, fun i hi => by simpa using own_full (by omega) (by omega) (g4 i hi)⟩
  | .prod a b, k, k', x, ct, cs, F, h, h', H => by
    simp only [Ty.lev] at h h'
    rcases H with H | ⟨h0, H⟩
    · exact .inl H
    · cases ct with
      | pair c d =>
        obtain ⟨c1, c2, F1, F2, h1, g1, g2, g3, g4⟩ := H
        exact .inr ⟨h0, c1, c2, F1, F2, h1, g1, g2, own_full (by omega) (by omega) g3, own_full (by omega) (by omega) g4⟩
      | nil => exact H.elim
      | leaf => exact H.elim
      | node => exact H.elim

def outOf (s : XS) (t : Nat) : Option (Option Nat × TV) :=
  match s.get t with
  | some (.dat ty x) => if ty.flat = true then some (none, ⟨ty, x⟩) else none
  | some (.ref r []) => match s.root r with
    | some rt => if rt.h = none ∧ (rt.t.lev ≤ rt.k ∨ rt.x = []) then some (some r, ⟨rt.ty, rt.x⟩) else none
    | none => none
  | _ => none

def outsOf (s : XS) : List Nat → Option (List Nat × List TV)
  | [] => some ([], [])
  | t :: l => match outOf s t, outsOf s l with
    | some (none, v), some (rs, vs) => some (rs, v :: vs)
    | some (some r, v), some (rs, vs) => if rs.contains r = true then none else some (r :: rs, v :: vs)
    | _, _ => none

/-- What a body is to come to: results that the contract's end takes. -/
def retK (slots : List Nat) (K : List TV → Prop) : Exit → XS → Prop
  | .ret, s | .normal, s => match outsOf s slots with
    | some (_, vs) => K vs
    | none => False
  | _, _ => False

def env0 : Nat → List TV → List (Nat × AV)
  | _, [] => []
  | n, v :: l => (n, .dat v.t v.x) :: env0 (n + 1) l

def XS.init (args : List TV) : XS := ⟨env0 0 args, [], 0, []⟩

section
variable {P : Program} {C : Ctx} {w0 : World} {S0 : Nat → Prop} {N : Nat} {s : XS} {a : Act} {w w' : World} {S : Nat → Prop} {pl : Nat → PL}

theorem outsOf_ok (R : RelAt w0 S0 N false noPins s a w S pl) : ∀ (ts : List Nat) (rs : List Nat) (vs : List TV), outsOf s ts = some (rs, vs) →
    ∃ F, Rets S0 w vs (ts.map fun t => a.tmps.getD t undef) F ∧ ∀ n, F n → ∃ r rt, r ∈ rs ∧ s.root r = some rt ∧ (pl r).F n
  | [], rs, vs, h => by
    simp only [outsOf, Option.some.injEq, Prod.mk.injEq] at h
    obtain ⟨rfl, rfl⟩ := h
    exact ⟨noF, .nil, fun _ h => h.elim⟩
  | t :: ts, rs, vs, h => by
    simp only [outsOf] at h
    split at h
    · rename_i v rs' vs' h1 h2
      simp only [Option.some.injEq, Prod.mk.injEq] at h
      obtain ⟨rfl, rfl⟩ := h
      obtain ⟨F, hR, hF⟩ := outsOf_ok R ts _ _ h2
      refine ⟨_, .cons (F := noF) ?_ hR (fun _ h => h.elim), fun n hn => hn.elim (fun h => h.elim) (hF n)⟩
      unfold outOf at h1
      split at h1
      · rename_i ty x hg
        split at h1
        · rename_i hfl
          simp only [Option.some.injEq, Prod.mk.injEq, true_and] at h1
          subst h1
          obtain ⟨cs, e1, e2⟩ := (R.env t _ hg).1
          refine ⟨fun _ h => h.elim, ?_⟩
          cases ty with
          | list => simp [Ty.flat] at hfl
          | _ => exact ⟨fun _ h => h, cs, e1, e2.flat hfl⟩
        · cases h1
      · split at h1
        · split at h1
          · simp at h1
          · cases h1
        · cases h1
      · cases h1
    · rename_i r v rs' vs' h1 h2
      split at h
      · cases h
      · rename_i hnc
        simp only [Option.some.injEq, Prod.mk.injEq] at h
        obtain ⟨rfl, rfl⟩ := h
        obtain ⟨F, hR, hF⟩ := outsOf_ok R ts _ _ h2
        unfold outOf at h1
        split at h1
        · split at h1
          · simp at h1
          · cases h1
        · rename_i r' hg
          cases hr : s.root r' with
          | none => rw [hr] at h1; cases h1
          | some rt =>
            rw [hr] at h1
            simp only at h1
            split at h1
            · rename_i hc
              simp only [Option.some.injEq, Prod.mk.injEq] at h1
              obtain ⟨rfl, rfl⟩ := h1
              obtain ⟨hv, H⟩ := R.own r' rt hr
              rw [hc.1] at H
              have hvv : a.tmps.getD t undef = hv := by
                have h1 : a.tmps.getD t undef = hdr (atCT [] rt.ty (pl r').ct) (rt.at []).len := (R.env t _ hg).1 rt hr
                rw [h1]; exact (H.hdr (by simp)).1.symm
              have hO : Own w noS rt.ty (rt.t.lev + 1) rt.x none (pl r').ct [hv] (pl r').F := by
                rcases hc.2 with hk | hx
                · exact own_full (by simp only [Ty.lev]; omega) (by simp only [Ty.lev]; omega) H
                · obtain ⟨e, t, k, x, hh⟩ := rt
                  simp only at hx
                  subst hx
                  have H1 := own_relabel t.lev H
                  exact own_full (by simp only [Ty.lev]; omega) (by simp only [Ty.lev]; omega) H1
              refine ⟨_, .cons (F := (pl r').F) ⟨fun n hn => ⟨?_, (R.Flt r' rt n hr hn).1⟩, (pl r').ct, ?_⟩ hR (fun n hn hn' => ?_), fun n hn => ?_⟩
              · exact fun hlt => (R.Flt r' rt n hr hn).2 (R.base n hlt)
              · show Own w noS rt.ty (rt.t.lev + 1) rt.x none (pl r').ct [a.tmps.getD t undef] (pl r').F
                rw [hvv]; exact hO
              · obtain ⟨r2, rt2, q1, q2, q3⟩ := hF n hn'
                have := R.disj r' r2 rt rt2 n hr q2 hn q3
                subst this
                exact hnc (by simpa using q1)
              · rcases hn with hn | hn
                · exact ⟨r', rt, by simp, hr, hn⟩
                · obtain ⟨r2, rt2, q1, q2, q3⟩ := hF n hn
                  exact ⟨r2, rt2, by simp [q1], q2, q3⟩
            · cases h1
        · cases h1
    · cases h

theorem run_results {fn : Func} {ts : List Nat} (h : fn.results.toList = ts.map ResultVar.tmp) (tmps : Array Value) : (results fn tmps).run P w = .ok (valOf (ts.map fun t => tmps.getD t undef)) w := by
  have hm : ∀ ts : List Nat, (List.mapM (fun r : ResultVar => (match r with | .tmp t => pure (tmps.getD t undef) | .cell a t => do loadVar t (← asAddr (tmps.getD a undef)) : Sem Value)) (ts.map ResultVar.tmp)).run P w = .ok (ts.map fun t => tmps.getD t undef) w := by
    intro ts
    induction ts with
    | nil => simp
    | cons t ts ih =>
      rw [List.map_cons, List.mapM_cons, Sem.run_bind]
      simp only [Sem.run_pure, Result.andThen_ok, Sem.run_bind, ih, List.map_cons]
  have hr : fn.results = (ts.map ResultVar.tmp).toArray := by rw [← h, Array.toArray_toList]
  unfold results
  rw [hr]
  rw [List.mapM_toArray, Sem.run_bind, Sem.run_map]
  erw [hm ts]
  match ts with
  | [] => rfl
  | [t] => rfl
  | t :: t' :: ts => simp [valOf]

theorem env0_get : ∀ {l : List TV} {n i : Nat} {av : AV}, lk (env0 n l) i = some av → ∃ v, l[i - n]? = some v ∧ n ≤ i ∧ av = .dat v.t v.x
  | [], _, _, _, h => by cases h
  | v :: l, n, i, av, h => by
    simp only [env0, lk] at h
    by_cases e : n = i
    · subst e
      simp only [if_true, Option.some.injEq] at h
      subst h
      exact ⟨v, by simp, Nat.le_refl _, rfl⟩
    · rw [if_neg e] at h
      obtain ⟨v', h1, h2, h3⟩ := env0_get h
      exact ⟨v', by rw [show i - n = (i - (n + 1)) + 1 by omega]; simpa using h1, by omega, h3⟩

theorem args_get {ts : List Ty} {vs : List TV} {us : List Value} (h : Args w S ts vs us) : us.length = vs.length ∧ vs.map (·.t) = ts ∧ ∀ (i : Nat) (v : TV), vs[i]? = some v → ∃ u cs, us[i]? = some u ∧ u = pack v.t cs ∧ RO w S v.t v.x cs := by
  induction h with
  | nil => exact ⟨rfl, rfl, by simp⟩
  | cons h _ ih =>
    refine ⟨by simp [ih.1], by simp [ih.2.1], fun i v hv => ?_⟩
    cases i with
    | zero =>
      simp only [List.getElem?_cons_zero, Option.some.injEq] at hv
      subst hv
      exact ⟨_, _, by simp, rfl, h⟩
    | succ i =>
      simp only [List.getElem?_cons_succ] at hv ⊢
      exact ih.2.2 i v hv

/-- What there is to show of a function. -/
theorem FnOK_of (f : Nat) (fn : Func) (c : Code) (slots : List Nat) (sp : Spec) (hf : P.funcs[f]? = some fn) (hb : fn.body = some c) (hn : (fn.name == "runtime.NumGoroutine") = false) (hres : fn.results.toList = slots.map ResultVar.tmp)
    (hnt : fn.ntmps = C.n) (hps : sp.ps.length ≤ fn.ntmps)
    (h : ∀ (args : List TV) (K : List TV → Prop), args.map (·.t) = sp.ps → sp.wp args K → ∀ w0 : World, XW P C w0 (oldS w0) c (retK slots K) (XS.init args)) : FnOK P f sp := by
  refine ⟨⟨fn, hf, hn, by rw [hb]; rfl⟩, fun args K hK w vs hA => ?_⟩
  obtain ⟨l1, hts, hget⟩ := args_get hA
  have l2 : sp.ps.length = args.length := by rw [← hts]; simp
  refine calls_of_wp hf hb (Go.wp_mono (h args K hts hK w _ w ⟨oldS w, fun _ => ⟨.leaf, noF⟩, ?_⟩) fun e a' w' hh => ?_)
  · refine { defers := rfl, size := ?_, os := rfl, tape := rfl, output := SameOut.refl w, grow := Nat.le_refl _, stay := fun _ _ => rfl, base := fun _ h => h, lt := fun _ h => h, own := (fun _ _ h => by cases h), Flt := (fun _ _ _ h => by cases h), disj := (fun _ _ _ _ _ h => by cases h), ids := (fun _ _ h => by cases h), env := fun i av hi => ?_, pins := (fun h => by cases h), news := (fun i b f hi => by obtain ⟨_, _, _, h⟩ := env0_get hi; cases h) }
    · simp [l1, ← hnt]; omega
    · obtain ⟨v, h1, _, rfl⟩ := env0_get hi
      simp only [Nat.sub_zero] at h1
      obtain ⟨u, cs, h2, h3, h4⟩ := hget i v h1
      refine ⟨⟨cs, ?_, h4⟩, AV.lt_dat⟩
      have hlt : i < vs.length := (List.getElem?_eq_some_iff.1 h2).1
      rw [← h3]
      simp only [Array.getD_eq_getD_getElem?]
      rw [Array.getElem?_append_left (by simpa using hlt)]
      simp [h2]
  · obtain ⟨s', h1, S, pl, R⟩ := hh
    have g : Grew w w' := ⟨R.os, R.tape, R.output.ofOld, R.grow, R.stay⟩
    have fin : (match outsOf s' slots with | some (_, vs) => K vs | none => False) → a'.defers = [] ∧ ∃ v, (results fn a'.tmps).run P w' = .ok v w' ∧ Grew w w' ∧ ∃ outs us F, K outs ∧ v = valOf us ∧ Rets (oldS w) w' outs us F := by
      intro h1
      cases ho : outsOf s' slots with
      | none => rw [ho] at h1; exact h1.elim
      | some p =>
        obtain ⟨rs, vs'⟩ := p
        rw [ho] at h1
        obtain ⟨F, hR, _⟩ := outsOf_ok R slots rs vs' ho
        exact ⟨R.defers, _, run_results hres a'.tmps, g, vs', _, F, h1, rfl, hR⟩
    cases e with
    | normal => exact fin h1
    | ret => exact fin h1
    | exit => exact h1.elim
    | goto => exact h1.elim
    | panic => exact h1.elim
    | outgrown => exact h1.elim

/-- The state at the head of a function to which its first argument is given away. -/
def XS.initMv (e : Nat) (t : Ty) (x : List t.den) (args : List TV) : XS := ⟨(0, .ref 0 []) :: env0 1 args, [(0, ⟨e, t, t.lev, x, none⟩)], 1, []⟩

theorem FnMv_of (f : Nat) (fn : Func) (c : Code) (slots : List Nat) (sp : Spec) (hf : P.funcs[f]? = some fn) (hb : fn.body = some c) (hn : (fn.name == "runtime.NumGoroutine") = false) (hres : fn.results.toList = slots.map ResultVar.tmp)
    (hnt : fn.ntmps = C.n) (hps : sp.ps.length ≤ fn.ntmps)
    (h : ∀ (e : Nat) (t : Ty) (ts : List Ty) (x : List t.den) (args : List TV) (K : List TV → Prop), sp.ps = .list e t :: ts → args.map (·.t) = ts → sp.wp (⟨.list e t, x⟩ :: args) K → ∀ (w0 : World) (S0 : Nat → Prop), XW P C w0 S0 c (retK slots K) (XS.initMv e t x args)) : FnMv P f sp := by
  refine ⟨⟨fn, hf, hn, by rw [hb]; rfl⟩, fun e t ts x args K hsp hK w v0 vs ct F hO hF hA => ?_⟩
  obtain ⟨l1, hts, hget⟩ := args_get hA
  have l2 : ts.length = args.length := by rw [← hts]; simp
  have l3 : sp.ps.length = args.length + 1 := by rw [hsp]; simp [l2]
  refine calls_of_wp hf hb (Go.wp_mono (h e t ts x args K hsp hts hK w (butF w F) _ w ⟨butF w F, fun _ => ⟨ct, F⟩, ?_⟩) fun ex a' w' hh => ?_)
  · have hr0 : ∀ r rt, (XS.initMv e t x args).root r = some rt → r = 0 ∧ rt = ⟨e, t, t.lev, x, none⟩ := fun r rt h => by
      simp only [XS.initMv, XS.root, lk] at h
      split at h
      · rename_i e0; subst e0; cases h; exact ⟨rfl, rfl⟩
      · cases h
    refine { defers := rfl, size := ?_, os := rfl, tape := rfl, output := SameOut.refl w, grow := Nat.le_refl _, stay := fun _ _ => rfl, base := fun _ h => h, lt := fun _ h => h.1, own := fun r rt h => ?_, Flt := fun r rt b h hb => ⟨hF b hb, fun h' => h'.2 hb⟩, disj := fun r r' rt rt' b h h' _ _ => ((hr0 r rt h).1).trans (hr0 r' rt' h').1.symm, ids := fun r rt h => ?_, env := fun i av hi => ?_, pins := (fun h => by cases h), news := (fun i b f hi => by
      simp only [XS.initMv, XS.get, lk] at hi
      split at hi
      · cases hi
      · obtain ⟨_, _, _, h⟩ := env0_get hi; cases h) }
    · simp only [Array.size_append, List.size_toArray, List.length_cons, Array.size_replicate]; omega
    · obtain ⟨rfl, rfl⟩ := hr0 r rt h
      exact ⟨v0, hO⟩
    · obtain ⟨rfl, _⟩ := hr0 r rt h
      exact Nat.lt_succ_self 0
    · simp only [XS.initMv, XS.get, lk] at hi
      split at hi
      · rename_i e0
        subst e0
        cases hi
        refine ⟨fun rt h => ?_, AV.lt_ref (Nat.lt_succ_self _)⟩
        obtain ⟨_, rfl⟩ := hr0 0 rt h
        have e1 : v0 = Fer.hdr ct x.length := (hO.hdr (by simp)).1
        simp only [Array.getD_eq_getD_getElem?]
        rw [Array.getElem?_append_left (by simp)]
        simpa [atCT, RT.at, TV.len] using e1
      · rename_i e0
        obtain ⟨v, h1, h2, rfl⟩ := env0_get hi
        obtain ⟨u, cs, h3, h4, h5⟩ := hget (i - 1) v h1
        refine ⟨⟨cs, ?_, h5⟩, AV.lt_dat⟩
        have hlt : i - 1 < vs.length := (List.getElem?_eq_some_iff.1 h3).1
        rw [← h4]
        simp only [Array.getD_eq_getD_getElem?]
        rw [Array.getElem?_append_left (by simp; omega)]
        obtain ⟨j, rfl⟩ : ∃ j, i = j + 1 := ⟨i - 1, by omega⟩
        simp only [Nat.add_sub_cancel] at h3
        simp [h3]
  · obtain ⟨s', h1, S, pl, R⟩ := hh
    have g : Turned (butF w F) w w' := ⟨R.os, R.tape, R.output, R.grow, R.stay⟩
    have fin : (match outsOf s' slots with | some (_, vs) => K vs | none => False) → a'.defers = [] ∧ ∃ v, (results fn a'.tmps).run P w' = .ok v w' ∧ Turned (butF w F) w w' ∧ ∃ outs us G, K outs ∧ v = valOf us ∧ Rets (butF w F) w' outs us G := by
      intro h1
      cases ho : outsOf s' slots with
      | none => rw [ho] at h1; exact h1.elim
      | some p =>
        obtain ⟨rs, vs'⟩ := p
        rw [ho] at h1
        obtain ⟨G, hR, _⟩ := outsOf_ok R slots rs vs' ho
        exact ⟨R.defers, _, run_results hres a'.tmps, g, vs', _, G, h1, rfl, hR⟩
    cases ex with
    | normal => exact fin h1
    | ret => exact fin h1
    | exit => exact h1.elim
    | goto => exact h1.elim
    | panic => exact h1.elim
    | outgrown => exact h1.elim

end
end Fer

/- Functions one of whose results lies in a cell of its own. Over any program. -/
namespace Fer
open Go

/-- A result's place: a slot, or a cell that a slot points to. -/
def outV (tt : List (Nat × TE)) (s : XS) : ResultVar → Option (Option Nat × TV)
  | .tmp t => outOf s t
  | .cell a T => match (lk tt T).bind TE.ty, s.get a with
    | some t, some (.ptr r [0]) => match s.root r with
      | some rt => match rt.x with
        | [v] => if rt.t = t ∧ t.flat = true ∧ rt.h = none then some (none, ⟨rt.t, v⟩) else none
        | _ => none
      | none => none
    | _, _ => none
def outsV (tt : List (Nat × TE)) (s : XS) : List ResultVar → Option (List Nat × List TV)
  | [] => some ([], [])
  | t :: l => match outV tt s t, outsV tt s l with
    | some (none, v), some (rs, vs) => some (rs, v :: vs)
    | some (some r, v), some (rs, vs) => if rs.contains r = true then none else some (r :: rs, v :: vs)
    | _, _ => none
def retC (tt : List (Nat × TE)) (slots : List ResultVar) (K : List TV → Prop) : Exit → XS → Prop
  | .ret, s | .normal, s => match outsV tt s slots with
    | some (_, vs) => K vs
    | none => False
  | _, _ => False

section
variable {P : Program} {C : Ctx} {tt : List (Nat × TE)} {w0 : World} {S0 : Nat → Prop} {N : Nat} {s : XS} {a : Act} {w w' : World} {S : Nat → Prop} {pl : Nat → PL}

end
end Fer

/- A place in the middle, where ways meet. Over any program. -/
namespace Fer
open Go
section
variable {P : Program} {C : Ctx} {w0 : World} {S0 : Nat → Prop} {s : XS} {Q : Exit → XS → Prop} {x y : Code}
end
end Fer

/- Functions that have caught cells. Over any program. -/
namespace Fer
open Go

def envC : Nat → List TV → List (Nat × AV)
  | _, [] => []
  | n, v :: l => (n, .rptr v.t v.x) :: envC (n + 1) l
def XS.initC (args caps : List TV) : XS := ⟨env0 0 args ++ envC args.length caps, [], 0, []⟩

theorem lk_app {α : Type} {i : Nat} {x : α} : ∀ {l m : List (Nat × α)}, lk (l ++ m) i = some x → lk l i = some x ∨ lk m i = some x
  | [], _, h => .inr h
  | (j, y) :: l, m, h => by
    simp only [List.cons_append, lk] at h ⊢
    split at h
    · rename_i e; rw [if_pos e]; exact .inl h
    · rename_i e; rw [if_neg e]; exact lk_app h
theorem envC_get {i : Nat} {av : AV} : ∀ {n : Nat} {l : List TV}, lk (envC n l) i = some av → ∃ v, l[i - n]? = some v ∧ n ≤ i ∧ av = .rptr v.t v.x
  | _, [], h => by cases h
  | n, v :: l, h => by
    simp only [envC, lk] at h
    split at h
    · rename_i e
      subst e
      cases h
      exact ⟨v, by simp, Nat.le_refl _, rfl⟩
    · obtain ⟨u, h1, h2, h3⟩ := envC_get h
      exact ⟨u, by rw [show i - n = (i - (n + 1)) + 1 by omega]; simpa using h1, by omega, h3⟩

section
variable {P : Program} {C : Ctx} {w : World} {S : Nat → Prop}
theorem caps_get : ∀ {ts : List Ty} {caps : List TV} {us : List Value}, CapsAt w S ts caps us → us.length = caps.length ∧ caps.map (·.t) = ts ∧ ∀ (i : Nat) (v : TV), caps[i]? = some v → ∃ u : Value, us[i]? = some u ∧
    ∃ (b o : Nat) (arr : Array Value) (E : Nat) (fr : Nat × Nat), u = .pointer (some ⟨b, o, none⟩) ∧ S b ∧ w.heap[b]? = some (.cells arr E fr) ∧ o + v.t.width ≤ arr.size ∧ RO w S v.t v.x (cellsAt arr o v.t.width)
  | _, _, _, .nil => ⟨rfl, rfl, fun i v h => by simp at h⟩
  | _, _, _, .cons (b := b) (o := o) (arr := arr) (E := E) (fr := fr) h1 h2 h3 h4 hl => by
    obtain ⟨i1, i2, i3⟩ := caps_get hl
    refine ⟨by simp [i1], by simp [i2], fun i v h => ?_⟩
    cases i with
    | zero =>
      simp only [List.getElem?_cons_zero, Option.some.injEq] at h
      subst h
      exact ⟨_, rfl, b, o, arr, E, fr, rfl, h1, h2, h3, h4⟩
    | succ i =>
      simp only [List.getElem?_cons_succ] at h ⊢
      exact i3 i v h

/-- What there is to show of such a function. -/
theorem FnCl_of (f : Nat) (fn : Func) (c : Code) (slots : List Nat) (sp : Spec) (us : List Ty) (hf : P.funcs[f]? = some fn) (hb : fn.body = some c) (hn : (fn.name == "runtime.NumGoroutine") = false) (hres : fn.results.toList = slots.map ResultVar.tmp)
    (hnt : fn.ntmps = C.n) (hps : sp.ps.length + us.length ≤ fn.ntmps)
    (h : ∀ (args caps : List TV) (K : List TV → Prop), args.map (·.t) = sp.ps → caps.map (·.t) = us → sp.wp (args ++ caps) K → ∀ w0 : World, XW P C w0 (oldS w0) c (retK slots K) (XS.initC args caps)) : FnCl P f (sp, us) := by
  refine ⟨⟨fn, hf, hn, by rw [hb]; rfl⟩, fun args caps K hK w vs qs hA hCp => ?_⟩
  obtain ⟨l1, hts, hget⟩ := args_get hA
  obtain ⟨c1, cts, cget⟩ := caps_get hCp
  replace cts : caps.map (·.t) = us := cts
  replace hts : args.map (·.t) = sp.ps := hts
  have l2 : sp.ps.length = args.length := by rw [← hts]; simp
  have l3 : us.length = caps.length := by rw [← cts]; simp
  refine calls_of_wp hf hb (Go.wp_mono (h args caps K hts cts hK w _ w ⟨oldS w, fun _ => ⟨.leaf, noF⟩, ?_⟩) fun e a' w' hh => ?_)
  · refine { defers := rfl, size := ?_, os := rfl, tape := rfl, output := SameOut.refl w, grow := Nat.le_refl _, stay := fun _ _ => rfl, base := fun _ h => h, lt := fun _ h => h, own := (fun _ _ h => by cases h), Flt := (fun _ _ _ h => by cases h), disj := (fun _ _ _ _ _ h => by cases h), ids := (fun _ _ h => by cases h), env := fun i av hi => ?_, pins := (fun h => by cases h), news := (fun i b f hi => ?_) }
    · simp [l1, c1, ← hnt]; omega
    · rcases lk_app hi with hi | hi
      · obtain ⟨v, h1, _, rfl⟩ := env0_get hi
        simp only [Nat.sub_zero] at h1
        obtain ⟨u, cs, h2, h3, h4⟩ := hget i v h1
        refine ⟨⟨cs, ?_, h4⟩, AV.lt_dat⟩
        have hlt : i < vs.length := (List.getElem?_eq_some_iff.1 h2).1
        rw [← h3]
        simp only [Array.getD_eq_getD_getElem?]
        rw [Array.getElem?_append_left (by simp; omega)]
        simp [h2, List.getElem?_append_left hlt]
      · obtain ⟨v, h1, hle, rfl⟩ := envC_get hi
        obtain ⟨u, h2, b, o, arr, E, fr, e1, e2, e3, e4, e5⟩ := cget _ v h1
        refine ⟨⟨b, o, arr, E, fr, ?_, e2, e3, e4, e5⟩, AV.lt_rptr⟩
        rw [← e1]
        have hlt : i - args.length < qs.length := (List.getElem?_eq_some_iff.1 h2).1
        simp only [Array.getD_eq_getD_getElem?]
        rw [Array.getElem?_append_left (by simp; omega)]
        have hle' : vs.length ≤ i := by omega
        have el : i - vs.length = i - args.length := by omega
        simp [List.getElem?_append_right hle', el, h2]
    · rcases lk_app hi with hi | hi
      · obtain ⟨v, _, _, e⟩ := env0_get hi
        cases e
      · obtain ⟨v, _, _, e⟩ := envC_get hi
        cases e
  · obtain ⟨s', h1, S, pl, R⟩ := hh
    have g : Grew w w' := ⟨R.os, R.tape, R.output.ofOld, R.grow, R.stay⟩
    have fin : (match outsOf s' slots with | some (_, vs) => K vs | none => False) → a'.defers = [] ∧ ∃ v, (results fn a'.tmps).run P w' = .ok v w' ∧ Grew w w' ∧ ∃ outs us F, K outs ∧ v = valOf us ∧ Rets (oldS w) w' outs us F := by
      intro h1
      cases ho : outsOf s' slots with
      | none => rw [ho] at h1; exact h1.elim
      | some p =>
        obtain ⟨rs, vs'⟩ := p
        rw [ho] at h1
        obtain ⟨F, hR, _⟩ := outsOf_ok R slots rs vs' ho
        exact ⟨R.defers, _, run_results hres a'.tmps, g, vs', _, F, h1, rfl, hR⟩
    cases e with
    | normal => exact fin h1
    | ret => exact fin h1
    | exit => exact h1.elim
    | goto => exact h1.elim
    | panic => exact h1.elim
    | outgrown => exact h1.elim
end
end Fer

/- Rules of rewriting, several in one (the texts would be too long else). Over any program. -/
namespace Fer

theorem zz : (∀ n : Nat, (n : Int).toNat = n) ∧ (∀ b : Bool, (true == b) = b) ∧ (∀ b : Bool, (false == b) = !b) ∧ (∀ n : Nat, n ≤ n) ∧ (∀ n : Nat, 0 ≤ n) ∧
    (∀ p : Prop, (True ∧ p) = p) ∧ (∀ p : Prop, (p ∧ True) = p) ∧ decide True = true ∧ decide False = false ∧ (∀ p : Prop, (p → True) = True) ∧ ((false = true) = False) ∧ (∀ p : Prop, (False → p) = True) ∧
    (∀ p : Prop, (p ∧ p) = p) ∧ (∀ p : Prop, (p ∨ True) = True) ∧ (∀ p : Prop, (True ∨ p) = True) ∧ (∀ p : Prop, (False ∨ p) = p) ∧ (∀ p : Prop, (p ∨ False) = p) ∧ ((¬True) = False) ∧ ((¬False) = True) ∧
    (∀ p : Prop, (p ∧ False) = False) ∧ (∀ p : Prop, (False ∧ p) = False) ∧ (!true) = false ∧ (!false) = true ∧ (∀ b : Bool, (b || true) = true) ∧ (∀ b : Bool, (true || b) = true) ∧ (∀ b : Bool, (false || b) = b) ∧ (∀ b : Bool, (b || false) = b) ∧
    (∀ b : Bool, (b && true) = b) ∧ (∀ b : Bool, (true && b) = b) ∧ (∀ b : Bool, (b && b) = b) ∧ (∀ (p : Prop) [Decidable p], (decide p = true) = p) ∧ (∀ (p : Prop) [Decidable p], (decide p = false) = ¬p) ∧
    (∀ n : Nat, 0 + n = n) ∧ (∀ n : Nat, n < n + 1) ∧ (∀ n : Nat, n + 1 - 1 = n) ∧ (∀ n : Nat, n + 1 ≠ 0) ∧ (∀ n : Nat, n.succ ≠ n) ∧ (∀ n : Nat, max n n = n) := by
  refine ⟨Int.toNat_natCast, by decide, by decide, Nat.le_refl, Nat.zero_le, fun _ => true_and _, fun _ => and_true _, rfl, rfl, fun _ => implies_true _, Bool.false_eq_true, fun _ => false_implies _, fun _ => and_self _, fun _ => or_true _, fun _ => true_or _, fun _ => false_or _, fun _ => or_false _, not_true_eq_false, not_false_eq_true,
    fun _ => and_false _, fun _ => false_and _, rfl, rfl, by decide, by decide, by decide, by decide, by decide, by decide, by decide, fun _ _ => decide_eq_true_eq, fun _ _ => by simp, Nat.zero_add, Nat.lt_add_one, fun _ => rfl, Nat.add_one_ne_zero, Nat.succ_ne_self, Nat.max_self⟩
theorem zh : (∀ b : Bool, ((!b) = true) = (b = false)) ∧ (∀ b : Bool, ((!b) = false) = (b = true)) ∧ (∀ a b : Bool, ((a && b) = true) = (a = true ∧ b = true)) ∧ (∀ a b : Bool, ((a || b) = true) = (a = true ∨ b = true)) ∧ (∀ a b : Bool, ((a || b) = false) = (a = false ∧ b = false)) ∧
    (∀ a b : Int, (¬a < b) = (b ≤ a)) ∧ (∀ a b : Int, (¬a ≤ b) = (b < a)) ∧ (∀ b : Bool, (¬b = true) = (b = false)) ∧ (∀ m n : Nat, ((m : Int) < (n : Int)) = (m < n)) ∧ (∀ m n : Nat, ((m : Int) ≤ (n : Int)) = (m ≤ n)) := by
  refine ⟨?_, ?_, ?_, ?_, ?_, ?_, ?_, ?_, ?_, ?_⟩ <;> intros <;> simp
end Fer

/- Functions that turn cells of their caller's: what there is to show. Over any program. -/
namespace Fer
open Go

def envS : Nat → Nat → List PA → List TV → List (Nat × AV)
  | i, j, .val _ :: ps, v :: vs => (i, .dat v.t v.x) :: envS (i + 1) j ps vs
  | i, j, .cap _ :: ps, v :: vs => (i, .rptr v.t v.x) :: envS (i + 1) j ps vs
  | i, j, .box _ _ :: ps, vs => (i, .ptr j [0]) :: envS (i + 1) (j + 1) ps vs
  | i, j, .one _ _ :: ps, vs => (i, .ptr j [0]) :: envS (i + 1) (j + 1) ps vs
  | i, j, .gone _ _ :: ps, vs => (i, .ptr j [0]) :: envS (i + 1) (j + 1) ps vs
  | _, _, _, _ => []
def rtsS : Nat → List PA → List TV → List (Nat × RT)
  | j, .box e _ :: ps, v :: bs => (j, ⟨e, v.t, v.t.lev, [v.x], none⟩) :: rtsS (j + 1) ps bs
  | j, .one e _ :: ps, v :: bs => (j, ⟨e, v.t, v.t.lev, [v.x], none⟩) :: rtsS (j + 1) ps bs
  | j, .gone e _ :: ps, v :: bs => (j, ⟨e, v.t, v.t.lev, [v.x], none⟩) :: rtsS (j + 1) ps bs
  | j, .val _ :: ps, bs => rtsS j ps bs
  | j, .cap _ :: ps, bs => rtsS j ps bs
  | _, _, _ => []
def locS (n : Nat) : Nat → List Nat → List (Nat × AV)
  | _, [] => []
  | j, b :: bl => (n + 64 + j, .loc j b) :: locS n (j + 1) bl
def XS.initS (n : Nat) (pat : List PA) (bl : List Nat) (vals boxes : List TV) : XS := ⟨envS 0 0 pat vals ++ locS n 0 bl, rtsS 0 pat boxes, bl.length, []⟩

/-- What the cells hold at the end; they must lie where they lay. -/
def boxS (n : Nat) (s : XS) : Nat → List PA → List Nat → Option (Prop × List TV)
  | _, [], [] => some (True, [])
  | j, .box e t :: ps, b :: bl => match s.root j, s.get (n + 64 + j), boxS n s (j + 1) ps bl with
    | some rt, some (.loc q b'), some (p, l) => match rt.x, rt.h with
      | [v], none => if rt.e = e ∧ rt.t = t ∧ t.lev ≤ rt.k ∧ q = j then some (b' = b ∧ p, ⟨rt.t, v⟩ :: l) else none
      | _, _ => none
    | _, _, _ => none
  | j, .val _ :: ps, bl => boxS n s j ps bl
  | j, .cap _ :: ps, bl => boxS n s j ps bl
  | _, _, _ => none

/-- The end of such a function. -/
def retS (n : Nat) (slots : List Nat) (pat : List PA) (bl : List Nat) (K : List TV → List TV → Prop) (e : Exit) (s : XS) : Prop :=
  match e with
  | .normal => match outsOf s slots, boxS n s 0 pat bl with
    | some (rs, vs), some (p, bx) => (rs.all fun r => decide (bl.length ≤ r)) = true ∧ p ∧ K vs bx
    | _, _ => False
  | .ret => match outsOf s slots, boxS n s 0 pat bl with
    | some (rs, vs), some (p, bx) => (rs.all fun r => decide (bl.length ≤ r)) = true ∧ p ∧ K vs bx
    | _, _ => False
  | _ => False

section
variable {P : Program} {C : Ctx} {w : World} {T : Nat → Prop}

theorem locS_get {n i : Nat} {av : AV} : ∀ {bl : List Nat} {j : Nat}, lk (locS n j bl) i = some av → ∃ b q, av = .loc q b ∧ j ≤ q ∧ bl[q - j]? = some b ∧ i = n + 64 + q
  | [], _, h => by cases h
  | b :: bl, j, h => by
    simp only [locS, lk] at h
    split at h
    · rename_i e
      cases h
      exact ⟨b, j, rfl, Nat.le_refl _, by simp, e.symm⟩
    · obtain ⟨c, q, h1, h2, h3, h4⟩ := locS_get h
      exact ⟨c, q, h1, by omega, by rw [show q - j = (q - (j + 1)) + 1 by omega]; simpa using h3, h4⟩

/-- What is handed over, slot by slot and cell by cell. -/
theorem stArgs_get : ∀ {pat : List PA} {bl : List Nat} {vals boxes : List TV} {vs : List Value} {F : Nat → Prop}, StArgs w T pat bl vals boxes vs F → ∀ i0 j0 : Nat, vs.length = pat.length ∧
    (∀ i av, lk (envS i0 j0 pat vals) i = some av → i0 ≤ i ∧ ∃ u, vs[i - i0]? = some u ∧ ((∃ t x cs, av = .dat t x ∧ u = pack t cs ∧ RO w T t x cs) ∨
      (∃ t x b o arr E fr, av = .rptr t x ∧ u = .pointer (some ⟨b, o, none⟩) ∧ T b ∧ w.heap[b]? = some (.cells arr E fr) ∧ o + t.width ≤ arr.size ∧ RO w T t x (cellsAt arr o t.width)) ∨
      (∃ j b, av = .ptr j [0] ∧ j0 ≤ j ∧ bl[j - j0]? = some b ∧ u = .pointer (some ⟨b, 0, none⟩)))) ∧
    ∃ pl : Nat → PL, (∀ j rt, lk (rtsS j0 pat boxes) j = some rt → j0 ≤ j ∧ ∃ b, bl[j - j0]? = some b ∧ rt.h = none ∧ addrOf [0] rt.ty (pl j).ct (0, 0) = (b, 0) ∧ (∃ hv, Own w T rt.ty (rt.k + 1) rt.x rt.h (pl j).ct [hv] (pl j).F) ∧ ∀ n, (pl j).F n → F n) ∧
      ∀ j j' rt rt' n, lk (rtsS j0 pat boxes) j = some rt → lk (rtsS j0 pat boxes) j' = some rt' → (pl j).F n → (pl j').F n → j = j'
  | _, _, _, _, _, _, .nil, i0, j0 => ⟨rfl, fun i av h => by simp [envS, lk] at h, fun _ => ⟨.leaf, noF⟩, fun j rt h => by simp [rtsS, lk] at h, fun j j' rt rt' n h => by simp [rtsS, lk] at h⟩
  | _, _, _, _, _, _, .val (t := t) (x := x) (u := u) h hl, i0, j0 => by
    obtain ⟨l1, l2, pl, l3, l4⟩ := stArgs_get hl (i0 + 1) j0
    refine ⟨by simp [l1], fun i av hi => ?_, pl, l3, l4⟩
    simp only [envS, lk] at hi
    split at hi
    · rename_i e
      subst e
      cases hi
      exact ⟨Nat.le_refl _, _, by simp, .inl ⟨t, x, u, rfl, rfl, h⟩⟩
    · obtain ⟨g1, u', g2, g3⟩ := l2 i av hi
      exact ⟨by omega, u', by rw [show i - i0 = (i - (i0 + 1)) + 1 by omega]; simpa using g2, g3⟩
  | _, _, _, _, _, _, .cap (t := t) (x := x) (b := b) (o := o) (arr := arr) (E := E) (fr := fr) h1 h2 h3 h4 hl, i0, j0 => by
    obtain ⟨l1, l2, pl, l3, l4⟩ := stArgs_get hl (i0 + 1) j0
    refine ⟨by simp [l1], fun i av hi => ?_, pl, l3, l4⟩
    simp only [envS, lk] at hi
    split at hi
    · rename_i e
      subst e
      cases hi
      exact ⟨Nat.le_refl _, _, by simp, .inr (.inl ⟨t, x, b, o, arr, E, fr, rfl, rfl, h1, h2, h3, h4⟩)⟩
    · obtain ⟨g1, u', g2, g3⟩ := l2 i av hi
      exact ⟨by omega, u', by rw [show i - i0 = (i - (i0 + 1)) + 1 by omega]; simpa using g2, g3⟩
  | _, _, _, _, _, _, .box (e := e) (t := t) (x := x) (F := F) (G := G) (b := b) (cap := cap) (kids := kids) (hv := hv) h hd hl, i0, j0 => by
    obtain ⟨l1, l2, pl, l3, l4⟩ := stArgs_get hl (i0 + 1) (j0 + 1)
    refine ⟨by simp [l1], fun i av hi => ?_, fun j => if j = j0 then ⟨.node b cap kids, G⟩ else pl j, fun j rt hj => ?_, fun j j' rt rt' n hj hj' hn hn' => ?_⟩
    · simp only [envS, lk] at hi
      split at hi
      · rename_i e
        subst e
        cases hi
        exact ⟨Nat.le_refl _, _, by simp, .inr (.inr ⟨j0, b, rfl, Nat.le_refl _, by simp, rfl⟩)⟩
      · obtain ⟨g1, u', g2, g3⟩ := l2 i av hi
        refine ⟨by omega, u', by rw [show i - i0 = (i - (i0 + 1)) + 1 by omega]; simpa using g2, ?_⟩
        rcases g3 with g3 | g3 | ⟨j, c, q1, q2, q3, q4⟩
        · exact .inl g3
        · exact .inr (.inl g3)
        · exact .inr (.inr ⟨j, c, q1, by omega, by rw [show j - j0 = (j - (j0 + 1)) + 1 by omega]; simpa using q3, q4⟩)
    · simp only [rtsS, lk] at hj
      split at hj
      · rename_i e
        subst e
        cases hj
        refine ⟨Nat.le_refl _, b, by simp, rfl, ?_, ⟨hv, ?_⟩, fun n hn => ?_⟩
        · simp only [if_true]; simp [RT.ty, addrOf]
        · simp only [if_true]; exact h
        · simp only [if_true] at hn; exact .inl hn
      · rename_i e
        obtain ⟨g1, c, g2, g3, g4, g5, g6⟩ := l3 j rt hj
        have hne : ¬ j = j0 := by omega
        simp only [if_neg hne]
        exact ⟨by omega, c, by rw [show j - j0 = (j - (j0 + 1)) + 1 by omega]; simpa using g2, g3, g4, g5, fun n hn => .inr (g6 n hn)⟩
    · simp only [rtsS, lk] at hj hj'
      by_cases e1 : j0 = j
      · by_cases e2 : j0 = j'
        · exact e1.symm.trans e2
        · rw [if_neg e2] at hj'
          subst e1
          simp only [if_true] at hn
          simp only [if_neg (Ne.symm e2)] at hn'
          obtain ⟨_, _, _, _, _, _, g6⟩ := l3 j' rt' hj'
          exact absurd (g6 n hn') (hd n hn)
      · rw [if_neg e1] at hj
        simp only [if_neg (Ne.symm e1)] at hn
        obtain ⟨_, _, _, _, _, _, g6⟩ := l3 j rt hj
        by_cases e2 : j0 = j'
        · subst e2
          simp only [if_true] at hn'
          exact absurd (g6 n hn) (hd n hn')
        · rw [if_neg e2] at hj'
          simp only [if_neg (Ne.symm e2)] at hn'
          exact l4 j j' rt rt' n hj hj' hn hn'
  | _, _, _, _, _, _, .one (e := e) (t := t) (x := x) (F := F) (G := G) (b := b) (kids := kids) (hv := hv) h hd hl, i0, j0 => by
    obtain ⟨l1, l2, pl, l3, l4⟩ := stArgs_get hl (i0 + 1) (j0 + 1)
    refine ⟨by simp [l1], fun i av hi => ?_, fun j => if j = j0 then ⟨.node b 1 kids, G⟩ else pl j, fun j rt hj => ?_, fun j j' rt rt' n hj hj' hn hn' => ?_⟩
    · simp only [envS, lk] at hi
      split at hi
      · rename_i e
        subst e
        cases hi
        exact ⟨Nat.le_refl _, _, by simp, .inr (.inr ⟨j0, b, rfl, Nat.le_refl _, by simp, rfl⟩)⟩
      · obtain ⟨g1, u', g2, g3⟩ := l2 i av hi
        refine ⟨by omega, u', by rw [show i - i0 = (i - (i0 + 1)) + 1 by omega]; simpa using g2, ?_⟩
        rcases g3 with g3 | g3 | ⟨j, c, q1, q2, q3, q4⟩
        · exact .inl g3
        · exact .inr (.inl g3)
        · exact .inr (.inr ⟨j, c, q1, by omega, by rw [show j - j0 = (j - (j0 + 1)) + 1 by omega]; simpa using q3, q4⟩)
    · simp only [rtsS, lk] at hj
      split at hj
      · rename_i e
        subst e
        cases hj
        refine ⟨Nat.le_refl _, b, by simp, rfl, ?_, ⟨hv, ?_⟩, fun n hn => ?_⟩
        · simp only [if_true]; simp [RT.ty, addrOf]
        · simp only [if_true]; exact h
        · simp only [if_true] at hn; exact .inl hn
      · rename_i e
        obtain ⟨g1, c, g2, g3, g4, g5, g6⟩ := l3 j rt hj
        have hne : ¬ j = j0 := by omega
        simp only [if_neg hne]
        exact ⟨by omega, c, by rw [show j - j0 = (j - (j0 + 1)) + 1 by omega]; simpa using g2, g3, g4, g5, fun n hn => .inr (g6 n hn)⟩
    · simp only [rtsS, lk] at hj hj'
      by_cases e1 : j0 = j
      · by_cases e2 : j0 = j'
        · exact e1.symm.trans e2
        · rw [if_neg e2] at hj'
          subst e1
          simp only [if_true] at hn
          simp only [if_neg (Ne.symm e2)] at hn'
          obtain ⟨_, _, _, _, _, _, g6⟩ := l3 j' rt' hj'
          exact absurd (g6 n hn') (hd n hn)
      · rw [if_neg e1] at hj
        simp only [if_neg (Ne.symm e1)] at hn
        obtain ⟨_, _, _, _, _, _, g6⟩ := l3 j rt hj
        by_cases e2 : j0 = j'
        · subst e2
          simp only [if_true] at hn'
          exact absurd (g6 n hn) (hd n hn')
        · rw [if_neg e2] at hj'
          simp only [if_neg (Ne.symm e2)] at hn'
          exact l4 j j' rt rt' n hj hj' hn hn'
  | _, _, _, _, _, _, .gone (e := e) (t := t) (x := x) (F := F) (G := G) (b := b) (kids := kids) (hv := hv) h hd hl, i0, j0 => by
    obtain ⟨l1, l2, pl, l3, l4⟩ := stArgs_get hl (i0 + 1) (j0 + 1)
    refine ⟨by simp [l1], fun i av hi => ?_, fun j => if j = j0 then ⟨.node b 1 kids, G⟩ else pl j, fun j rt hj => ?_, fun j j' rt rt' n hj hj' hn hn' => ?_⟩
    · simp only [envS, lk] at hi
      split at hi
      · rename_i e
        subst e
        cases hi
        exact ⟨Nat.le_refl _, _, by simp, .inr (.inr ⟨j0, b, rfl, Nat.le_refl _, by simp, rfl⟩)⟩
      · obtain ⟨g1, u', g2, g3⟩ := l2 i av hi
        refine ⟨by omega, u', by rw [show i - i0 = (i - (i0 + 1)) + 1 by omega]; simpa using g2, ?_⟩
        rcases g3 with g3 | g3 | ⟨j, c, q1, q2, q3, q4⟩
        · exact .inl g3
        · exact .inr (.inl g3)
        · exact .inr (.inr ⟨j, c, q1, by omega, by rw [show j - j0 = (j - (j0 + 1)) + 1 by omega]; simpa using q3, q4⟩)
    · simp only [rtsS, lk] at hj
      split at hj
      · rename_i e
        subst e
        cases hj
        refine ⟨Nat.le_refl _, b, by simp, rfl, ?_, ⟨hv, ?_⟩, fun n hn => ?_⟩
        · simp only [if_true]; simp [RT.ty, addrOf]
        · simp only [if_true]; exact h
        · simp only [if_true] at hn; exact .inl hn
      · rename_i e
        obtain ⟨g1, c, g2, g3, g4, g5, g6⟩ := l3 j rt hj
        have hne : ¬ j = j0 := by omega
        simp only [if_neg hne]
        exact ⟨by omega, c, by rw [show j - j0 = (j - (j0 + 1)) + 1 by omega]; simpa using g2, g3, g4, g5, fun n hn => .inr (g6 n hn)⟩
    · simp only [rtsS, lk] at hj hj'
      by_cases e1 : j0 = j
      · by_cases e2 : j0 = j'
        · exact e1.symm.trans e2
        · rw [if_neg e2] at hj'
          subst e1
          simp only [if_true] at hn
          simp only [if_neg (Ne.symm e2)] at hn'
          obtain ⟨_, _, _, _, _, _, g6⟩ := l3 j' rt' hj'
          exact absurd (g6 n hn') (hd n hn)
      · rw [if_neg e1] at hj
        simp only [if_neg (Ne.symm e1)] at hn
        obtain ⟨_, _, _, _, _, _, g6⟩ := l3 j rt hj
        by_cases e2 : j0 = j'
        · subst e2
          simp only [if_true] at hn'
          exact absurd (g6 n hn) (hd n hn')
        · rw [if_neg e2] at hj'
          simp only [if_neg (Ne.symm e2)] at hn'
          exact l4 j j' rt rt' n hj hj' hn hn'

theorem stOut_of {N : Nat} {w0 w' : World} {S0 S T : Nat → Prop} {s : XS} {a : Act} {pl : Nat → PL} (R : RelAt w0 S0 N false noPins s a w' S pl) (hT : ∀ n, T n → S n) {n : Nat} : ∀ (pat : List PA) (bl : List Nat) (j : Nat) (p : Prop) (bx : List TV), boxS n s j pat bl = some (p, bx) → p →
    ∃ H, StOut w' T pat bl bx H ∧ ∀ m, H m → ∃ q rt, j ≤ q ∧ q < j + bl.length ∧ s.root q = some rt ∧ (pl q).F m
  | [], [], _, p, bx, h, _ => by
    simp only [boxS, Option.some.injEq, Prod.mk.injEq] at h
    obtain ⟨_, rfl⟩ := h
    exact ⟨noF, .nil, fun m hm => hm.elim⟩
  | [], _ :: _, _, _, _, h, _ => by simp [boxS] at h
  | .box _ _ :: _, [], _, _, _, h, _ => by simp [boxS] at h
  | .one _ _ :: _, [], _, _, _, h, _ => by simp [boxS] at h
  | .gone _ _ :: _, [], _, _, _, h, _ => by simp [boxS] at h
  | .one _ _ :: _, _ :: _, _, _, _, h, _ => by simp [boxS] at h
  | .gone _ _ :: _, _ :: _, _, _, _, h, _ => by simp [boxS] at h
  | .val t :: ps, bl, j, p, bx, h, hp => by
    simp only [boxS] at h
    obtain ⟨H, h1, h2⟩ := stOut_of R hT ps bl j p bx h hp
    exact ⟨H, .val h1, h2⟩
  | .cap t :: ps, bl, j, p, bx, h, hp => by
    simp only [boxS] at h
    obtain ⟨H, h1, h2⟩ := stOut_of R hT ps bl j p bx h hp
    exact ⟨H, .cap h1, h2⟩
  | .box e t :: ps, b :: bl, j, p, bx, h, hp => by
    simp only [boxS] at h
    split at h
    · rename_i rt q b' p' l hr hq hb
      split at h
      · rename_i x hx hh
        split at h
        · rename_i hc
          obtain ⟨rfl, rfl, hk, rfl⟩ := hc
          simp only [Option.some.injEq, Prod.mk.injEq] at h
          obtain ⟨rfl, rfl⟩ := h
          obtain ⟨rfl, hp'⟩ := hp
          obtain ⟨H, h1, h2⟩ := stOut_of R hT ps bl (q + 1) p' l hb hp'
          obtain ⟨c, cap, kids, hv, e1, HO⟩ := cell_node R hr hx hh hk noS
          have hloc := (R.env _ _ hq).1 rt hr
          have : c = b' := by
            rw [e1] at hloc
            simp only [RT.ty, addrOf, Prod.mk.injEq] at hloc
            exact hloc.1
          subst this
          refine ⟨fun m => (pl q).F m ∨ H m, .box HO (fun m hm => ⟨fun hTm => (R.Flt q rt m hr hm).2 (hT m hTm), (R.Flt q rt m hr hm).1⟩) (fun m hm hH => ?_) h1, fun m hm => ?_⟩
          · obtain ⟨q', rt', g1, g2, g3, g4⟩ := h2 m hH
            have := R.disj q q' rt rt' m hr g3 hm g4
            omega
          · rcases hm with hm | hm
            · exact ⟨q, rt, Nat.le_refl _, by simp, hr, hm⟩
            · obtain ⟨q', rt', g1, g2, g3, g4⟩ := h2 m hm
              exact ⟨q', rt', by omega, by simp only [List.length_cons]; omega, g3, g4⟩
        · cases h
      · cases h
    · cases h

theorem rets_more {T U : Nat → Prop} {w' : World} {outs : List TV} {us : List Value} {F : Nat → Prop} (h : Rets T w' outs us F) (hU : ∀ n, F n → ¬ U n) : Rets (fun n => T n ∨ U n) w' outs us F := by
  induction h with
  | nil => exact .nil
  | cons h1 _ hd ih => exact .cons ⟨fun n hn => ⟨fun hc => hc.elim (h1.1 n hn).1 (hU n (.inl hn)), (h1.1 n hn).2⟩, h1.2⟩ (ih fun n hn => hU n (.inr hn)) hd

/-- What there is to show of such a function. -/
theorem FnSt_of (f : Nat) (fn : Func) (c : Code) (slots : List Nat) (sp : SpecS) (hf : P.funcs[f]? = some fn) (hb : fn.body = some c) (hn : (fn.name == "runtime.NumGoroutine") = false) (hres : fn.results.toList = slots.map ResultVar.tmp)
    (hnt : fn.ntmps = C.n) (hps : sp.pat.length ≤ fn.ntmps)
    (h : ∀ (bl : List Nat) (vals boxes : List TV) (K : List TV → List TV → Prop), (∃ w T vs F, StArgs w T sp.pat bl vals boxes vs F) → sp.wp bl vals boxes K → ∀ (w0 : World) (S0 : Nat → Prop), XW P C w0 S0 c (retS C.n slots sp.pat bl K) (XS.initS C.n sp.pat bl vals boxes)) : FnSt P f sp := by
  refine ⟨⟨fn, hf, hn, by rw [hb]; rfl⟩, fun bl vals boxes K hK w vs F hA hF => ?_⟩
  obtain ⟨l1, l2, pl, l3, l4⟩ := stArgs_get hA 0 0
  refine calls_of_wp hf hb (Go.wp_mono (h bl vals boxes K ⟨_, _, _, _, hA⟩ hK w (butF w F) _ w ⟨butF w F, pl, ?_⟩) fun ex a' w' hh => ?_)
  · refine { defers := rfl, size := ?_, os := rfl, tape := rfl, output := SameOut.refl w, grow := Nat.le_refl _, stay := fun _ _ => rfl, base := fun _ h => h, lt := fun _ h => h.1, own := fun r rt h => ?_, Flt := fun r rt b h hb => ?_, disj := fun r r' rt rt' b h h' hn hn' => l4 r r' rt rt' b h h' hn hn', ids := fun r rt h => ?_, env := fun i av hi => ?_, pins := (fun h => by cases h), news := fun i b f hi => ?_ }
    · simp only [Array.size_append, List.size_toArray, Array.size_replicate]; omega
    · obtain ⟨_, _, _, _, _, g5, _⟩ := l3 r rt h
      exact g5
    · obtain ⟨_, _, _, _, _, _, g6⟩ := l3 r rt h
      exact ⟨hF b (g6 b hb), fun h' => h'.2 (g6 b hb)⟩
    · obtain ⟨_, b, g2, _⟩ := l3 r rt h
      exact (List.getElem?_eq_some_iff.1 g2).1
    · rcases lk_app hi with hi | hi
      · obtain ⟨_, u, g2, g3⟩ := l2 i av hi
        simp only [Nat.sub_zero] at g2
        have hlt : i < vs.length := (List.getElem?_eq_some_iff.1 g2).1
        have hu : (vs.toArray ++ Array.replicate (fn.ntmps - vs.toArray.size) undef).getD i undef = u := by
          simp only [Array.getD_eq_getD_getElem?]
          rw [Array.getElem?_append_left (by simpa using hlt)]
          simp [g2]
        show AVR w (butF w F) (rtsS 0 sp.pat boxes) pl av ((vs.toArray ++ Array.replicate (fn.ntmps - vs.toArray.size) undef).getD i undef) ∧ av.lt bl.length
        rw [hu]
        rcases g3 with ⟨t, x, cs, rfl, e, g⟩ | ⟨t, x, b, o, arr, E, fr, rfl, e, q1, q2, q3, q4⟩ | ⟨j, b, rfl, _, q2, e⟩
        · exact ⟨⟨cs, e, g⟩, AV.lt_dat⟩
        · exact ⟨⟨b, o, arr, E, fr, e, q1, q2, q3, q4⟩, AV.lt_rptr⟩
        · simp only [Nat.sub_zero] at q2
          refine ⟨fun rt hrt => ?_, fun q hq => ?_⟩
          · obtain ⟨_, b', g2', _, g4, _⟩ := l3 j rt hrt
            simp only [Nat.sub_zero] at g2'
            rw [q2] at g2'
            cases g2'
            rw [e]; unfold addrP; rw [g4]
          · simp only [AV.ids, List.mem_singleton] at hq
            subst hq
            exact (List.getElem?_eq_some_iff.1 q2).1
      · obtain ⟨b, q, rfl, _, g3, _⟩ := locS_get hi
        simp only [Nat.sub_zero] at g3
        refine ⟨fun rt hrt => ?_, fun r hr => ?_⟩
        · obtain ⟨_, b', g2', _, g4, _⟩ := l3 q rt hrt
          simp only [Nat.sub_zero] at g2'
          rw [g3] at g2'
          cases g2'
          exact g4
        · simp only [AV.ids, List.mem_singleton] at hr
          subst hr
          exact (List.getElem?_eq_some_iff.1 g3).1
    · rcases lk_app hi with hi | hi
      · obtain ⟨_, u, _, g3⟩ := l2 i _ hi
        rcases g3 with ⟨t, x, cs, e, _⟩ | ⟨t, x, b, o, arr, E, fr, e, _⟩ | ⟨j, b, e, _⟩ <;> cases e
      · obtain ⟨b, q, e, _⟩ := locS_get hi
        cases e
  · obtain ⟨s', h1, S, pl', R⟩ := hh
    have g : Turned (butF w F) w w' := ⟨R.os, R.tape, R.output, R.grow, R.stay⟩
    have fin : (match outsOf s' slots, boxS C.n s' 0 sp.pat bl with | some (rs, vs), some (p, bx) => (rs.all fun r => decide (bl.length ≤ r)) = true ∧ p ∧ K vs bx | _, _ => False) →
        a'.defers = [] ∧ ∃ v, (results fn a'.tmps).run P w' = .ok v w' ∧ Turned (butF w F) w w' ∧ ∃ outs bx us G H, K outs bx ∧ v = valOf us ∧ StOut w' (butF w F) sp.pat bl bx H ∧ Rets (fun n => butF w F n ∨ H n) w' outs us G := by
      intro h1
      cases ho : outsOf s' slots with
      | none => rw [ho] at h1; exact h1.elim
      | some rv =>
        obtain ⟨rs, vs'⟩ := rv
        cases hbx : boxS C.n s' 0 sp.pat bl with
        | none => rw [ho, hbx] at h1; exact h1.elim
        | some pb =>
          obtain ⟨p, bx⟩ := pb
          rw [ho, hbx] at h1
          obtain ⟨c1, c2, c3⟩ := h1
          obtain ⟨G, hR, hG⟩ := outsOf_ok R slots rs vs' ho
          obtain ⟨H, q1, q2⟩ := stOut_of R (fun n hn => R.base n hn) sp.pat bl 0 p bx hbx c2
          refine ⟨R.defers, _, run_results hres a'.tmps, g, vs', bx, _, G, H, c3, rfl, q1, rets_more hR fun n hn hH => ?_⟩
          obtain ⟨q, rt, _, g2, g3, g4⟩ := q2 n hH
          obtain ⟨r, rt', hr, hr', hF'⟩ := hG n hn
          have := R.disj q r rt rt' n g3 hr' g4 hF'
          subst this
          have := List.all_eq_true.1 c1 _ hr
          simp only [decide_eq_true_eq] at this
          omega
    cases ex with
    | normal => exact fin h1
    | ret => exact fin h1
    | exit => exact h1.elim
    | goto => exact h1.elim
    | panic => exact h1.elim
    | outgrown => exact h1.elim
end
end Fer

/- A slot that holds the first part of a list: the list is cut there. Over any program. -/
namespace Fer
open Go

section
variable {P : Program} {C : Ctx} {w0 : World} {S0 : Nat → Prop} {s : XS} {Q : Exit → XS → Prop} {x : Code}
/-- A slot's value may be seen in another way. -/
theorem RelAt.again {N : Nat} {dr : Bool} {pc : Pins} {a : Act} {w : World} {S : Nat → Prop} {pl : Nat → PL} (R : RelAt w0 S0 N dr pc s a w S pl) {n : Nat} {av : AV} (h : AVR w S s.rts pl av (a.tmps.getD n undef)) (hl : av.lt s.nxt) (hp : av.plain = true) : RelAt w0 S0 N dr pc { s with env := (n, av) :: s.env } a w S pl := by
  refine { defers := R.defers, size := R.size, os := R.os, tape := R.tape, output := R.output, grow := R.grow, stay := R.stay, base := R.base, lt := R.lt, own := R.own, Flt := R.Flt, disj := R.disj, ids := R.ids, env := fun i u hi => ?_, pins := R.pins, news := fun i c f hi => ?_ }
  · simp only [XS.get, lk] at hi
    split at hi
    · rename_i e
      subst e
      cases hi; exact ⟨h, hl⟩
    · exact R.env i u hi
  · simp only [XS.get, lk] at hi
    split at hi
    · cases hi; cases hp
    · exact R.news i c f hi
/-- A slot that holds the first n of a list: the list is cut there, the slot holds the list. -/
theorem XW.cutRef {i r n : Nat} {rt : RT} (hi : s.get i = some (.sub r [] 0 n)) (hr : s.root r = some rt) (hh : rt.h = none)
    (H : XW P C w0 S0 x Q { (s.trunc r rt n) with env := (i, .ref r []) :: (s.trunc r rt n).env }) : XW P C w0 S0 x Q s := fun a w ⟨S, pl, R⟩ => by
  obtain ⟨_, hle, hsub⟩ := (R.env i _ hi).1 rt hr
  obtain ⟨pl', R', hv, _⟩ := cutRoot R hr hh (hi := n) (v := a.tmps.getD i undef) hle hsub
  refine H a w ⟨S, pl', RelAt.again R' ?_ (AV.lt_ref (R.ids _ rt hr)) rfl⟩
  intro rt2 hrt2
  have : rt2 = { rt with x := rt.x.take n } := by
    simp only [XS.setRoot, lk, if_true, Option.some.injEq] at hrt2; exact hrt2.symm
  subst this
  exact hv
end
end Fer

/- The machine's rewriting rules under two names. -/
namespace Fer
open Go

theorem zd : type_of% (And.intro (And.intro (And.intro (And.intro (And.intro (And.intro (And.intro @stCall.eq_def (And.intro @stBox.eq_def @oneOf.eq_def)) (And.intro @oneIn.eq_1 (And.intro @oneIn.eq_2 @oneIn.eq_3))) (And.intro (And.intro @named.eq_1 (And.intro @named.eq_2 @locOf.eq_def)) (And.intro @locIn.eq_1 (And.intro @locIn.eq_2 @locIn.eq_3)))) (And.intro (And.intro (And.intro @stRoots.eq_1 (And.intro @stRoots.eq_2 @stRoots.eq_3)) (And.intro @stRoots.eq_4 (And.intro @stRoots.eq_5 @stRoots.eq_6))) (And.intro (And.intro @stRoots.eq_7 (And.intro @killAll.eq_1 @killAll.eq_2)) (And.intro (And.intro @capAV.eq_def @stVals.eq_1) (And.intro @stVals.eq_2 @stVals.eq_3))))) (And.intro (And.intro (And.intro (And.intro @stVals.eq_4 (And.intro @stVals.eq_5 @stVals.eq_6)) (And.intro @stVals.eq_7 (And.intro @stBoxes.eq_1 @stBoxes.eq_2))) (And.intro (And.intro @stBoxes.eq_3 (And.intro @stBoxes.eq_4 @stBoxes.eq_5)) (And.intro (And.intro @stBoxes.eq_6 @stBoxes.eq_7) (And.intro @noP.eq_def @isBoxP.eq_def)))) (And.intro (And.intro (And.intro @stKeep.eq_def (And.intro @stCut.eq_1 @stCut.eq_2)) (And.intro @stAdd.eq_1 (And.intro @stAdd.eq_2 @stAdd.eq_3))) (And.intro (And.intro @stAdd.eq_4 (And.intro @stAdd.eq_5 @stAdd.eq_6)) (And.intro (And.intro @distinctL.eq_1 @distinctL.eq_2) (And.intro @evs.eq_1 @evs.eq_2)))))) (And.intro (And.intro (And.intro (And.intro (And.intro @XS.initS.eq_def (And.intro @envS.eq_1 @envS.eq_2)) (And.intro @envS.eq_3 (And.intro @envS.eq_4 @envS.eq_5))) (And.intro (And.intro @envS.eq_6 (And.intro @rtsS.eq_1 @rtsS.eq_2)) (And.intro (And.intro @rtsS.eq_3 @rtsS.eq_4) (And.intro @rtsS.eq_5 @rtsS.eq_6)))) (And.intro (And.intro (And.intro @locS.eq_1 (And.intro @locS.eq_2 @wholeAV.eq_def)) (And.intro @noPin.eq_def (And.intro @capTV.eq_1 @capTV.eq_2))) (And.intro (And.intro @XS.initC.eq_def (And.intro @envC.eq_1 @envC.eq_2)) (And.intro (And.intro @xoper.eq_def @xwant.eq_def) (And.intro @cutAt.eq_def @bxAV.eq_def))))) (And.intro (And.intro (And.intro (And.intro @bld3AV.eq_def (And.intro @bld0AV.eq_def @strIdx.eq_def)) (And.intro @XS.trunc.eq_def (And.intro @XS.inPlace.eq_def @RT.withX.eq_def))) (And.intro (And.intro @isNilP.eq_def (And.intro @isOneP.eq_def @fldAV.eq_def)) (And.intro (And.intro @fldP.eq_1 @fldP.eq_2) (And.intro @fldP.eq_3 @fldR.eq_1)))) (And.intro (And.intro (And.intro @fldR.eq_2 (And.intro @fldR.eq_3 @fldR.eq_4)) (And.intro @cpAV.eq_def (And.intro @clAV.eq_def @okB.eq_def))) (And.intro (And.intro @loOf.eq_def (And.intro @hiOf.eq_def @cutL.eq_def)) (And.intro (And.intro @xgd_true @xgd_false) (And.intro @known.eq_def @xdo.eq_def))))))) (And.intro (And.intro (And.intro (And.intro (And.intro (And.intro @mpOp.eq_def (And.intro @mpSet.eq_1 @mpSet.eq_2)) (And.intro @AV.setMp.eq_def (And.intro @AV.plain.eq_def @isMove.eq_def))) (And.intro (And.intro @nilAt.eq_def (And.intro @nilCmp.eq_def @xpure.eq_def)) (And.intro (And.intro @xpureT.eq_def @xmem.eq_def) (And.intro @XS.ev.eq_def @constAV.eq_def)))) (And.intro (And.intro (And.intro @XS.init.eq_def (And.intro @XS.initMv.eq_def @env0.eq_1)) (And.intro @env0.eq_2 (And.intro @dOK.eq_def @PF.of.eq_def))) (And.intro (And.intro @PR.pf.eq_def (And.intro @binAV.eq_def @idxAV.eq_def)) (And.intro (And.intro @idxPair.eq_def @bldAV.eq_def) (And.intro @idxRO.eq_def @idxRef.eq_def))))) (And.intro (And.intro (And.intro (And.intro @idxSub.eq_def (And.intro @idxArr.eq_def @ldAV.eq_def)) (And.intro @ldPtr.eq_def (And.intro @lenAV.eq_def @slAV.eq_def))) (And.intro (And.intro @sameAV.eq_def (And.intro @convAV.eq_def @TE.ty.eq_def)) (And.intro (And.intro @appAV.eq_def @own1.eq_def) (And.intro @srcAV.eq_def @stAV.eq_def)))) (And.intro (And.intro (And.intro @mkAV.eq_def (And.intro @bsAV.eq_def @alAV.eq_def)) (And.intro @argAV.eq_def (And.intro @argsAV.eq_1 @argsAV.eq_2))) (And.intro (And.intro @argsAV.eq_3 (And.intro @calleeOf.eq_def @datOf.eq_def)) (And.intro (And.intro @datsOf.eq_1 @datsOf.eq_2) (And.intro @retAV.eq_def @retsAV.eq_1)))))) (And.intro (And.intro (And.intro (And.intro (And.intro @retsAV.eq_2 (And.intro @retsPut.eq_def @binInt.eq_def)) (And.intro @cmpInt.eq_def (And.intro @binBool.eq_def @binStr.eq_def))) (And.intro (And.intro @elAt.eq_def (And.intro @okNode.eq_def @TV.ew.eq_def)) (And.intro (And.intro @XS.also.eq_def @XS.redo.eq_def) (And.intro @XS.redo2.eq_def @XS.wrote.eq_def)))) (And.intro (And.intro (And.intro @XS.took.eq_def (And.intro @nilRT.eq_def @tchOf.eq_def)) (And.intro @tchOK.eq_def (And.intro @XS.pin.eq_def @qOf.eq_def))) (And.intro (And.intro @isNil.eq_def (And.intro @cutEnv.eq_1 @cutEnv.eq_2)) (And.intro (And.intro @AV.shallow.eq_def @shB.eq_def) (And.intro @safeR.eq_1 @safeR.eq_2))))) (And.intro (And.intro (And.intro (And.intro @safeR.eq_3 (And.intro @safeR.eq_4 @safeR.eq_5)) (And.intro @safeR.eq_6 (And.intro @safeR.eq_7 @safeR.eq_8))) (And.intro (And.intro @safeR.eq_9 (And.intro @safeP.eq_1 @safeP.eq_2)) (And.intro (And.intro @safeP.eq_3 @safeP.eq_4) (And.intro @safeP.eq_5 @safeP.eq_6)))) (And.intro (And.intro (And.intro @safeP.eq_7 (And.intro @safeP.eq_8 @safeP.eq_9)) (And.intro @bnd.eq_def (And.intro @capsOf.eq_1 @capsOf.eq_2))) (And.intro (And.intro @inR.eq_def (And.intro @outsOf.eq_1 @outsOf.eq_2)) (And.intro (And.intro @outOf.eq_def @retK.eq_def) (And.intro @XW.thn.eq_def @XW.blk.eq_def)))))))) := And.intro (And.intro (And.intro (And.intro (And.intro (And.intro (And.intro @stCall.eq_def (And.intro @stBox.eq_def @oneOf.eq_def)) (And.intro @oneIn.eq_1 (And.intro @oneIn.eq_2 @oneIn.eq_3))) (And.intro (And.intro @named.eq_1 (And.intro @named.eq_2 @locOf.eq_def)) (And.intro @locIn.eq_1 (And.intro @locIn.eq_2 @locIn.eq_3)))) (And.intro (And.intro (And.intro @stRoots.eq_1 (And.intro @stRoots.eq_2 @stRoots.eq_3)) (And.intro @stRoots.eq_4 (And.intro @stRoots.eq_5 @stRoots.eq_6))) (And.intro (And.intro @stRoots.eq_7 (And.intro @killAll.eq_1 @killAll.eq_2)) (And.intro (And.intro @capAV.eq_def @stVals.eq_1) (And.intro @stVals.eq_2 @stVals.eq_3))))) (And.intro (And.intro (And.intro (And.intro @stVals.eq_4 (And.intro @stVals.eq_5 @stVals.eq_6)) (And.intro @stVals.eq_7 (And.intro @stBoxes.eq_1 @stBoxes.eq_2))) (And.intro (And.intro @stBoxes.eq_3 (And.intro @stBoxes.eq_4 @stBoxes.eq_5)) (And.intro (And.intro @stBoxes.eq_6 @stBoxes.eq_7) (And.intro @noP.eq_def @isBoxP.eq_def)))) (And.intro (And.intro (And.intro @stKeep.eq_def (And.intro @stCut.eq_1 @stCut.eq_2)) (And.intro @stAdd.eq_1 (And.intro @stAdd.eq_2 @stAdd.eq_3))) (And.intro (And.intro @stAdd.eq_4 (And.intro @stAdd.eq_5 @stAdd.eq_6)) (And.intro (And.intro @distinctL.eq_1 @distinctL.eq_2) (And.intro @evs.eq_1 @evs.eq_2)))))) (And.intro (And.intro (And.intro (And.intro (And.intro @XS.initS.eq_def (And.intro @envS.eq_1 @envS.eq_2)) (And.intro @envS.eq_3 (And.intro @envS.eq_4 @envS.eq_5))) (And.intro (And.intro @envS.eq_6 (And.intro @rtsS.eq_1 @rtsS.eq_2)) (And.intro (And.intro @rtsS.eq_3 @rtsS.eq_4) (And.intro @rtsS.eq_5 @rtsS.eq_6)))) (And.intro (And.intro (And.intro @locS.eq_1 (And.intro @locS.eq_2 @wholeAV.eq_def)) (And.intro @noPin.eq_def (And.intro @capTV.eq_1 @capTV.eq_2))) (And.intro (And.intro @XS.initC.eq_def (And.intro @envC.eq_1 @envC.eq_2)) (And.intro (And.intro @xoper.eq_def @xwant.eq_def) (And.intro @cutAt.eq_def @bxAV.eq_def))))) (And.intro (And.intro (And.intro (And.intro @bld3AV.eq_def (And.intro @bld0AV.eq_def @strIdx.eq_def)) (And.intro @XS.trunc.eq_def (And.intro @XS.inPlace.eq_def @RT.withX.eq_def))) (And.intro (And.intro @isNilP.eq_def (And.intro @isOneP.eq_def @fldAV.eq_def)) (And.intro (And.intro @fldP.eq_1 @fldP.eq_2) (And.intro @fldP.eq_3 @fldR.eq_1)))) (And.intro (And.intro (And.intro @fldR.eq_2 (And.intro @fldR.eq_3 @fldR.eq_4)) (And.intro @cpAV.eq_def (And.intro @clAV.eq_def @okB.eq_def))) (And.intro (And.intro @loOf.eq_def (And.intro @hiOf.eq_def @cutL.eq_def)) (And.intro (And.intro @xgd_true @xgd_false) (And.intro @known.eq_def @xdo.eq_def))))))) (And.intro (And.intro (And.intro (And.intro (And.intro (And.intro @mpOp.eq_def (And.intro @mpSet.eq_1 @mpSet.eq_2)) (And.intro @AV.setMp.eq_def (And.intro @AV.plain.eq_def @isMove.eq_def))) (And.intro (And.intro @nilAt.eq_def (And.intro @nilCmp.eq_def @xpure.eq_def)) (And.intro (And.intro @xpureT.eq_def @xmem.eq_def) (And.intro @XS.ev.eq_def @constAV.eq_def)))) (And.intro (And.intro (And.intro @XS.init.eq_def (And.intro @XS.initMv.eq_def @env0.eq_1)) (And.intro @env0.eq_2 (And.intro @dOK.eq_def @PF.of.eq_def))) (And.intro (And.intro @PR.pf.eq_def (And.intro @binAV.eq_def @idxAV.eq_def)) (And.intro (And.intro @idxPair.eq_def @bldAV.eq_def) (And.intro @idxRO.eq_def @idxRef.eq_def))))) (And.intro (And.intro (And.intro (And.intro @idxSub.eq_def (And.intro @idxArr.eq_def @ldAV.eq_def)) (And.intro @ldPtr.eq_def (And.intro @lenAV.eq_def @slAV.eq_def))) (And.intro (And.intro @sameAV.eq_def (And.intro @convAV.eq_def @TE.ty.eq_def)) (And.intro (And.intro @appAV.eq_def @own1.eq_def) (And.intro @srcAV.eq_def @stAV.eq_def)))) (And.intro (And.intro (And.intro @mkAV.eq_def (And.intro @bsAV.eq_def @alAV.eq_def)) (And.intro @argAV.eq_def (And.intro @argsAV.eq_1 @argsAV.eq_2))) (And.intro (And.intro @argsAV.eq_3 (And.intro @calleeOf.eq_def @datOf.eq_def)) (And.intro (And.intro @datsOf.eq_1 @datsOf.eq_2) (And.intro @retAV.eq_def @retsAV.eq_1)))))) (And.intro (And.intro (And.intro (And.intro (And.intro @retsAV.eq_2 (And.intro @retsPut.eq_def @binInt.eq_def)) (And.intro @cmpInt.eq_def (And.intro @binBool.eq_def @binStr.eq_def))) (And.intro (And.intro @elAt.eq_def (And.intro @okNode.eq_def @TV.ew.eq_def)) (And.intro (And.intro @XS.also.eq_def @XS.redo.eq_def) (And.intro @XS.redo2.eq_def @XS.wrote.eq_def)))) (And.intro (And.intro (And.intro @XS.took.eq_def (And.intro @nilRT.eq_def @tchOf.eq_def)) (And.intro @tchOK.eq_def (And.intro @XS.pin.eq_def @qOf.eq_def))) (And.intro (And.intro @isNil.eq_def (And.intro @cutEnv.eq_1 @cutEnv.eq_2)) (And.intro (And.intro @AV.shallow.eq_def @shB.eq_def) (And.intro @safeR.eq_1 @safeR.eq_2))))) (And.intro (And.intro (And.intro (And.intro @safeR.eq_3 (And.intro @safeR.eq_4 @safeR.eq_5)) (And.intro @safeR.eq_6 (And.intro @safeR.eq_7 @safeR.eq_8))) (And.intro (And.intro @safeR.eq_9 (And.intro @safeP.eq_1 @safeP.eq_2)) (And.intro (And.intro @safeP.eq_3 @safeP.eq_4) (And.intro @safeP.eq_5 @safeP.eq_6)))) (And.intro (And.intro (And.intro @safeP.eq_7 (And.intro @safeP.eq_8 @safeP.eq_9)) (And.intro @bnd.eq_def (And.intro @capsOf.eq_1 @capsOf.eq_2))) (And.intro (And.intro @inR.eq_def (And.intro @outsOf.eq_1 @outsOf.eq_2)) (And.intro (And.intro @outOf.eq_def @retK.eq_def) (And.intro @XW.thn.eq_def @XW.blk.eq_def)))))))
theorem zb : type_of% (And.intro (And.intro (And.intro (And.intro (And.intro (And.intro @Option.map_some.{0,0} (And.intro @List.length_set.{0} @List.getElem?_toArray.{0})) (And.intro (And.intro @List.getElem?_cons_succ.{0} @List.getElem?_cons_zero.{0}) (And.intro @beq_true @beq_false))) (And.intro (And.intro @XS.put.eq_def (And.intro @XS.get.eq_def @XS.root.eq_def)) (And.intro (And.intro @lk.eq_1 @lk.eq_2) (And.intro @rm.eq_1 @rm.eq_2)))) (And.intro (And.intro (And.intro @Option.map_none.{0,0} (And.intro @Option.bind_some.{0,0} @Option.bind_none.{0,0})) (And.intro (And.intro @opt2.eq_def @List.size_toArray.{0}) (And.intro @castL_self @castV_self))) (And.intro (And.intro (And.intro @fitD_self @List.length_cons.{0}) (And.intro @List.length_nil.{0} @List.map_cons.{0,0})) (And.intro (And.intro @List.map_nil.{0,0} @if_true.{1}) (And.intro @if_false.{1} @forall_const.{0}))))) (And.intro (And.intro (And.intro (And.intro @forall_const.{1} (And.intro @beq_self_eq_true.{0} @dite_true.{1})) (And.intro (And.intro @dite_false.{1} @ne_eq.{1}) (And.intro @bne_self_eq_false.{0} @List.all_nil.{0}))) (And.intro (And.intro @List.all_cons.{0} (And.intro @List.nil_append.{0} @List.cons_append.{0})) (And.intro (And.intro @List.contains_nil.{0} @List.contains_cons.{0}) (And.intro @Ty.list.injEq @Ty.int.injEq)))) (And.intro (And.intro (And.intro @Ty.prod.injEq (And.intro @Ty.fn.injEq @Ty.row.injEq)) (And.intro (And.intro @List.cons.injEq.{0} @List.length_replicate.{0}) (And.intro @Option.some.injEq.{0} @Int.cast_ofNat_Int))) (And.intro (And.intro (And.intro @RT.at.eq_def @RT.ty.eq_def) (And.intro @RT.sub.eq_def @RT.cut.eq_def)) (And.intro (And.intro @RT.wr.eq_def @getS.eq_1) (And.intro @getS.eq_2 @getS.eq_3)))))) (And.intro (And.intro (And.intro (And.intro (And.intro @getS.eq_4 (And.intro @getS.eq_5 @getS.eq_6)) (And.intro (And.intro @getS.eq_7 @getS.eq_8) (And.intro @getS.eq_9 @getS.eq_10))) (And.intro (And.intro @getS.eq_11 (And.intro @dep.eq_1 @dep.eq_2)) (And.intro (And.intro @dep.eq_3 @dep.eq_4) (And.intro @dep.eq_5 @okS.eq_1)))) (And.intro (And.intro (And.intro @okS.eq_2 (And.intro @okS.eq_3 @okS.eq_4)) (And.intro (And.intro @okS.eq_5 @hclear.eq_def) (And.intro @TV.len.eq_def @XS.addRoot.eq_def))) (And.intro (And.intro (And.intro @XS.kill.eq_def @XS.setRoot.eq_def) (And.intro @pinAlso.eq_def @Ty.flat.eq_1)) (And.intro (And.intro @Ty.flat.eq_2 @Ty.flat.eq_3) (And.intro @Ty.flat.eq_4 @Ty.flat.eq_5))))) (And.intro (And.intro (And.intro (And.intro @Ty.lev.eq_1 (And.intro @Ty.lev.eq_2 @Ty.lev.eq_3)) (And.intro (And.intro @Ty.lev.eq_4 @Ty.lev.eq_5) (And.intro @Ty.dflt.eq_1 @Ty.dflt.eq_2))) (And.intro (And.intro @Ty.dflt.eq_3 (And.intro @Ty.dflt.eq_4 @Ty.dflt.eq_5)) (And.intro (And.intro @Ty.dflt.eq_6 @Ty.dflt.eq_7) (And.intro @Ty.dflt.eq_8 @Ty.width.eq_1)))) (And.intro (And.intro (And.intro @Ty.width.eq_2 (And.intro @setT.eq_1 @setT.eq_2)) (And.intro (And.intro @setT.eq_3 @setT.eq_4) (And.intro @setT.eq_5 @setT.eq_6))) (And.intro (And.intro (And.intro @setT.eq_7 @setT.eq_8) (And.intro @setT.eq_9 @setT.eq_10)) (And.intro (And.intro @setT.eq_11 @prodOf.eq_1) (And.intro @prodOf.eq_2 @prodOf.eq_3))))))) := And.intro (And.intro (And.intro (And.intro (And.intro (And.intro @Option.map_some.{0,0} (And.intro @List.length_set.{0} @List.getElem?_toArray.{0})) (And.intro (And.intro @List.getElem?_cons_succ.{0} @List.getElem?_cons_zero.{0}) (And.intro @beq_true @beq_false))) (And.intro (And.intro @XS.put.eq_def (And.intro @XS.get.eq_def @XS.root.eq_def)) (And.intro (And.intro @lk.eq_1 @lk.eq_2) (And.intro @rm.eq_1 @rm.eq_2)))) (And.intro (And.intro (And.intro @Option.map_none.{0,0} (And.intro @Option.bind_some.{0,0} @Option.bind_none.{0,0})) (And.intro (And.intro @opt2.eq_def @List.size_toArray.{0}) (And.intro @castL_self @castV_self))) (And.intro (And.intro (And.intro @fitD_self @List.length_cons.{0}) (And.intro @List.length_nil.{0} @List.map_cons.{0,0})) (And.intro (And.intro @List.map_nil.{0,0} @if_true.{1}) (And.intro @if_false.{1} @forall_const.{0}))))) (And.intro (And.intro (And.intro (And.intro @forall_const.{1} (And.intro @beq_self_eq_true.{0} @dite_true.{1})) (And.intro (And.intro @dite_false.{1} @ne_eq.{1}) (And.intro @bne_self_eq_false.{0} @List.all_nil.{0}))) (And.intro (And.intro @List.all_cons.{0} (And.intro @List.nil_append.{0} @List.cons_append.{0})) (And.intro (And.intro @List.contains_nil.{0} @List.contains_cons.{0}) (And.intro @Ty.list.injEq @Ty.int.injEq)))) (And.intro (And.intro (And.intro @Ty.prod.injEq (And.intro @Ty.fn.injEq @Ty.row.injEq)) (And.intro (And.intro @List.cons.injEq.{0} @List.length_replicate.{0}) (And.intro @Option.some.injEq.{0} @Int.cast_ofNat_Int))) (And.intro (And.intro (And.intro @RT.at.eq_def @RT.ty.eq_def) (And.intro @RT.sub.eq_def @RT.cut.eq_def)) (And.intro (And.intro @RT.wr.eq_def @getS.eq_1) (And.intro @getS.eq_2 @getS.eq_3)))))) (And.intro (And.intro (And.intro (And.intro (And.intro @getS.eq_4 (And.intro @getS.eq_5 @getS.eq_6)) (And.intro (And.intro @getS.eq_7 @getS.eq_8) (And.intro @getS.eq_9 @getS.eq_10))) (And.intro (And.intro @getS.eq_11 (And.intro @dep.eq_1 @dep.eq_2)) (And.intro (And.intro @dep.eq_3 @dep.eq_4) (And.intro @dep.eq_5 @okS.eq_1)))) (And.intro (And.intro (And.intro @okS.eq_2 (And.intro @okS.eq_3 @okS.eq_4)) (And.intro (And.intro @okS.eq_5 @hclear.eq_def) (And.intro @TV.len.eq_def @XS.addRoot.eq_def))) (And.intro (And.intro (And.intro @XS.kill.eq_def @XS.setRoot.eq_def) (And.intro @pinAlso.eq_def @Ty.flat.eq_1)) (And.intro (And.intro @Ty.flat.eq_2 @Ty.flat.eq_3) (And.intro @Ty.flat.eq_4 @Ty.flat.eq_5))))) (And.intro (And.intro (And.intro (And.intro @Ty.lev.eq_1 (And.intro @Ty.lev.eq_2 @Ty.lev.eq_3)) (And.intro (And.intro @Ty.lev.eq_4 @Ty.lev.eq_5) (And.intro @Ty.dflt.eq_1 @Ty.dflt.eq_2))) (And.intro (And.intro @Ty.dflt.eq_3 (And.intro @Ty.dflt.eq_4 @Ty.dflt.eq_5)) (And.intro (And.intro @Ty.dflt.eq_6 @Ty.dflt.eq_7) (And.intro @Ty.dflt.eq_8 @Ty.width.eq_1)))) (And.intro (And.intro (And.intro @Ty.width.eq_2 (And.intro @setT.eq_1 @setT.eq_2)) (And.intro (And.intro @setT.eq_3 @setT.eq_4) (And.intro @setT.eq_5 @setT.eq_6))) (And.intro (And.intro (And.intro @setT.eq_7 @setT.eq_8) (And.intro @setT.eq_9 @setT.eq_10)) (And.intro (And.intro @setT.eq_11 @prodOf.eq_1) (And.intro @prodOf.eq_2 @prodOf.eq_3))))))

end Fer

/- Arguments, as the form reads them, are typed data. Over any program. -/
namespace Fer
open Go Go.Deep Go.ChangeShapes Go.WideShapes

/-- The table knows type T as t, and what t is made of. -/
def tyOK (tt : List (Nat × TE)) : Nat → Ty → Bool
  | T, .list e t => (match lk tt T with | some (.slice e' t' _) => decide (e = e') && decide (t = t') | _ => false) && tyOK tt e t
  | T, .int k => (match lk tt T with | some (.basic (.int k')) => decide (k = k') | _ => false)
  | T, .bool => (match lk tt T with | some (.basic .bool) => true | _ => false)
  | T, .str => (match lk tt T with | some (.basic .str) => true | _ => false)
  | T, .prod (.int ka) (.int kb) => (match lk tt T with | some (.struct [.int ja, .int jb]) => decide (ka = ja) && decide (kb = jb) | _ => false)
  | _, _ => false

/-- Datum d is read of x. -/
def Rd {H : Type} : (t : Ty) → t.den → DataW H → Prop
  | .int k, n, d => d = .lit (.int k n) ∧ (Lit.int k n).wf = true
  | .bool, b, d => d = .lit (.bool b)
  | .str, s, d => d = .lit (.string s.data.toList) ∧ s.size ≤ maxLen
  | .list _ t, xs, d => (d = .nil ∧ xs = []) ∨ ∃ els sp, d = .slice els sp ∧ els.length = xs.length ∧ ∀ i e, els[i]? = some e → Rd t (xs.getD i t.dflt) e
  | .prod a b, x, d => ∃ d1 d2, d = .agg [d1, d2] ∧ Rd a x.1 d1 ∧ Rd b x.2 d2
  | _, _, _ => False

section
variable {H : Type} {enc : TypeId × Value → H} {P : Program} {tt : List (Nat × TE)} {w : World}

theorem tyOK_some {T : Nat} {t : Ty} (h : tyOK tt T t = true) : ∃ te, lk tt T = some te ∧ te.ty = some t := by
  cases t with
  | list e t =>
    simp only [tyOK, Bool.and_eq_true] at h
    have h := h.1
    split at h
    · rename_i e' t' b hl
      simp only [Bool.and_eq_true, decide_eq_true_eq] at h
      obtain ⟨rfl, rfl⟩ := h
      exact ⟨_, hl, rfl⟩
    · cases h
  | int k =>
    simp only [tyOK] at h
    split at h
    · rename_i k' hl
      simp only [decide_eq_true_eq] at h; subst h
      exact ⟨_, hl, rfl⟩
    · cases h
  | bool =>
    simp only [tyOK] at h
    split at h
    · rename_i hl; exact ⟨_, hl, rfl⟩
    · cases h
  | str =>
    simp only [tyOK] at h
    split at h
    · rename_i hl; exact ⟨_, hl, rfl⟩
    · cases h
  | raw => simp [tyOK] at h
  | fn => simp [tyOK] at h
  | row => simp [tyOK] at h
  | prod a b =>
    unfold tyOK at h
    split at h
    · rename_i h1; cases h1
    · rename_i h1; cases h1
    · rename_i h1; cases h1
    · rename_i h1; cases h1
    · rename_i ka kb h1
      cases h1
      split at h
      · rename_i ja jb hl
        simp only [Bool.and_eq_true, decide_eq_true_eq] at h
        obtain ⟨rfl, rfl⟩ := h
        exact ⟨_, hl, rfl⟩
      · cases h
    · cases h

theorem tyOK_prod {T : Nat} {a b : Ty} (h : tyOK tt T (.prod a b) = true) : ∃ ka kb, a = .int ka ∧ b = .int kb ∧ lk tt T = some (.struct [.int ka, .int kb]) := by
  unfold tyOK at h
  split at h
  · rename_i h1; cases h1
  · rename_i h1; cases h1
  · rename_i h1; cases h1
  · rename_i h1; cases h1
  · rename_i ka kb h1
    cases h1
    split at h
    · rename_i ja jb hl
      simp only [Bool.and_eq_true, decide_eq_true_eq] at h
      obtain ⟨rfl, rfl⟩ := h
      exact ⟨_, _, rfl, rfl, hl⟩
    · cases h
  · cases h

theorem cells_some {w : World} {b off n : Nat} {cs : List Value} (h : w.cells? 0 ⟨b, off, none⟩ n = some cs) (hn : 0 < n) :
    cs.length = n ∧ ∃ arr E fr, w.heap[b]? = some (.cells arr E fr) ∧ off + n ≤ arr.size ∧ cellsAt arr off n = cs := by
  unfold World.cells? at h
  rw [if_pos (Nat.zero_le _)] at h
  have hl := mapM_some_length h
  rw [List.length_range] at hl
  have hg := fun i (hi : i < n) => mapM_some_get h i i (by simp [hi])
  have hcell : ∀ i, i < n → w.cell? ⟨b, off + i, none⟩ = cs[i]? := fun i hi => by rw [← hg i hi, Addr.add_mid]
  have h0 := hcell 0 hn
  have hc0 : ∃ v, cs[0]? = some v := ⟨cs[0], List.getElem?_eq_getElem (by omega)⟩
  obtain ⟨v0, hv0⟩ := hc0
  rw [hv0] at h0
  unfold World.cell? at h0
  refine ⟨hl, ?_⟩
  cases hb : w.heap[b]? with
  | none => simp [hb] at h0
  | some o =>
    cases o with
    | cells arr E fr =>
      have hci : ∀ i, i < n → arr[off + i]? = cs[i]? := fun i hi => by
        have := hcell i hi
        simpa [World.cell?, hb] using this
      have hsz : off + n ≤ arr.size := by
        have := hci (n - 1) (by omega)
        rw [List.getElem?_eq_getElem (by omega : n - 1 < cs.length)] at this
        have := (Array.getElem?_eq_some_iff.1 this).1
        omega
      refine ⟨arr, E, fr, rfl, hsz, ?_⟩
      apply List.ext_getElem?
      intro i
      simp only [cellsAt, List.getElem?_take, List.getElem?_drop, Array.getElem?_toList]
      by_cases hi : i < n
      · rw [if_pos hi]; exact hci i hi
      · rw [if_neg hi, List.getElem?_eq_none (by omega)]
    | _ => simp [hb] at h0

theorem tyOK_int {T : Nat} {k : IntKind} (htt : ttB P tt = true) (h : tyOK tt T (.int k) = true) : P.underlying T = some (.int k) := by
  obtain ⟨te, h1, h2⟩ := tyOK_some h
  have hB := ttB_get htt h1
  cases te with
  | basic t' => simp only [TE.ty, Option.some.injEq] at h2; subst h2; exact basic_te hB
  | slice => simp [TE.ty] at h2
  | arr => simp [TE.ty] at h2
  | struct ts =>
    simp only [TE.ty] at h2
    split at h2
    · rename_i hl
      match ts, hl with
      | a :: b :: l, _ => simp [prodOf] at h2
    · cases h2
  | pair => simp [TE.ty] at h2
  | map => simp [TE.ty] at h2
theorem tyOK_bool {T : Nat} (htt : ttB P tt = true) (h : tyOK tt T .bool = true) : P.underlying T = some .bool := by
  obtain ⟨te, h1, h2⟩ := tyOK_some h
  have hB := ttB_get htt h1
  cases te with
  | basic t' => simp only [TE.ty, Option.some.injEq] at h2; subst h2; exact basic_te hB
  | slice => simp [TE.ty] at h2
  | arr => simp [TE.ty] at h2
  | struct ts =>
    simp only [TE.ty] at h2
    split at h2
    · rename_i hl
      match ts, hl with
      | a :: b :: l, _ => simp [prodOf] at h2
    · cases h2
  | pair => simp [TE.ty] at h2
  | map => simp [TE.ty] at h2
theorem tyOK_str {T : Nat} (htt : ttB P tt = true) (h : tyOK tt T .str = true) : P.underlying T = some .string := by
  obtain ⟨te, h1, h2⟩ := tyOK_some h
  have hB := ttB_get htt h1
  cases te with
  | basic t' => simp only [TE.ty, Option.some.injEq] at h2; subst h2; exact basic_te hB
  | slice => simp [TE.ty] at h2
  | arr => simp [TE.ty] at h2
  | struct ts =>
    simp only [TE.ty] at h2
    split at h2
    · rename_i hl
      match ts, hl with
      | a :: b :: l, _ => simp [prodOf] at h2
    · cases h2
  | pair => simp [TE.ty] at h2
  | map => simp [TE.ty] at h2

theorem tyOK_list {T e : Nat} {t : Ty} (htt : ttB P tt = true) (h : tyOK tt T (.list e t) = true) : P.underlying T = some (.slice e) ∧ P.cellsOf e = t.width ∧ tyOK tt e t = true := by
  have h0 := h
  simp only [tyOK, Bool.and_eq_true] at h
  obtain ⟨te, h1, h2⟩ := tyOK_some h0
  have hB := ttB_get htt h1
  cases te with
  | slice e' t' b =>
    simp only [TE.ty, Option.some.injEq, Ty.list.injEq] at h2
    obtain ⟨rfl, rfl⟩ := h2
    obtain ⟨hT, _, ⟨inf, hi, hsz, _⟩, _⟩ := slice_te hB
    exact ⟨hT, by simp [Program.cellsOf, hi, hsz], h.2⟩
  | basic t' =>
    simp only [TE.ty, Option.some.injEq] at h2; subst h2
    have h := h.1
    rw [h1] at h
    simp at h
  | arr => simp [TE.ty] at h2
  | struct ts =>
    have h := h.1
    rw [h1] at h
    simp at h
  | pair e' t' =>
    have h := h.1
    rw [h1] at h
    simp at h
  | map e' t' =>
    have h := h.1
    rw [h1] at h
    simp at h

theorem trod_int_inv {T fuel : Nat} {k : IntKind} {cs : List Value} {d : DataW H} {ps : List MemPlace} {sp : Nat → Bool} {hd : Bool} (hT : P.underlying T = some (.int k)) (h : DataW.trod enc P w 0 sp hd fuel T cs = some (d, ps)) :
    ∃ n, cs = [.int k n] ∧ (Lit.int k n).wf = true ∧ d = .lit (.int k n) ∧ ps = [] := by
  cases fuel with
  | zero => simp [DataW.trod] at h
  | succ n =>
    unfold DataW.trod at h
    rw [hT] at h
    split at h <;> simp_all

theorem trod_bool_inv {T fuel : Nat} {cs : List Value} {d : DataW H} {ps : List MemPlace} {sp : Nat → Bool} {hd : Bool} (hT : P.underlying T = some .bool) (h : DataW.trod enc P w 0 sp hd fuel T cs = some (d, ps)) :
    ∃ b, cs = [.bool b] ∧ d = .lit (.bool b) ∧ ps = [] := by
  cases fuel with
  | zero => simp [DataW.trod] at h
  | succ n =>
    unfold DataW.trod at h
    rw [hT] at h
    cases cs with
    | nil => simp at h
    | cons v r =>
      cases r with
      | cons u r => cases v <;> simp at h
      | nil =>
        cases v <;> simp at h
        rename_i b
        exact ⟨b, rfl, h.1.symm, h.2⟩

theorem trod_str_inv {T fuel : Nat} {cs : List Value} {d : DataW H} {ps : List MemPlace} {sp : Nat → Bool} {hd : Bool} (hT : P.underlying T = some .string) (h : DataW.trod enc P w 0 sp hd fuel T cs = some (d, ps)) :
    ∃ s : ByteArray, cs = [.string s] ∧ s.size ≤ maxLen ∧ d = .lit (.string s.data.toList) ∧ ps = [] := by
  cases fuel with
  | zero => simp [DataW.trod] at h
  | succ n =>
    unfold DataW.trod at h
    rw [hT] at h
    split at h <;> simp_all

theorem pair_facts {T : Nat} {ka kb : IntKind} (hB : teB P T (.struct [.int ka, .int kb]) = true) : ∃ f0 f1 : Field, P.underlying T = some (.struct #[f0, f1]) ∧ f0.offset = 0 ∧ f1.offset = 1 ∧ P.cellsOf T = 2 ∧ P.cellsOf f0.type = 1 ∧ P.cellsOf f1.type = 1 ∧ P.underlying f0.type = some (.int ka) ∧ P.underlying f1.type = some (.int kb) := by
  obtain ⟨f0, f1, hu, o0, o1, ⟨i0, p0, p1⟩, ⟨i1, p2, p3⟩, hI⟩ := struct2_te hB
  obtain ⟨it, z, g1, g2, _⟩ := (infoB_ok hI).info
  simp only [teB, Bool.and_eq_true] at hB
  obtain ⟨_, h4⟩ := hB
  have h4 : eqB P T [.int ka, .int kb] = true := by simpa [Ty.isInt] using h4
  unfold eqB at h4
  rw [hu] at h4
  simp only [intF, Bool.and_eq_true] at h4
  obtain ⟨⟨⟨⟨_, u0⟩, ⟨_, u1⟩, _⟩, _⟩, _⟩ := h4
  have key : ∀ (f : Field) (k : IntKind), (match P.underlying f.type with | some (.int k') => decide (k = k') | _ => false) = true → P.underlying f.type = some (.int k) := by
    intro f k hf
    split at hf
    · rename_i k' e; rw [e]; simp at hf; rw [hf]
    · cases hf
  exact ⟨f0, f1, hu, o0, o1, by simp [Program.cellsOf, g1, g2, Ty.width], by simp [Program.cellsOf, p0, p1, Ty.width], by simp [Program.cellsOf, p2, p3, Ty.width], key f0 ka u0, key f1 kb u1⟩

theorem trod_pair {T : Nat} {ka kb : IntKind} (hB : teB P T (.struct [.int ka, .int kb]) = true) {fuel : Nat} {cs : List Value} {d : DataW H} {ps : List MemPlace} {sp : Nat → Bool} {hd : Bool} (h : DataW.trod enc P w 0 sp hd fuel T cs = some (d, ps)) :
    ∃ m n, cs = [.int ka m, .int kb n] ∧ (Lit.int ka m).wf = true ∧ (Lit.int kb n).wf = true ∧ d = .agg [.lit (.int ka m), .lit (.int kb n)] ∧ ps = [] := by
  obtain ⟨f0, f1, hu, o0, o1, c, c0, c1, u0, u1⟩ := pair_facts hB
  cases fuel with
  | zero => simp [DataW.trod] at h
  | succ k =>
    unfold DataW.trod at h
    simp only [hu] at h
    split at h
    · rename_i hl
      rw [c] at hl
      obtain ⟨x, y, rfl⟩ : ∃ x y, cs = [x, y] := by
        match cs, hl with
        | [x, y], _ => exact ⟨x, y, rfl⟩
      simp only [List.mapM_cons, List.mapM_nil, o0, o1, c0, c1, List.drop_zero, List.take_succ_cons, List.take_zero, List.drop_succ_cons, Option.bind_eq_bind, Option.pure_def] at h
      cases h0 : DataW.trod enc P w 0 sp hd k f0.type [x] with
      | none => rw [h0] at h; simp at h
      | some q0 =>
        cases h1 : DataW.trod enc P w 0 sp hd k f1.type [y] with
        | none => rw [h0, h1] at h; simp at h
        | some q1 =>
          obtain ⟨e0, l0⟩ := q0
          obtain ⟨e1, l1⟩ := q1
          obtain ⟨m, q1, q2, rfl, rfl⟩ := trod_int_inv u0 h0
          obtain ⟨n, q3, q4, rfl, rfl⟩ := trod_int_inv u1 h1
          rw [h0, h1] at h
          simp only [List.cons.injEq, and_true] at q1 q3
          subst q1 q3
          simp at h
          exact ⟨m, n, rfl, q2, q4, h.1.symm, h.2⟩
    · cases h

theorem trod_pair_mk {T : Nat} {ka kb : IntKind} (hB : teB P T (.struct [.int ka, .int kb]) = true) {m n : Int} (hm : (Lit.int ka m).wf = true) (hn : (Lit.int kb n).wf = true) {sp : Nat → Bool} {hd : Bool} :
    DataW.trod enc P w 0 sp hd 2 T [.int ka m, .int kb n] = some (.agg [.lit (.int ka m), .lit (.int kb n)], []) := by
  obtain ⟨f0, f1, hu, o0, o1, c, c0, c1, u0, u1⟩ := pair_facts hB
  unfold DataW.trod
  simp only [hu]
  rw [if_pos (by rw [c]; rfl)]
  simp only [List.mapM_cons, List.mapM_nil, o0, o1, c0, c1, List.drop_zero, List.take_succ_cons, List.take_zero, List.drop_succ_cons, Option.bind_eq_bind, Option.pure_def]
  rw [show (1 : Nat) = 0 + 1 from rfl, trod_int_mk 0 u0 hm, trod_int_mk 0 u1 hn]
  rfl

theorem trod_open (htt : ttB P tt = true) : ∀ (t : Ty) (T fuel : Nat) (cs : List Value) (d : DataW H) (ps : List MemPlace), tyOK tt T t = true → DataW.trod enc P w 0 (fun _ => true) true fuel T cs = some (d, ps) →
    ∃ x, RO w (oldS w) t x cs ∧ Rd t x d ∧ ∀ (w' : World) (sp : Nat → Bool), (∀ n, n < w.heap.size → w'.heap[n]? = w.heap[n]?) → (∀ p ∈ ps, sp p.block = true) → ∃ n, DataW.trod enc P w' 0 sp true n T cs = some (d, ps)
  | .int k, T, fuel, cs, d, ps, hty, h => by
    have hT := tyOK_int htt hty
    obtain ⟨n, rfl, hw, rfl, rfl⟩ := trod_int_inv hT h
    exact ⟨n, rfl, ⟨rfl, hw⟩, fun w' sp _ _ => ⟨1, trod_int_mk 0 hT hw⟩⟩
  | .bool, T, fuel, cs, d, ps, hty, h => by
    have hT := tyOK_bool htt hty
    obtain ⟨b, rfl, rfl, rfl⟩ := trod_bool_inv hT h
    exact ⟨b, rfl, rfl, fun w' sp _ _ => ⟨1, by unfold DataW.trod; rw [hT]⟩⟩
  | .str, T, fuel, cs, d, ps, hty, h => by
    have hT := tyOK_str htt hty
    obtain ⟨s, rfl, hs, rfl, rfl⟩ := trod_str_inv hT h
    exact ⟨s, rfl, ⟨rfl, hs⟩, fun w' sp _ _ => ⟨1, by unfold DataW.trod; rw [hT]; simp [hs]⟩⟩
  | .list e t, T, fuel, cs, d, ps, hty, h => by
    obtain ⟨hT, hc, hty'⟩ := tyOK_list htt hty
    rcases open_slice hT h with ⟨rfl, hx⟩ | ⟨a, len, cap, m, n, D, Pl, rfl, hb, hl, hm, hmm, hx, hel⟩
    · simp only [Prod.mk.injEq] at hx
      obtain ⟨rfl, rfl⟩ := hx
      refine ⟨[], ⟨none, 0, rfl, Nat.le_refl _, Nat.zero_le _, fun h => absurd rfl h⟩, .inl ⟨rfl, rfl⟩, fun w' sp _ _ => ⟨1, by simp [DataW.trod, hT]⟩⟩
    · simp only [if_true] at hmm
      have hmm := hmm.symm
      subst hmm
      simp only [Prod.mk.injEq] at hx
      obtain ⟨rfl, rfl⟩ := hx
      rw [hc] at hel
      have hw := t.width_pos
      have ih : ∀ i, ∃ q : List Value × t.den, i < cap → w.cells? 0 (a.add (i * t.width)) t.width = some q.1 ∧ RO w (oldS w) t q.2 q.1 ∧ Rd t q.2 (D i) ∧ ∀ (w' : World) (sp : Nat → Bool), (∀ n, n < w.heap.size → w'.heap[n]? = w.heap[n]?) → (∀ p ∈ Pl i, sp p.block = true) →
          ∃ n, DataW.trod enc P w' 0 sp true n e q.1 = some (D i, Pl i) := fun i => by
        by_cases hi : i < cap
        · obtain ⟨cs', h1, h2⟩ := hel i hi
          obtain ⟨x, h3, h4, h5⟩ := trod_open htt t e n cs' (D i) (Pl i) hty' h2
          exact ⟨(cs', x), fun _ => ⟨h1, h3, h4, h5⟩⟩
        · exact ⟨([], t.dflt), fun h => absurd h hi⟩
      let G : Nat → List Value × t.den := fun i => (ih i).choose
      have hG : ∀ i, i < cap → w.cells? 0 (a.add (i * t.width)) t.width = some (G i).1 ∧ RO w (oldS w) t (G i).2 (G i).1 ∧ Rd t (G i).2 (D i) ∧ ∀ (w' : World) (sp : Nat → Bool), (∀ n, n < w.heap.size → w'.heap[n]? = w.heap[n]?) → (∀ p ∈ Pl i, sp p.block = true) →
          ∃ n, DataW.trod enc P w' 0 sp true n e (G i).1 = some (D i, Pl i) := fun i hi => (ih i).choose_spec hi
      have hgd : ∀ i, i < len → ((List.range len).map fun i => (G i).2).getD i t.dflt = (G i).2 := fun i hi => by
        simp [List.getD_eq_getElem?_getD, hi]
      refine ⟨(List.range len).map fun i => (G i).2, ⟨some a, cap, by simp, by simpa using hl, hm, fun hne => ?_⟩, .inr ⟨_, _, rfl, by simp, fun i d hd => ?_⟩, fun w' sp hw' hsp => ?_⟩
      · have hlen : 0 < len := by
          rcases Nat.eq_zero_or_pos len with h | h
          · subst h; simp at hne
          · exact h
        obtain ⟨b, off, spot⟩ := a
        have h0 := (hG 0 (by omega)).1
        have hspot : spot = none := by
          obtain ⟨_, hl0, hcell⟩ := World.cells?_some h0
          have h1 := hcell 0 hw
          simp only [Nat.zero_mul, Addr.add, if_true] at h1
          rw [List.getElem?_eq_getElem (by omega)] at h1
          unfold World.cell? at h1
          split at h1
          · split at h1
            · cases h1
            · rename_i hsp; simpa using hsp
          · cases h1
        subst hspot
        have key : ∀ i, i < cap → (G i).1.length = t.width ∧ ∃ arr E fr, w.heap[b]? = some (.cells arr E fr) ∧ off + i * t.width + t.width ≤ arr.size ∧ cellsAt arr (off + i * t.width) t.width = (G i).1 := fun i hi => by
          have h := (hG i hi).1
          rw [Addr.add_mid] at h
          exact cells_some h hw
        obtain ⟨_, arr, E, fr, hb0, _, _⟩ := key 0 (by omega)
        have key' : ∀ i, i < cap → off + i * t.width + t.width ≤ arr.size ∧ cellsAt arr (off + i * t.width) t.width = (G i).1 := fun i hi => by
          obtain ⟨_, arr', E', fr', hb', h1, h2⟩ := key i hi
          rw [hb0] at hb'
          simp only [Option.some.injEq, Obj.cells.injEq] at hb'
          obtain ⟨rfl, _, _⟩ := hb'
          exact ⟨h1, h2⟩
        refine ⟨b, off, arr, E, fr, rfl, (Array.getElem?_eq_some_iff.1 hb0).1, hb0, ?_, fun i hi => ?_⟩
        · simp only [List.length_map, List.length_range]
          have h1 := (key' (len - 1) (by omega)).1
          have h2 : (len - 1) * t.width + t.width = len * t.width := by rw [← Nat.succ_mul]; congr 1; omega
          omega
        · have hi' : i < len := by simpa using hi
          rw [hgd i hi', (key' i (by omega)).2]
          exact (hG i (by omega)).2.1
      · simp only [List.getElem?_map] at hd
        have hi' : i < len := by
          by_cases h : i < len
          · exact h
          · rw [List.getElem?_eq_none (by simpa using h)] at hd; cases hd
        rw [List.getElem?_range hi'] at hd
        simp only [Option.map_some, Option.some.injEq] at hd
        subst hd
        rw [hgd i hi']
        exact (hG i (by omega)).2.2.1
      · have hel' : ∀ i, i < cap → ∃ cs n, w'.cells? 0 (a.add (i * P.cellsOf e)) (P.cellsOf e) = some cs ∧ DataW.trod enc P w' 0 sp true n e cs = some (D i, Pl i) := fun i hi => by
          obtain ⟨h1, _, _, h2⟩ := hG i hi
          obtain ⟨n', h3⟩ := h2 w' sp hw' fun p hp => hsp p (List.mem_append_right _ (List.mem_flatMap.2 ⟨i, List.mem_range.2 hi, hp⟩))
          refine ⟨(G i).1, n', ?_, h3⟩
          rw [hc]
          have hblk := World.cells?_block h1 hw
          rw [← h1]
          unfold World.cells?
          rw [if_pos (Nat.zero_le _), if_pos (Nat.zero_le _)]
          congr 1
          funext j
          have hbj : ((a.add (i * t.width)).add j).block = (a.add (i * t.width)).block := by unfold Addr.add; split <;> rfl
          simp only [World.cell?]
          rw [hbj, hw' _ hblk]
        by_cases hcap : cap = 0
        · subst hcap
          have hl0 : len = 0 := by omega
          subst hl0
          by_cases hs : sp a.block = true
          · exact shut_slice_whole_cells hT (Nat.zero_le _) (Nat.le_refl _) hm hs D Pl hel'
          · obtain ⟨n', hn'⟩ := shut_slice_cells (len := 0) (cap := 0) hT (Nat.zero_le _) (Nat.le_refl _) hm (by simpa using hs) D Pl (fun i hi => hel' i hi)
            exact ⟨n', by simpa using hn'⟩
        · have hs : sp a.block = true := by
            refine hsp (.cell a.block (a.off + 0)) (List.mem_append_left _ ?_)
            simp only [MemPlace.row, List.mem_map, List.mem_range]
            exact ⟨0, by rw [hc]; exact Nat.mul_pos (by omega) hw, rfl⟩
          exact shut_slice_whole_cells hT (Nat.zero_le _) hl hm hs D Pl hel'
  | .raw, T, fuel, cs, d, ps, hty, h => by simp [tyOK] at hty
  | .fn _ _, T, fuel, cs, d, ps, hty, h => by simp [tyOK] at hty
  | .row _ _, T, fuel, cs, d, ps, hty, h => by simp [tyOK] at hty
  | .prod a b, T, fuel, cs, d, ps, hty, h => by
    obtain ⟨ka, kb, rfl, rfl, hl⟩ := tyOK_prod hty
    have hB := ttB_get htt hl
    obtain ⟨m, n, rfl, hm, hn, rfl, rfl⟩ := trod_pair hB h
    exact ⟨(m, n), ⟨[.int ka m], [.int kb n], rfl, rfl, rfl⟩, ⟨_, _, rfl, ⟨rfl, hm⟩, ⟨rfl, hn⟩⟩, fun w' sp _ _ => ⟨2, trod_pair_mk hB hm hn⟩⟩

end
end Fer

/- From a function's contract to what the form asks of a law's call. Over any program. -/
namespace Fer
open Go Go.ChangeShapes Go.WideShapes Go.RowKit

/-- Data that are read of typed arguments. -/
inductive RdAll {H : Type} : List TV → List (DataW H) → Prop
  | nil : RdAll [] []
  | cons {v d vs ds} (h : Rd v.t v.x d) (hl : RdAll vs ds) : RdAll (v :: vs) (d :: ds)

def tysOK (tt : List (Nat × TE)) : List Nat → List Ty → Bool
  | [], [] => true
  | T :: Ts, t :: ts => (tyOK tt T t && !t.isProd) && tysOK tt Ts ts
  | _, _ => false

section
variable {H : Type} {enc : TypeId × Value → H} {P : Program} {tt : List (Nat × TE)} {w : World}

theorem okWide_cells (htt : ttB P tt = true) {T base : Nat} {t : Ty} (h : tyOK tt T t = true) (hp : t.isProd = false) {v : Value} (hv : Value.okWide P w .any base T v) : v.cells.toList = [v] ∧ pack t [v] = v := by
  cases t with
  | int k => have hT := tyOK_int htt h; simp only [Value.okWide, hT, Cell.okWide] at hv; cases v <;> simp_all [Cell.ok, Value.cells, pack]
  | bool => have hT := tyOK_bool htt h; simp only [Value.okWide, hT, Cell.okWide] at hv; cases v <;> simp_all [Cell.ok, Value.cells, pack]
  | str => have hT := tyOK_str htt h; simp only [Value.okWide, hT, Cell.okWide] at hv; cases v <;> simp_all [Cell.ok, Value.cells, pack]
  | list e t =>
    obtain ⟨hT, _, _⟩ := tyOK_list htt h
    obtain ⟨a, len, cap, rfl⟩ := okWide_slice hT hv
    exact ⟨rfl, rfl⟩
  | raw => simp [tyOK] at h
  | fn => simp [tyOK] at h
  | row => simp [tyOK] at h
  | prod a b => simp [Ty.isProd] at hp

theorem args_open (htt : ttB P tt = true) : ∀ (Ts : List Nat) (ts : List Ty) (vs : List Value) (ds : List (DataW H)) (ps : List MemPlace), tysOK tt Ts ts = true → DataW.TrodAll enc P w 0 (fun _ => true) true Ts vs ds ps →
    (∀ (j : Nat) T v, Ts[j]? = some T → vs[j]? = some v → Value.okWide P w .any 0 T v) →
    ∃ tvs, Args w (oldS w) ts tvs vs ∧ RdAll tvs ds ∧ ∀ (w' : World) (sp : Nat → Bool), (∀ n, n < w.heap.size → w'.heap[n]? = w.heap[n]?) → (∀ p ∈ ps, sp p.block = true) → DataW.TrodAll enc P w' 0 sp true Ts vs ds ps
  | [], ts, vs, ds, ps, hty, h, _ => by
    obtain ⟨rfl, rfl, rfl⟩ := trodAll_nil h
    cases ts with
    | nil => exact ⟨[], .nil, .nil, fun _ _ _ _ => trodAll_mk0⟩
    | cons => simp [tysOK] at hty
  | T :: Ts, ts, vs, ds, ps, hty, h, hv => by
    obtain ⟨v, vs, d, ds, p, q, rfl, rfl, rfl, h1, h2⟩ := trodAll_cons h
    cases ts with
    | nil => simp [tysOK] at hty
    | cons t ts =>
      simp only [tysOK, Bool.and_eq_true, Bool.not_eq_true'] at hty
      obtain ⟨fuel, h1⟩ := h1
      obtain ⟨e1, e2⟩ := okWide_cells htt hty.1.1 hty.1.2 (hv 0 T v rfl rfl)
      rw [e1] at h1
      obtain ⟨x, r1, r2, r3⟩ := trod_open htt t T fuel [v] d p hty.1.1 h1
      obtain ⟨tvs, a1, a2, a3⟩ := args_open htt Ts ts vs ds q hty.2 h2 (fun j T' v' hj hj' => hv (j + 1) T' v' (by simpa using hj) (by simpa using hj'))
      refine ⟨⟨t, x⟩ :: tvs, ?_, .cons r2 a2, fun w' sp hw' hsp => ?_⟩
      · have := Args.cons r1 a1; rwa [e2] at this
      · obtain ⟨n, hn⟩ := r3 w' sp hw' fun y hy => hsp y (List.mem_append_left _ hy)
        exact trodAll_cons_mk ⟨n, by rw [e1]; exact hn⟩ (a3 w' sp hw' fun y hy => hsp y (List.mem_append_right _ hy))

theorem trodAll_len {base : Nat} {sp : Nat → Bool} {b : Bool} : ∀ {Ts : List Nat} {vs : List Value} {ds : List (DataW H)} {ps : List MemPlace}, DataW.TrodAll enc P w base sp b Ts vs ds ps → ds.length = Ts.length
  | [], _, _, _, h => by obtain ⟨_, rfl, _⟩ := trodAll_nil h; rfl
  | T :: Ts, _, _, _, h => by
    obtain ⟨v, vs, d, ds, p, q, _, rfl, _, _, h2⟩ := trodAll_cons h
    simp [trodAll_len h2]

theorem Grew.kept {w w' : World} (g : Grew w w') (may : MemPlace → Prop) : w.keptBut w' may := by
  refine ⟨g.os, g.output.out, fun i hi => ?_⟩
  rw [g.old i hi]
  have := (World.keptBut_refl w may).2.2 i hi
  exact this

/-- A law's call. -/
theorem post_of_same_old {f : Func} {s : ChangeSpec} {apart fresh handsOn again : Bool} {W W' : World} {args : Array Value} {v : Value} {ds gs : List (DataW H)} {before pa pv : List MemPlace}
    (hW : DataW.Whole enc P f.params.toList s.vars apart W args.toList ds gs before)
    (hres : ∀ (b : Nat) (sp : Nat → Bool) (hd : Bool), DataW.TrodAll enc P W' b sp hd f.resultTypes.toList (v.resultList f.resultTypes.size) (s.fn H (ds ++ gs)).results [])
    (hargs : ∀ sp : Nat → Bool, (∀ p ∈ before, sp p.block = true) → DataW.TrodAll enc P W' 0 sp true f.params.toList args.toList (s.fn H (ds ++ gs)).args pa)
    (hvars : ∀ sp : Nat → Bool, (∀ p ∈ before, sp p.block = true) → DataW.TrodVars enc P W' sp s.vars (s.fn H (ds ++ gs)).vars pv)
    (hps : before = pa ++ pv) (hk : W.keptBut W' (· ∈ before)) (hfz : ∀ a, a.block < W.heap.size → W'.frozen? a = W.frozen? a)
    (hok : ∀ (j : Nat) (t : TypeId) (r : Value), f.resultTypes[j]? = some t → (v.resultList f.resultTypes.size)[j]? = some r → Value.okWide P W' .any 0 t r) :
    s.post enc P f apart fresh handsOn again W args v W' := by
  have hlt := hW.lt
  have hold : ∀ p ∈ before, (fun b => decide (b < W.heap.size)) p.block = true := fun p hp => by simpa using hlt p hp
  refine ⟨ds, gs, before, [], pa, pv, hW, hres _ _ _, hargs _ hold, hvars _ hold, World.keptBut_mono (fun p hp => ⟨hp, ?_⟩) hk, fun _ => ?_⟩
  · rw [hps, List.mem_append] at hp
    exact Or.inr hp
  · obtain ⟨_, _, _, _, _, hz, hn⟩ := hW
    refine ⟨hok, _, _, ([] ++ pa) ++ pv, ⟨[] ++ pa, pv, trodAll_append (hargs _ (fun _ _ => rfl)) (hres _ _ _), hvars _ (fun _ _ => rfl), rfl, ?_, ?_⟩, ?_⟩
    · intro b off hp
      have hb : MemPlace.cell b off ∈ before := by rw [hps]; simpa using hp
      rw [hfz _ (hlt _ hb)]
      exact hz b off hb
    · intro ha
      have := hn ha
      rw [hps] at this
      simpa using this
    · intro p hp _
      rw [hps]
      simpa using hp

theorem law_calls2 {f : Nat} {fn : Func} {sp : Spec} {T : Nat} (htt : ttB P tt = true) (hOK : FnOK P f sp) (htys : tysOK tt fn.params.toList sp.ps = true) (hrt : fn.resultTypes = #[T]) (hT : P.underlying T = some .bool)
    {s : ChangeSpec} (hvars : s.vars = []) {W : World} {args : Array Value} {ds gs : List (DataW H)} {before : List MemPlace} (hspec : s.fn H ds = { results := [.lit (.bool true)], args := ds })
    (hval : ∀ (j : Nat) t v, fn.params[j]? = some t → args[j]? = some v → Value.okWide P W .any 0 t v)
    (hW : DataW.Whole enc P fn.params.toList s.vars false W args.toList ds gs before)
    (hwp : ∀ tvs : List TV, tvs.map (·.t) = sp.ps → RdAll tvs ds → sp.wp tvs fun outs => outs = [⟨.bool, true⟩]) {fresh handsOn again : Bool} :
    Calls P f args W fun e W' => ∃ v, e = .returned v ∧ s.post enc P fn false fresh handsOn again W args v W' := by
  have hW' := hW
  rw [hvars] at hW
  obtain ⟨p, q, hA, hV, rfl, hfz, hnd⟩ := hW
  obtain ⟨rfl, rfl⟩ := trodVars_none hV
  obtain ⟨tvs, a1, a2, a3⟩ := args_open htt fn.params.toList sp.ps args.toList ds p htys hA (fun j T v h1 h2 => hval j T v (by simpa using h1) (by simpa using h2))
  have hc := hOK.2 tvs _ (hwp tvs (args_get a1).2.1 a2) W args.toList a1
  have hargs : args.toList.toArray = args := Array.toArray_toList
  rw [hargs] at hc
  refine hc.mono fun e W' he => ?_
  cases e with
  | panicked => exact he.elim
  | outgrown => exact he.elim
  | returned v =>
    obtain ⟨g, outs, us, F, rfl, rfl, hR⟩ := he
    cases hR with
    | cons h1 hl hd =>
      cases hl
      obtain ⟨_, _, cs, rfl, hb⟩ := h1
      simp only [RO] at hb
      subst hb
      have hv : valOf [pack Ty.bool [Value.bool true]] = .bool true := rfl
      rw [hv]
      have hspec' : s.fn H (ds ++ []) = { results := [.lit (.bool true)], args := ds } := by rw [List.append_nil]; exact hspec
      refine ⟨_, rfl, post_of_same_old (pa := p) (pv := []) hW' (fun b sp' hd' => ?_) (fun sp' hsp => ?_) (fun _ _ => ?_) rfl (g.kept _) (fun a ha => g.output.fz a trivial ha) (fun j T' r hj hr => ?_)⟩
      · rw [hrt, hspec']
        exact trodAll_cons_mk (p := []) (p' := []) (shut_bool hT true) trodAll_mk0
      · rw [hspec']
        exact a3 W' sp' g.old fun y hy => hsp y (by simpa using hy)
      · rw [hspec', hvars]; rfl
      · rw [hrt] at hj hr
        cases j with
        | zero =>
          simp [Value.resultList] at hj hr
          subst hj; subst hr
          exact okWide_bool_mk hT _
        | succ j => simp at hj

end
end Fer

/- A row that the library's functions turn in place (the kit's words for it), and an owned list of plain data. Over any program. -/
namespace Fer
open Go Go.Sort

/-- Numbers, truth values, texts, and pairs of such. -/
def Ty.num : Ty → Bool
  | .list _ _ | .raw | .fn _ _ | .row _ _ => false
  | .prod a b => a.num && b.num
  | _ => true

def encT : (t : Ty) → t.den → List Value
  | .int k, n => [.int k n]
  | .bool, b => [.bool b]
  | .str, s => [.string s]
  | .raw, v => [v]
  | .list _ _, _ | .fn _ _, _ | .row _ _, _ => [undef]
  | .prod a b, x => encT a x.1 ++ encT b x.2

instance (t : Ty) : Inhabited t.den := ⟨t.dflt⟩

theorem encT_len : ∀ (t : Ty) (x : t.den), (encT t x).length = t.width
  | .int _, _ | .bool, _ | .str, _ | .raw, _ | .list _ _, _ | .fn _ _, _ | .row _ _, _ => rfl
  | .prod a b, x => by simp [encT, Ty.width, encT_len a, encT_len b]
theorem encT_one : ∀ (t : Ty) (x : t.den), t.num = true → ∀ v ∈ encT t x, v.oneCell' = true
  | .int _, _, _, v, hv | .bool, _, _, v, hv | .str, _, _, v, hv => by
    simp only [encT, List.mem_singleton] at hv
    subst hv
    rfl
  | .raw, _, h, _, _ | .list _ _, _, h, _, _ | .fn _ _, _, h, _, _ | .row _ _, _, h, _, _ => by simp [Ty.num] at h
  | .prod a b, x, h, v, hv => by
    simp only [Ty.num, Bool.and_eq_true] at h
    rcases List.mem_append.1 hv with hv | hv
    · exact encT_one a x.1 h.1 v hv
    · exact encT_one b x.2 h.2 v hv
theorem enc_ro {w : World} {S : Nat → Prop} : ∀ (t : Ty) (x : t.den), t.num = true → RO w S t x (encT t x)
  | .int _, _, _ | .bool, _, _ | .str, _, _ => rfl
  | .raw, _, h | .list _ _, _, h | .fn _ _, _, h | .row _ _, _, h => by simp [Ty.num] at h
  | .prod a b, x, h => by
    simp only [Ty.num, Bool.and_eq_true] at h
    exact ⟨_, _, rfl, enc_ro a x.1 h.1, enc_ro b x.2 h.2⟩
theorem num_flat : ∀ {t : Ty}, t.num = true → t.flat = true ∧ t.lev = 0
  | .int _, _ | .bool, _ | .str, _ => ⟨rfl, rfl⟩
  | .raw, h | .list _ _, h | .fn _ _, h | .row _ _, h => by simp [Ty.num] at h
  | .prod a b, h => by
    simp only [Ty.num, Bool.and_eq_true] at h
    obtain ⟨h1, h2⟩ := num_flat h.1
    obtain ⟨h3, h4⟩ := num_flat h.2
    exact ⟨by simp [Ty.flat, h1, h3], by simp [Ty.lev, h2, h4]⟩
theorem own_enc {w : World} {S : Nat → Prop} : ∀ {t : Ty} {k : Nat} {x : t.den} {ct : CT} {cs : List Value} {F : Nat → Prop}, t.num = true → Own w S t k x none ct cs F → cs = encT t x ∧ ∀ n, ¬ F n
  | .int _, _, _, _, _, _, _, ⟨h1, h⟩ | .bool, _, _, _, _, _, _, ⟨h1, h⟩ | .str, _, _, _, _, _, _, ⟨h1, h⟩ => by
    rcases h with ⟨h, _⟩ | ⟨_, h⟩
    · cases h
    · exact ⟨h, h1⟩
  | .raw, _, _, _, _, _, h, _ | .list _ _, _, _, _, _, _, h, _ | .fn _ _, _, _, _, _, _, h, _ | .row _ _, _, _, _, _, _, h, _ => by simp [Ty.num] at h
  | .prod a b, k, x, ct, cs, F, h, H => by
    simp only [Ty.num, Bool.and_eq_true] at h
    rcases H with ⟨h0, _⟩ | ⟨_, H⟩
    · cases h0
    · cases ct with
      | pair c d =>
        obtain ⟨c1, c2, F1, F2, rfl, g1, g2, g3, g4⟩ := H
        rw [hsub_none] at g3 g4
        obtain ⟨rfl, e1⟩ := own_enc h.1 g3
        obtain ⟨rfl, e2⟩ := own_enc h.2 g4
        exact ⟨rfl, fun n hn => ((g1 n).1 hn).elim (e1 n) (e2 n)⟩
      | nil => exact H.elim
      | leaf => exact H.elim
      | node => exact H.elim

theorem cells_get {arr : Array Value} {o n c : Nat} {l : List Value} (h : cellsAt arr o n = l) (hl : l.length = n) (hc : c < n) : arr[o + c]? = some l[c]! := by
  have h1 : l[c]? = some l[c]! := by rw [getElem!_pos l c (by omega)]; exact List.getElem?_eq_getElem _
  rw [← h1, ← h]
  simp only [cellsAt, List.getElem?_take, if_pos hc, List.getElem?_drop, Array.getElem?_toList]

theorem toArray_at {t : Ty} (x : List t.den) {i : Nat} (h : i < x.length) : x.toArray[i]! = x.getD i t.dflt := by
  rw [getElem!_pos _ i (by simpa using h), List.getD_eq_getElem?_getD, List.getElem?_eq_getElem h]
  simp

/-- An owned list of plain data is a row. -/
theorem own_holds {w : World} {S : Nat → Prop} {e : Nat} {t : Ty} {k : Nat} {x : List t.den} {ct : CT} {v : Value} {F : Nat → Prop} (hn : t.num = true) (H : Own w S (.list e t) (k + 1) x none ct [v] F) (hne : x ≠ []) :
    ∃ b cap arr, v = .slice (some ⟨b, 0, none⟩) x.length cap ∧ x.length ≤ cap ∧ cap ≤ maxLen ∧ w.heap[b]? = some (.cells arr e (0, 0)) ∧ arr.size = cap * t.width ∧ (∀ n, F n ↔ n = b) ∧ HoldsK (encT t) t.width w b 0 x.toArray := by
  rcases own_inv H with ⟨_, h, _⟩ | ⟨b, cap, kids, arr, Fs, rfl, hv, q2, q3, h4, h5, g1, g2, g3, g4⟩
  · exact absurd h hne
  · have hE := fun i (hi : i < x.length) => own_enc hn (g4 i hi)
    refine ⟨b, cap, arr, by simpa using hv, q2, q3, h4, h5, fun n => ⟨fun h => ?_, fun h => (g1 n).2 (.inl h)⟩, fun j hj => ?_⟩
    · rcases (g1 n).1 h with h | ⟨i, hi, h⟩
      · exact h
      · exact absurd h ((hE i hi).2 n)
    · rw [size_flatK] at hj
      have hw := t.width_pos
      have hsz : x.toArray.size = x.length := by simp
      rw [hsz] at hj
      have hi : j / t.width < x.length := Nat.div_lt_of_lt_mul (by rw [Nat.mul_comm]; exact hj)
      have hc := Nat.mod_lt j hw
      have hg := cells_get (hE _ hi).1 (encT_len t _) hc
      have hdm : j / t.width * t.width + j % t.width = j := by rw [Nat.mul_comm]; exact Nat.div_add_mod j t.width
      rw [hdm] at hg
      constructor
      · simp only [World.cell?, h4, Nat.zero_add]
        rw [get_flatK _ _ _ _ (by rw [hsz]; exact hj), toArray_at x hi]
        simpa using hg
      · simp [World.frozen?, h4]

/-- .. and a row in which others stand is an owned list again. -/
theorem holds_own {w' : World} {e : Nat} {t : Ty} {x' : List t.den} {b cap : Nat} {arr : Array Value} (hn : t.num = true) (hb : w'.heap[b]? = some (.cells (putCells id 0 (flatK (encT t) t.width x'.toArray) arr) e (0, 0)))
    (hsz : arr.size = cap * t.width) (hl : x'.length ≤ cap) (hc : cap ≤ maxLen) : ∃ ct, Own w' noS (.list e t) (t.lev + 1) x' none ct [.slice (some ⟨b, 0, none⟩) x'.length cap] (fun n => n = b) := by
  have hps : (putCells id 0 (flatK (encT t) t.width x'.toArray) arr).size = cap * t.width := by simp [putCells, hsz]
  refine ⟨.node b cap (fun _ => CT.of t), .inr ⟨by simp, rfl, hl, hc, _, hb, hps, fun _ => noF, fun n => ⟨fun h => .inl h, fun h => h.elim id fun ⟨_, _, h⟩ => h.elim⟩, fun _ _ h => h.elim, fun _ _ _ _ _ h => h.elim, fun i hi => ?_⟩⟩
  rw [hsub_none]
  have hcell : cellsAt (putCells id 0 (flatK (encT t) t.width x'.toArray) arr) (i * t.width) t.width = encT t (x'.getD i t.dflt) := by
    have hw := t.width_pos
    have hle : i * t.width + t.width ≤ x'.length * t.width := by
      have := Nat.mul_le_mul_right t.width (show i + 1 ≤ x'.length from hi)
      rwa [Nat.add_mul, Nat.one_mul] at this
    have hle2 := Nat.mul_le_mul_right t.width hl
    refine List.ext_getElem? fun c => ?_
    by_cases hcw : c < t.width
    · have hlen := encT_len t (x'.getD i t.dflt)
      rw [List.getElem?_eq_getElem (l := encT t (x'.getD i t.dflt)) (by omega)]
      simp only [cellsAt, List.getElem?_take, if_pos hcw, List.getElem?_drop, Array.getElem?_toList]
      simp only [putCells, Array.getElem?_mapIdx]
      rw [Array.getElem?_eq_getElem (by omega)]
      simp only [Option.map_some, Nat.zero_le, true_and, Nat.zero_add, size_flatK, List.size_toArray, Nat.sub_zero, id_eq]
      rw [if_pos (by omega), get_flatK _ _ _ _ (by simp only [List.size_toArray]; omega)]
      have e1 : (i * t.width + c) / t.width = i := by
        rw [Nat.mul_comm, Nat.mul_add_div hw, Nat.div_eq_of_lt hcw]; rfl
      have e2 : (i * t.width + c) % t.width = c := by
        rw [Nat.mul_comm, Nat.mul_add_mod, Nat.mod_eq_of_lt hcw]
      rw [e1, e2, toArray_at x' hi, getElem!_pos _ c (by omega)]
    · have l1 : (cellsAt (putCells id 0 (flatK (encT t) t.width x'.toArray) arr) (i * t.width) t.width).length = t.width := length_cellsAt (by rw [hps]; omega)
      rw [List.getElem?_eq_none (by omega), List.getElem?_eq_none (by rw [encT_len]; omega)]
  rw [hcell]
  exact (enc_ro t _ hn).own (.inl (num_flat hn).1)

end Fer
