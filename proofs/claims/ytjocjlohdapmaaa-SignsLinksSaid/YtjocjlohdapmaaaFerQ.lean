import Derived.Test.YtjocjlohdapmaaaFerH
import Derived.WideKeyEntry
import Derived.Laws.IdiomRangeMap
import Derived.MapKept
import Derived.Carry
namespace Fer
open Go

structure Spec where
  ps : List Ty
  wp : List TV → (List TV → Prop) → Prop

inductive PA where
  | val (t : Ty)
  | box (e : Nat) (t : Ty)
  | one (e : Nat) (t : Ty)
  | gone (e : Nat) (t : Ty)
  | cap (t : Ty)
  | capl (t : Ty)
  | gho (e : Nat) (t : Ty)

structure SpecS where
  pat : List PA
  wp : List Nat → List TV → List TV → (List TV → List TV → Prop) → Prop

structure Ctx where
  n : Nat
  tt : List (Nat × TE)
  fn : Nat → Option Spec
  mv : Nat → Option Spec
  ip : Nat → Option Spec
  cl : Nat → Option (Spec × List Ty)
  st : Nat → Option SpecS
  gl : Nat → Option (Nat × List Int)

def xglob (C : Ctx) (s : XS) (o : Oper) : Option (Prop × AV) :=
  match o.op with
  | .indexAddr T (.global g) x => match C.gl g, s.ev x with
    | some (T', l), some (.dat (.int .i64) n) => if T = T' then some (0 ≤ n ∧ n < (l.length : Int), .rptr (.int .i64) (l.getD n.toNat 0)) else none
    | _, _ => none
  | _ => none

def nilAt (tt : List (Nat × TE)) (o : Oper) : Option (Nat × Ty) :=
  match o.op with
  | .assign (.const (.slice none 0 0)) | .move (.const (.slice none 0 0)) => match lk tt o.type with
    | some (.slice e t _) => some (e, t)
    | _ => none
  | _ => none

def cutAt (s : XS) (o : Oper) : Option (Nat × RT × Nat) :=
  match o.op, o.dst with
  | .assign (.tmp x), some d => match s.get x, s.get d with
    | some (.sub r [] lo hi), some (.ref q []) => if q = r ∧ lo = 0 then match s.root r with
      | some rt => if rt.h = none then some (r, rt, hi) else none
      | none => none
      else none
    | _, _ => none
  | _, _ => none

def XS.trunc (s : XS) (r : Nat) (rt : RT) (hi : Nat) : XS := { s.setRoot r { rt with x := rt.x.take hi } with env := cutEnv r (fun _ => false) (fun _ => true) s.env }

def RT.withX (rt : RT) (v : TV) : RT :=
  match v with
  | ⟨.list e t, l⟩ => ⟨e, t, rt.k, l, rt.h⟩
  | _ => rt

def isNilP : List Nat → Bool
  | [] => true
  | _ => false

def isOneP : List Nat → Bool
  | _ :: _ :: _ => false
  | _ => true

def XS.inPlace (s : XS) (r : Nat) (rt : RT) (v : TV) : XS := { s.setRoot r (rt.withX v) with env := cutEnv r isNilP isOneP s.env }

def nilCmp (tt : List (Nat × TE)) (s : XS) (o : Oper) : Option (Prop × Bool) :=
  match o.op with
  | .binOp op T x (.const (.slice none 0 0)) _ => match lk tt T, s.ev x with
    | some (.slice _ _ _), some (.dat (.list _ _) l) => match op with
      | .eql => some (l = [], true)
      | .neq => some (l = [], false)
      | _ => none
    | some (.slice _ _ _), some (.dat .raw (.slice (some _) _ _)) => match op with
      | .eql => some (False, true)
      | .neq => some (False, false)
      | _ => none
    | some (.slice _ _ _), some (.dat .raw (.slice none _ _)) => match op with
      | .eql => some (False, false)
      | .neq => some (False, true)
      | _ => none
    | some (.slice _ _ _), some (.ref r []) => match s.root r with
      | some rt => match rt.h, op with
        | none, .eql => some (rt.x = [], true)
        | none, .neq => some (rt.x = [], false)
        | _, _ => none
      | none => none
    | _, _ => none
  | _ => none

def wholeAV (s : XS) (x : Option AV) : Option (Prop × AV) :=
  match x with
  | some (.sub r p lo hi) => match s.root r with
    | some rt => some (lo = 0 ∧ hi = (rt.at p).len, .ref r p)
    | none => none
  | _ => none

noncomputable def xmem (tt : List (Nat × TE)) (s : XS) (o : Oper) : Option MF :=
  match o.op with
  | .alloc T => alAV tt s T
  | .box T x => bxAV s T (s.ev x)
  | .store T x y => stAV tt s T (s.ev x) (s.ev y)
  | .makeSlice T l c => mkAV tt s T (s.ev l) (s.ev c)
  | .buildSlice T len parts => bsAV tt s T len parts.toList
  | .call c => match c.callee, c.args.toList, c.argTypes.toList with
    | .builtin .append, [x, y], [T, T'] => if T = T' then match wholeAV s (s.ev x) with
        | some (q, u) => (appAV tt s T (some u) (s.ev y)).map fun mf => ⟨q ∧ mf.pre, mf.fact, mf.av, mf.st, mf.tch⟩
        | none => appAV tt s T (s.ev x) (s.ev y)
      else none
    | .builtin .copy, [x, y], [T, _] => cpAV tt s T (s.ev x) (s.ev y)
    | .builtin .clear, [x], [T] => clAV tt s T (s.ev x)
    | _, _, _ => none
  | _ => none

def capTV (s : XS) : List Nat → Option (List TV)
  | [] => some []
  | c :: cs => match s.root c, capTV s cs with
    | some rt, some l => match rt.x, rt.h with
      | [v], none => some (⟨rt.t, v⟩ :: l)
      | _, _ => none
    | _, _ => none

def aggTV (s : XS) (t : Ty) (l : List AV) : Option (Prop × TV) :=
  match t, l with
  | .prod t1 t2, [.ref r p, .ref q p'] => match s.root r, s.root q with
    | some rt, some qt => match elAt rt p, elAt qt p' with
      | some el, some el' => if rt.h = none ∧ qt.h = none ∧ Ty.list el.e el.t = t1 ∧ Ty.list el'.e el'.t = t2 then some (okNode rt p ∧ okNode qt p', ⟨.prod (.list el.e el.t) (.list el'.e el'.t), (el.l, el'.l)⟩) else none
      | _, _ => none
    | _, _ => none
  | _, _ => none

def argAV (s : XS) (t : Ty) (x : AV) : Option (Prop × TV) :=
  match x with
  | .ref r p => match s.root r with
    | some rt => match elAt rt p with
      | some el => if rt.h = none ∧ Ty.list el.e el.t = t then some (okNode rt p, ⟨.list el.e el.t, el.l⟩) else match p with
        | [] => if rt.h = none ∧ Ty.row rt.e rt.t = t then some (0 < List.length rt.x, ⟨.row rt.e rt.t, rt.x⟩) else none
        | _ => none
      | none => none
    | none => none
  | .clo f c => match t, c with
    | .raw, [] => some (True, ⟨.raw, .func (.func f) #[] #[]⟩)
    | .fn _ _, [q] => match capTV s [q] with
      | some [u] => if Ty.fn f u.t = t then some (True, ⟨.fn f u.t, u.x⟩) else none
      | _ => none
    | _, _ => none
  | .agg l => aggTV s t l
  | x => (datOf t x).map fun v => (True, ⟨t, v⟩)

def calleeOf (x : Option AV) : Option Nat :=
  match x with
  | some (.dat .raw (.func (.func f) fst cap)) => if fst.size = 0 ∧ cap.size = 0 then some f else none
  | some (.clo f []) => some f
  | _ => none

def argsAV (s : XS) : List Ty → List Operand → Option (Prop × List TV)
  | [], [] => some (True, [])
  | t :: ts, x :: xs => match (s.ev x).bind (argAV s t), argsAV s ts xs with
    | some (p, v), some (q, l) => some (p ∧ q, v :: l)
    | _, _ => none
  | _, _ => none

def retAV (s : XS) (v : TV) : XS × AV :=
  match v with
  | ⟨.list e t, l⟩ => (s.addRoot ⟨e, t, t.lev, l, none⟩, .ref s.nxt [])
  | ⟨.prod (.list _ _) (.list _ _), _⟩ => (s, .junk)
  | ⟨t, x⟩ => (s, .dat t x)

def retsAV : XS → List TV → XS × List AV
  | s, [] => (s, [])
  | s, v :: l => ((retsAV (retAV s v).1 l).1, (retAV s v).2 :: (retsAV (retAV s v).1 l).2)

def retOne (s : XS) (d : Option Nat) (v : TV) : XS :=
  match v with
  | ⟨.prod (.list e t) (.list e' t'), x⟩ => ((s.addRoot ⟨e, t, t.lev, x.1, none⟩).addRoot ⟨e', t', t'.lev, x.2, none⟩).put d (.agg [.ref s.nxt [], .ref (s.nxt + 1) []])
  | v => (retAV s v).1.put d (retAV s v).2

def retsPut (s : XS) (d : Option Nat) (l : List TV) : XS :=
  match l with
  | [v] => retOne s d v
  | l => (retsAV s l).1.put d (.tup (retsAV s l).2)

def tchOK (dr : Bool) (s : XS) (o : Oper) (l : List Nat) : Bool :=
  !dr || s.pins.all fun x => match x.2 with
    | some r => !(l.contains r) || waitsOn o x.1
    | none => true

def noPin (dr : Bool) (s : XS) (r : Nat) : Bool :=
  !dr || s.pins.all fun x => match x.2 with
    | some q => !(q == r)
    | none => true

def XS.pin (s : XS) (dr : Bool) (i : Nat) (q : Option Nat) : XS := if dr = true then { s with pins := (i, q) :: s.pins } else s


def posP (k : Int × Int) : List ((Int × Int) × Int) → Option Nat
  | [] => none
  | x :: l => if x.1 = k then some 0 else (posP k l).map (· + 1)
def getP (l : List ((Int × Int) × Int)) (k : Int × Int) : Int := match posP k l with | some j => (l.getD j ((0, 0), 0)).2 | none => 0
def setP (l : List ((Int × Int) × Int)) (k : Int × Int) (v : Int) : List ((Int × Int) × Int) := match posP k l with | some j => l.set j (k, v) | none => l ++ [(k, v)]
def entP (l : List ((Int × Int) × Int)) (k : Int × Int) : List ((Int × Int) × Int) := match posP k l with | some _ => l | none => l ++ [(k, 0)]
def idxP (l : List ((Int × Int) × Int)) (k : Int × Int) : Nat := (posP k l).getD l.length
def putP (l : List ((Int × Int) × Int)) (j : Nat) (v : Int) : List ((Int × Int) × Int) := l.set j ((l.getD j ((0, 0), 0)).1, v)
@[reducible] def PRI : Ty := .prod (.int .i64) (.int .i64)

inductive MpOp where
  | mk
  | get (b : Nat) (f : Int → Int) (n : Int)
  | upd (b : Nat) (f : Int → Int) (n v : Int)
  | mkP
  | getP (b : Nat) (l : List ((Int × Int) × Int)) (k : Int × Int)
  | updP (b : Nat) (l : List ((Int × Int) × Int)) (k : Int × Int) (v : Int)
  | entP (b : Nat) (l : List ((Int × Int) × Int)) (k : Int × Int)
  | stoP (b : Nat) (l : List ((Int × Int) × Int)) (j : Int) (v : Int)
  | rng (b : Nat) (l : List ((Int × Int) × Int))
  | nxt (ib b : Nat) (l : List ((Int × Int) × Int)) (seen : List Nat)
  | ent (ib b : Nat) (l : List ((Int × Int) × Int)) (seen : List Nat) (j : Nat)
  | lenP (l : List ((Int × Int) × Int))

def mapIn (s : XS) : List (Nat × AV) → Nat → Option (List ((Int × Int) × Int))
  | [], _ => none
  | (i, _) :: r, b => match s.get i with
    | some (.mp c (.prs l)) => if c = b then some l else mapIn s r b
    | _ => mapIn s r b

def mpOp (tt : List (Nat × TE)) (s : XS) (o : Oper) : Option MpOp :=
  match o.op with
  | .makeMap t none => match lk tt t with
    | some (.map _ _) => some .mk
    | some (.mapP _ _) => some .mkP
    | _ => none
  | .lookup t x k false => match lk tt t with
    | some (.map _ _) => match s.ev x, s.ev k with
      | some (.mp b (.ints f)), some (.dat (.int .i64) n) => some (.get b f n)
      | _, _ => none
    | some (.mapP _ _) => match s.ev x, s.ev k with
      | some (.mp b (.prs l)), some (.dat (.prod (.int .i64) (.int .i64)) k) => some (.getP b l k)
      | _, _ => none
    | _ => none
  | .mapUpdate t x k v => match lk tt t with
    | some (.map _ _) => match s.ev x, s.ev k, s.ev v with
      | some (.mp b (.ints f)), some (.dat (.int .i64) n), some (.dat (.int .i64) m) => some (.upd b f n m)
      | _, _, _ => none
    | some (.mapP _ _) => match s.ev x, s.ev k, s.ev v with
      | some (.mp b (.prs l)), some (.dat (.prod (.int .i64) (.int .i64)) k), some (.dat (.int .i64) m) => some (.updP b l k m)
      | _, _, _ => none
    | _ => none
  | .mapEntry t x k => match lk tt t with
    | some (.mapP _ _) => match s.ev x, s.ev k with
      | some (.mp b (.prs l)), some (.dat (.prod (.int .i64) (.int .i64)) k) => some (.entP b l k)
      | _, _ => none
    | _ => none
  | .entryStore t x j v => match lk tt t with
    | some (.mapP _ _) => match s.ev x, s.ev j, s.ev v with
      | some (.mp b (.prs l)), some (.dat (.int .i64) j), some (.dat (.int .i64) m) => some (.stoP b l j m)
      | _, _, _ => none
    | _ => none
  | .range t x => match lk tt t with
    | some (.mapP _ _) => match s.ev x with
      | some (.mp b (.prs l)) => some (.rng b l)
      | _ => none
    | _ => none
  | .next x false => match s.ev x with
    | some (.mp ib (.look b n seen)) => match mapIn s s.env b with
      | some l => if n = l.length then some (.nxt ib b l seen) else none
      | none => none
    | _ => none
  | .entry x => match s.ev x with
    | some (.mp ib (.look b n seen)) => match mapIn s s.env b, seen.getLast? with
      | some l, some j => if n = l.length then some (.ent ib b l seen j) else none
      | _, _ => none
    | _ => none
  | .call { callee := .builtin .len, args, argTypes } => match args.toList, argTypes.toList with
    | [x], [t] => match lk tt t with
      | some (.mapP _ _) => match s.ev x with
        | some (.mp _ (.prs l)) => some (.lenP l)
        | _ => none
      | _ => none
    | _, _ => none
  | _ => none

def AV.setMp (b : Nat) (g : MD) : AV → AV
  | .mp b' f => if b' = b then .mp b' g else .mp b' f
  | a => a

def mpSet (b : Nat) (g : MD) : List (Nat × AV) → List (Nat × AV)
  | [] => []
  | (i, a) :: l => (i, a.setMp b g) :: mpSet b g l

def newBl (s : XS) (b : Nat) : List (Nat × AV) → Prop
  | [] => True
  | (i, _) :: l => (match s.get i with | some (.mp c _) => c ≠ b | _ => True) ∧ newBl s b l
def mpFree (dr : Bool) (o : Oper) (s : XS) : Bool := !dr || s.pins.all fun x => waitsOn o x.1
def mpDo (dr : Bool) (o : Oper) (K : XS → Prop) (s : XS) : MpOp → Prop
  | .mk => dr = false ∧ ∀ b : Nat, newBl s b s.env → K (s.put o.dst (.mp b (.ints fun _ => 0)))
  | .get _ f n => K (s.put o.dst (.dat (.int .i64) (f n)))
  | .upd b f n m => mpFree dr o s = true ∧ K ({ s with env := mpSet b (.ints fun j => if j = n then m else f j) s.env }.put o.dst (.tup []))
  | .mkP => dr = false ∧ ∀ b : Nat, newBl s b s.env → K (s.put o.dst (.mp b (.prs [])))
  | .getP _ l k => K (s.put o.dst (.dat (.int .i64) (Fer.getP l k)))
  | .updP b l k m => mpFree dr o s = true ∧ K ({ s with env := mpSet b (.prs (setP l k m)) s.env }.put o.dst (.tup []))
  | .entP b l k => mpFree dr o s = true ∧ K ({ s with env := mpSet b (.prs (Fer.entP l k)) s.env }.put o.dst (.tup [.dat (.int .i64) (Fer.getP l k), .dat (.int .i64) (idxP l k : Int)]))
  | .stoP b l j m => mpFree dr o s = true ∧ (0 ≤ j ∧ j < (l.length : Int)) ∧ K ({ s with env := mpSet b (.prs (putP l j.toNat m)) s.env }.put o.dst (.tup []))
  | .rng b l => dr = false ∧ ∀ ib : Nat, newBl s ib s.env → K (s.put o.dst (.mp ib (.look b l.length [])))
  | .nxt ib b l seen => dr = false ∧ ((∀ j, j < l.length → j ∈ seen) → K (s.put o.dst (.tup [.dat .bool false]))) ∧
      ∀ j, j < l.length → j ∉ seen → K ({ s with env := mpSet ib (.look b l.length (seen ++ [j])) s.env }.put o.dst (.tup [.dat .bool true, .dat PRI (l.getD j ((0, 0), 0)).1, .dat (.int .i64) (l.getD j ((0, 0), 0)).2]))
  | .lenP l => dr = false ∧ K (s.put o.dst (.dat (.int .i64) (l.length : Int)))
  | .ent _ _ l _ j => dr = false ∧ j < l.length ∧ K (s.put o.dst (.tup [.dat PRI (l.getD j ((0, 0), 0)).1, .dat (.int .i64) (l.getD j ((0, 0), 0)).2]))

def isMove (o : Oper) : Bool :=
  match o.op with
  | .move _ | .assign _ => true
  | _ => false

def locIn : List (Nat × AV) → Nat → Option (Nat × Nat)
  | [], _ => none
  | (i, .loc q b) :: l, r => if q = r then some (i, b) else locIn l r
  | _ :: l, r => locIn l r
def locOf (s : XS) (r : Nat) : Option Nat :=
  match locIn s.env r with
  | some (i, _) => match s.get i with
    | some (.loc q b) => if q = r then some b else none
    | _ => none
  | none => none

def named (n : Nat) : List Nat → (List Nat → XS → Prop) → XS → Prop
  | [], K, s => K [] s
  | r :: rs, K, s => match locOf s r with
    | some b => named n rs (fun bl => K (b :: bl)) s
    | none => r < s.nxt ∧ ∀ b : Nat, named n rs (fun bl => K (b :: bl)) { s with env := (n + 64 + r, .loc r b) :: s.env }

def ghoIn (e : Nat) (t : Ty) : List (Nat × RT) → Option Nat
  | [] => none
  | (r, rt) :: l => if rt.e = e ∧ rt.t = t ∧ rt.h = none then some r else ghoIn e t l

def stRoots (G : List (Nat × RT)) : List PA → List AV → Option (List Nat)
  | [], [] => some []
  | .box _ _ :: ps, .ptr r [0] :: xs => match stRoots G ps xs with
    | some l => some (r :: l)
    | none => none
  | .one _ _ :: ps, .ptr r [0] :: xs => match stRoots G ps xs with
    | some l => some (r :: l)
    | none => none
  | .gone _ _ :: ps, .ptr r [0] :: xs => match stRoots G ps xs with
    | some l => some (r :: l)
    | none => none
  | .gho e t :: ps, xs => match ghoIn e t G, stRoots G ps xs with
    | some r, some l => some (r :: l)
    | _, _ => none
  | .val _ :: ps, _ :: xs => stRoots G ps xs
  | .cap _ :: ps, _ :: xs => stRoots G ps xs
  | .capl _ :: ps, _ :: xs => stRoots G ps xs
  | _, _ => none

def oneIn : List (Nat × AV) → Nat → Option Nat
  | [], _ => none
  | (i, .one q) :: l, r => if q = r then some i else oneIn l r
  | _ :: l, r => oneIn l r
def oneOf (s : XS) (r : Nat) : Bool :=
  match oneIn s.env r with
  | some i => match s.get i with
    | some (.one q) => q == r
    | _ => false
  | none => false

def killAll : List Nat → XS → XS
  | [], s => s
  | r :: rs, s => killAll rs (s.kill r)

def capAV (s : XS) (t : Ty) (x : AV) : Option TV :=
  match x with
  | .ptr r [0] => match s.root r with
    | some rt => match rt.x, rt.h with
      | [v], none => if rt.t = t then some ⟨rt.t, v⟩ else none
      | _, _ => none
    | none => none
  | .rptr t' x => if t' = t then some ⟨t', x⟩ else none
  | _ => none

def caplAV (s : XS) (t : Ty) (x : AV) : Option (TV × Nat) :=
  match x with
  | .ptr r [0] => match capAV s t (.ptr r [0]), locOf s r with
    | some v, some b => some (v, b)
    | _, _ => none
  | .rpl b t' x => if t' = t then some (⟨t', x⟩, b) else none
  | _ => none

def blksOf (nm : List (Nat × Nat)) : List Nat → Option (List Nat)
  | [] => some []
  | c :: cs => match lk nm c, blksOf nm cs with
    | some b, some l => some (b :: l)
    | _, _ => none
def argN (nm : List (Nat × Nat)) (s : XS) (t : Ty) (x : AV) : Option (Prop × TV) :=
  match t, x with
  | .func, .clo f cs => match blksOf nm cs with
    | some bl => some (True, ⟨.func, some (f, bl)⟩)
    | none => none
  | t, x => argAV s t x

def stVals (nm : List (Nat × Nat)) (s : XS) : List PA → List AV → Option (Prop × List TV)
  | [], [] => some (True, [])
  | .val t :: ps, x :: xs => match argN nm s t x, stVals nm s ps xs with
    | some (p, v), some (q, l) => some (p ∧ q, v :: l)
    | _, _ => none
  | .cap t :: ps, x :: xs => match capAV s t x, stVals nm s ps xs with
    | some v, some (q, l) => some (q, v :: l)
    | _, _ => none
  | .capl t :: ps, x :: xs => match caplAV s t x, stVals nm s ps xs with
    | some (v, b), some (q, l) => some (q, v :: ⟨.int .i64, (b : Int)⟩ :: l)
    | _, _ => none
  | .box _ _ :: ps, _ :: xs => stVals nm s ps xs
  | .one _ _ :: ps, _ :: xs => stVals nm s ps xs
  | .gone _ _ :: ps, _ :: xs => stVals nm s ps xs
  | .gho _ _ :: ps, xs => stVals nm s ps xs
  | _, _ => none


def Ty.noRo : Ty → Bool
  | .ro _ _ => false
  | .prod a b => a.noRo && b.noRo
  | .list _ t => t.noRo
  | _ => true
def Ty.roOK : Ty → Bool
  | .ro _ _ => true
  | .prod a b => a.roOK && b.roOK
  | t => t.noRo

def stBox (s : XS) (e : Nat) (t : Ty) (al : Bool) (r : Nat) : Option TV :=
  match s.root r with
  | some rt => match rt.x, rt.h with
    | [v], none => if rt.e = e ∧ rt.t = t ∧ t.lev ≤ rt.k ∧ t.roOK = true ∧ (al = true → oneOf s r = true) then some ⟨rt.t, v⟩ else none
    | _, _ => none
  | none => none
def stBoxes (s : XS) : List PA → List Nat → Option (List TV)
  | [], [] => some []
  | .box e t :: ps, r :: rs => match stBox s e t false r, stBoxes s ps rs with
    | some v, some l => some (v :: l)
    | _, _ => none
  | .one e t :: ps, r :: rs => match stBox s e t true r, stBoxes s ps rs with
    | some v, some l => some (v :: l)
    | _, _ => none
  | .gone e t :: ps, r :: rs => match stBox s e t true r, stBoxes s ps rs with
    | some v, some l => some (v :: l)
    | _, _ => none
  | .gho e t :: ps, r :: rs => match stBox s e t false r, stBoxes s ps rs with
    | some v, some l => some (v :: l)
    | _, _ => none
  | .val _ :: ps, rs => stBoxes s ps rs
  | .cap _ :: ps, rs => stBoxes s ps rs
  | .capl _ :: ps, rs => stBoxes s ps rs
  | _, _ => none

def noP : List Nat → Bool := fun _ => false
def isBoxP : List Nat → Bool
  | [] => true
  | [0] => true
  | _ => false

def stKeep (r : Nat) : AV → Bool
  | .agg l => l.all fun a => !(a.ids.contains r)
  | av => av.shallow r noP isBoxP
def stCut (r : Nat) : List (Nat × AV) → List (Nat × AV)
  | [] => []
  | (i, av) :: l => (i, if stKeep r av = true then av else .junk) :: stCut r l
def stAdd (s0 : XS) : List PA → List Nat → List TV → XS → XS
  | .box _ _ :: ps, r :: rs, ⟨t, v⟩ :: vs, s => match s0.root r with
    | some rt => stAdd s0 ps rs vs { s with rts := (r, ⟨rt.e, t, rt.k, [v], none⟩) :: s.rts, env := stCut r s.env }
    | none => s
  | .one _ _ :: ps, r :: rs, ⟨t, v⟩ :: vs, s => match s0.root r with
    | some rt => stAdd s0 ps rs vs { s with rts := (r, ⟨rt.e, t, rt.k, [v], none⟩) :: s.rts, env := (100000 + r, .one r) :: stCut r s.env }
    | none => s
  | .gho _ _ :: ps, r :: rs, ⟨t, v⟩ :: vs, s => match s0.root r with
    | some rt => stAdd s0 ps rs vs { s with rts := (r, ⟨rt.e, t, rt.k, [v], none⟩) :: s.rts, env := stCut r s.env }
    | none => s
  | .gone _ _ :: ps, _ :: rs, vs, s => stAdd s0 ps rs vs s
  | .val _ :: ps, rs, vs, s => stAdd s0 ps rs vs s
  | .cap _ :: ps, rs, vs, s => stAdd s0 ps rs vs s
  | .capl _ :: ps, rs, vs, s => stAdd s0 ps rs vs s
  | _, _, _, s => s

def distinctL : List Nat → Bool
  | [] => true
  | x :: l => l.all (fun y => !(x == y)) && distinctL l

def Ty.er : Ty → Ty
  | .ro _ _ => .raw
  | .prod a b => .prod a.er b.er
  | .int k => .int k
  | .bool => .bool
  | .str => .str
  | .raw => .raw
  | .list e t => .list e t
  | .fn f t => .fn f t
  | .row e t => .row e t
  | .func => .func
def erV : (t : Ty) → t.den → t.er.den
  | .ro _ _, x => x.1
  | .prod a b, x => (erV a x.1, erV b x.2)
  | .int _, x => x
  | .bool, x => x
  | .str, x => x
  | .raw, x => x
  | .list _ _, x => x
  | .fn _ _, x => x
  | .row _ _, x => x
  | .func, x => x
def roSame : (t : Ty) → t.den → t.den → Prop
  | .ro _ _, x, y => x = y
  | .prod a b, x, y => roSame a x.1 y.1 ∧ roSame b x.2 y.2
  | .int _, _, _ => True
  | .bool, _, _ => True
  | .str, _, _ => True
  | .raw, _, _ => True
  | .list _ _, _, _ => True
  | .fn _ _, _, _ => True
  | .row _ _, _, _ => True
  | .func, _, _ => True
def sameTV (v u : TV) : Prop := if u.t.noRo = true then True else match castV v.t u.t v.x with
  | some x => roSame u.t x u.x
  | none => False
def stSame : List PA → List TV → List TV → Prop
  | .box _ _ :: ps, v :: vs, u :: us => sameTV v u ∧ stSame ps vs us
  | .one _ _ :: ps, v :: vs, u :: us => sameTV v u ∧ stSame ps vs us
  | .gho _ _ :: ps, v :: vs, u :: us => sameTV v u ∧ stSame ps vs us
  | .gone _ _ :: ps, _ :: vs, us => stSame ps vs us
  | .val _ :: ps, vs, us => stSame ps vs us
  | .cap _ :: ps, vs, us => stSame ps vs us
  | .capl _ :: ps, vs, us => stSame ps vs us
  | _, _, _ => True


def zOf (t : Ty) : AV → Bool
  | .dat .raw (.slice none 0 0) => match t with
    | .list _ _ => true
    | .ro _ _ => true
    | _ => false
  | _ => false
def bxFs (n : Nat) : List Ty → List AV → (List TV → XS → Prop) → XS → Prop
  | [], [], K, s => K [] s
  | t :: ts, av :: l, K, s => if zOf t av = true then bxFs n ts l (fun tvs s' => K (⟨t, t.dflt⟩ :: tvs) s') s else
    match av with
    | .dat u v => match castV u t v with
      | some v' => if t.leafy = true then bxFs n ts l (fun tvs s' => K (⟨t, v'⟩ :: tvs) s') s else False
      | none => match castV u t.st v with
        | some v' => t.leafy = true ∧ t.ros ≤ 1 ∧ ∀ w : Value, bxFs n ts l (fun tvs s' => K (⟨t, unV w t v'⟩ :: tvs) s') s
        | none => False
    | .ref q [] => match s.root q with
      | some qt => if qt.h = none ∧ qt.ty = t ∧ qt.t.lev ≤ qt.k then bxFs n ts l (fun tvs s' => K (⟨qt.ty, qt.x⟩ :: tvs) s') ((s.also q n).kill q)
        else match t with
        | .ro e u => match castL qt.t u qt.x with
          | some x => qt.h = none ∧ qt.e = e ∧ ∀ w : Value, bxFs n ts l (fun tvs s' => K (⟨.ro e u, (w, x)⟩ :: tvs) s') (s.kill q)
          | none => False
        | _ => False
      | none => False
    | _ => False
  | _, _, _, _ => False
def prodTV : List TV → TV
  | [] => ⟨.raw, .bool false⟩
  | [v] => v
  | v :: u :: vs => ⟨.prod v.t (prodTV (u :: vs)).t, (v.x, (prodTV (u :: vs)).x)⟩
def bxStr (tt : List (Nat × TE)) (s : XS) (T : Nat) (x : Option AV) : Option (List Ty × List AV) :=
  match lk tt T, x with
  | some (.struct ts), some (.agg l) => if 2 ≤ ts.length then some (ts, l) else none
  | _, _ => none

structure RoSt where
  pre : Prop
  r : Nat
  st : Value → XS
def roSt (tt : List (Nat × TE)) (s : XS) (T : Nat) (x y : Option AV) : Option RoSt :=
  match x, y with
  | some (.ptr r (i :: p)), some y => match s.root r with
    | some rt => match rt.at (i :: p) with
      | ⟨.ro e t, _⟩ => if (lk tt T).bind TE.ty = some (.list e t) ∧ rt.h = none then
          match y with
          | .dat (.list e' t') l => match castL t' t l with
            | some l' => if e' = e then some ⟨okS (i :: p) rt.ty rt.x (rt.k + 1), r, fun v => s.wrote r rt (i :: p) ⟨.ro e t, (v, l')⟩⟩ else none
            | none => none
          | .ref q [] => if q = r then none else match s.root q with
            | some qt => match castL qt.t t qt.x with
              | some l' => if qt.h = none ∧ qt.e = e then some ⟨okS (i :: p) rt.ty rt.x (rt.k + 1), r, fun v => (s.kill q).wrote r rt (i :: p) ⟨.ro e t, (v, l')⟩⟩ else none
              | none => none
            | none => none
          | _ => none
        else none
      | _ => none
    | none => none
  | _, _ => none
def selfAV (s : XS) (x y : Option AV) : Option AV :=
  match x, y with
  | some (.ptr r (i :: p)), some (.ref q (j :: p')) => if q = r ∧ j = i ∧ p' = p then match s.root r with
    | some rt => some (.sub r (i :: p) 0 (rt.at (i :: p)).len)
    | none => none
    else none
  | _, _ => none
def fnSt (tt : List (Nat × TE)) (s : XS) (T : Nat) (x y : Option AV) : Option (Prop × Nat × List Nat × (List Nat → XS → XS)) :=
  match x, y with
  | some (.ptr r (i :: p)), some (.clo f cs) => match s.root r with
    | some rt => if (rt.at (i :: p)).t = .func ∧ (lk tt T).bind TE.ty = some .func ∧ rt.h = none ∧ cs.all (fun c => (s.root c).isSome) = true then
        some (okS (i :: p) rt.ty rt.x (rt.k + 1), r, cs, fun bl s1 => s1.wrote r rt (i :: p) ⟨.func, some (f, bl)⟩) else none
    | none => none
  | _, _ => none

def cloIn : List (Nat × AV) → Nat → Option (List Nat)
  | [], _ => none
  | (_, .clo f cs) :: l, g => if f = g then some cs else cloIn l g
  | _ :: l, g => cloIn l g
def parAVs (s : XS) : Nat → Nat → List AV
  | _, 0 => []
  | i, n + 1 => (match s.get i with
    | some av => av
    | none => .junk) :: parAVs s (i + 1) n
def ptrsB : List AV → Bool
  | [] => true
  | .ptr _ [0] :: l => ptrsB l
  | .rpl _ _ _ :: l => ptrsB l
  | _ => false
def typAVs (s : XS) : List PA → List AV
  | .box e t :: ps => (match ghoIn e t s.rts with
    | some r => .ptr r [0]
    | none => .junk) :: typAVs s ps
  | _ :: ps => .junk :: typAVs s ps
  | [] => []
def cloAVs (s : XS) (f nargs n : Nat) (pat : List PA) : List AV :=
  match cloIn s.env f with
  | some cs => cs.map fun c => .ptr c [0]
  | none => if ptrsB (parAVs s nargs n) = true then parAVs s nargs n else typAVs s (pat.drop nargs)
def locsB (s : XS) : List AV → List Nat → Prop
  | [], [] => True
  | .ptr r [0] :: xs, b :: bl => (match locOf s r with
    | some b' => b' = b
    | none => False) ∧ (s.root r).isSome = true ∧ locsB s xs bl
  | .rpl b' _ _ :: xs, b :: bl => b' = b ∧ locsB s xs bl
  | _, _ => False

def evs (s : XS) : List Operand → Option (List AV)
  | [] => some []
  | x :: xs => match s.ev x, evs s xs with
    | some v, some l => some (v :: l)
    | _, _ => none

def stCall (n : Nat) (dr : Bool) (sp : SpecS) (xs : Option (List AV)) (d : Option Nat) (K : XS → Prop) (s : XS) : Prop :=
  match xs with
  | some xs => match stRoots s.rts sp.pat xs with
    | some rs => distinctL rs = true ∧ rs.all (noPin dr s) = true ∧ named n rs (fun bl s1 => match stVals (rs.zip bl) (killAll rs s1) sp.pat xs, stBoxes s1 sp.pat rs with
      | some (p, vals), some boxes => p ∧ sp.wp bl vals boxes fun outs bx => stSame sp.pat boxes bx ∧ K (retsPut (stAdd s1 sp.pat rs bx (killAll rs s1)) d outs)
      | _, _ => False) s
    | none => False
  | none => False

def xdo (C : Ctx) (dr : Bool) (o : Oper) (i : Nat) (K : XS → Prop) (s : XS) : Prop :=
  match xglob C s o with
  | some (p, av) => p ∧ K (s.put o.dst av)
  | none => match nilAt C.tt o with
  | some (e, t) => K ((s.addRoot (nilRT e t)).put o.dst (.ref s.nxt []))
  | none => match cutAt s o with
   | some (r, rt, hi) => K ((s.trunc r rt hi).put o.dst (.ref r []))
   | none => match mpOp C.tt s o with
   | some m => mpDo dr o K s m
   | none => match nilCmp C.tt s o with
   | some (q, pos) => ∀ b : Bool, (b = pos → q) → K (s.put o.dst (.dat .bool b))
   | none => match xpure C.tt s o with
    | some pf => xpureT C.tt s o = true ∧ (pf.av.plain || isMove o) = true ∧ pf.pre ∧ (pf.fact → K (s.put o.dst pf.av))
    | none => match o.op with
      | .load T x => match s.ev x with
        | some u => match ldAV C.tt s T u with
          | some pf => pf.av.plain = true ∧ pf.pre ∧ K ((s.pin dr i (qOf u)).put o.dst pf.av)
          | none => False
        | none => False
      | .call { callee := .value (.func f), args, .. } => match C.fn f with
        | some sp => match argsAV s sp.ps args.toList with
          | some (p, l) => p ∧ sp.wp l fun outs => K (retsPut s o.dst outs)
          | none => False
        | none => match C.mv f with
          | some sp => match args.toList, sp.ps with
            | x :: xs, t :: ts => match s.ev x with
              | some (.ref r []) => match s.root r with
                | some rt => if rt.h = none ∧ rt.t.lev ≤ rt.k ∧ rt.ty = t ∧ noPin dr s r = true then match argsAV (s.kill r) ts xs with
                    | some (p, l) => p ∧ sp.wp (⟨rt.ty, rt.x⟩ :: l) fun outs => K (retsPut (s.kill r) o.dst outs)
                    | none => False
                  else False
                | none => False
              | some (.ref r (i :: q)) => match t with
                | .list e u => match own1 s e u (.ref r (i :: q)) with
                  | some (p1, s1, r1) => match s1.root r1 with
                    | some rt => if rt.h = none ∧ rt.t.lev ≤ rt.k ∧ rt.ty = t ∧ dr = false then match argsAV (s1.kill r1) ts xs with
                        | some (p, l) => p1 ∧ p ∧ sp.wp (⟨rt.ty, rt.x⟩ :: l) fun outs => K (retsPut (s1.kill r1) o.dst outs)
                        | none => False
                      else False
                    | none => False
                  | none => False
                | _ => False
              | _ => False
            | _, _ => False
          | none => match C.ip f with
            | some sp => match args.toList, sp.ps with
              | x :: xs, t :: ts => match s.ev x with
                | some (.ref r []) => match s.root r with
                  | some rt => if rt.h = none ∧ rt.t.lev ≤ rt.k ∧ rt.ty = t ∧ dr = false then match argsAV (s.kill r) ts xs with
                      | some (p, l) => p ∧ sp.wp (⟨rt.ty, rt.x⟩ :: l) fun outs => match outs with
                        | [v] => K ((s.inPlace r rt v).put o.dst (.tup []))
                        | _ => False
                      | none => False
                    else False
                  | none => False
                | some (.ref r (i :: q)) => match s.root r with
                  | some rt => match elAt rt (i :: q) with
                    | some el => if rt.h = none ∧ el.t.lev + 1 ≤ dep (i :: q) rt.ty (rt.k + 1) ∧ Ty.list el.e el.t = t ∧ dr = false then match argsAV (s.kill r) ts xs with
                        | some (p, l) => okNode rt (i :: q) ∧ p ∧ sp.wp (⟨.list el.e el.t, el.l⟩ :: l) fun outs => match outs with
                          | [v] => K ((s.wrote r rt (i :: q) v).put o.dst (.tup []))
                          | _ => False
                        | none => False
                      else False
                    | none => False
                  | none => False
                | _ => False
              | _, _ => False
            | none => match C.st f with
              | some sp => stCall C.n dr sp (evs s args.toList) o.dst K s
              | none => False
      | .call { callee := .value (.tmp t), args, .. } => match calleeOf (s.get t) with
        | some f => match C.fn f with
          | some sp => match argsAV s sp.ps args.toList with
            | some (p, l) => p ∧ sp.wp l fun outs => K (retsPut s o.dst outs)
            | none => False
          | none => False
        | none => match s.get t with
          | some (.clo f cs) => match C.st f with
            | some sp => stCall C.n dr sp ((evs s args.toList).map fun l => l ++ cs.map fun c => .ptr c [0]) o.dst K s
            | none => match C.cl f, capTV s cs with
              | some (sp, us), some l' => if l'.map (·.t) = us then match argsAV s sp.ps args.toList with
                  | some (p, l) => p ∧ sp.wp (l ++ l') fun outs => K (retsPut s o.dst outs)
                  | none => False
                else False
              | _, _ => False
          | some (.dat (.fn f u) y) => match C.cl f with
            | some (sp, us) => if us = [u] then match argsAV s sp.ps args.toList with
                | some (p, l) => p ∧ sp.wp (l ++ [⟨u, y⟩]) fun outs => K (retsPut s o.dst outs)
                | none => False
              else False
            | none => False
          | some (.dat .func (some (f, bl))) => match C.st f with
            | some sp => locsB s (cloAVs s f args.size bl.length sp.pat) bl ∧ stCall C.n dr sp ((evs s args.toList).map fun l => l ++ cloAVs s f args.size bl.length sp.pat) o.dst K s
            | none => False
          | _ => False
      | .box T x => match bxStr C.tt s T (s.ev x) with
        | some (ts, l) => bxFs s.nxt ts l (fun tvs s' => K ({ s'.addRoot ⟨T, (prodTV tvs).t, (prodTV tvs).t.lev, [(prodTV tvs).x], none⟩ with env := (100000 + s.nxt, .one s.nxt) :: s'.env }.put o.dst (.ptr s.nxt [0]))) s
        | none => match xmem C.tt s o with
          | some mf => tchOK dr s o mf.tch = true ∧ mf.av.plain = true ∧ mf.pre ∧ (mf.fact → K (mf.st.put o.dst mf.av))
          | none => False
      | .store T x y => match roSt C.tt s T (s.ev x) (s.ev y) with
        | some q => tchOK dr s o [q.r] = true ∧ q.pre ∧ ∀ v : Value, K ((q.st v).put o.dst .junk)
        | none => match fnSt C.tt s T (s.ev x) (s.ev y) with
          | some (p, r, cs, st) => tchOK dr s o [r] = true ∧ p ∧ named C.n cs (fun bl s1 => K ((st bl s1).put o.dst .junk)) s
          | none => match selfAV s (s.ev x) (s.ev y) with
            | some u => match stAV C.tt s T (s.ev x) (some u) with
              | some mf => tchOK dr s o mf.tch = true ∧ mf.av.plain = true ∧ mf.pre ∧ (mf.fact → K (mf.st.put o.dst mf.av))
              | none => False
            | none => match xmem C.tt s o with
              | some mf => tchOK dr s o mf.tch = true ∧ mf.av.plain = true ∧ mf.pre ∧ (mf.fact → K (mf.st.put o.dst mf.av))
              | none => False
      | _ => match xmem C.tt s o with
        | some mf => tchOK dr s o mf.tch = true ∧ mf.av.plain = true ∧ mf.pre ∧ (mf.fact → K (mf.st.put o.dst mf.av))
        | none => False

def xwant (ops : Array Oper) (s : XS) (o : Oper) : Option Bool :=
  match o.guard with
  | none => some true
  | some (j, want) => match (ops[j]?).bind (·.dst) with
    | some t => match s.get t with
      | some (.dat .bool c) => some (c == want)
      | some (.tup []) => some false
      | _ => none
    | none => some false

def known (ops : Array Oper) (s : XS) (o : Oper) (b : Bool) : XS :=
  match o.guard with
  | none => s
  | some (j, want) => match (ops[j]?).bind (·.dst) with
    | some t => match s.get t with
      | some (.dat .bool _) => s.put (some t) (.dat .bool (b == want))
      | _ => s
    | none => s

def dOK (n : Nat) : Option Nat → Bool
  | some t => decide (t < n)
  | none => true

def xgd (C : Ctx) (ops : Array Oper) (dr : Bool) (o : Oper) (i : Nat) (K : XS → Prop) (s : XS) (b : Bool) : Prop :=
  if b = true then xdo C dr o i K (known ops s o true) else K ((known ops s o false).put o.dst (.tup []))

theorem xgd_true {C : Ctx} {ops : Array Oper} {dr : Bool} {o : Oper} {i : Nat} {K : XS → Prop} {s : XS} : xgd C ops dr o i K s true = xdo C dr o i K (known ops s o true) := rfl
theorem xgd_false {C : Ctx} {ops : Array Oper} {dr : Bool} {o : Oper} {i : Nat} {K : XS → Prop} {s : XS} : xgd C ops dr o i K s false = K ((known ops s o false).put o.dst (.tup [])) := rfl
theorem xgd_intro {C : Ctx} {ops : Array Oper} {dr : Bool} {o : Oper} {i : Nat} {K : XS → Prop} {s : XS} {b : Bool} (h1 : b = true → xdo C dr o i K (known ops s o true)) (h2 : b = false → K ((known ops s o false).put o.dst (.tup []))) : xgd C ops dr o i K s b := by
  cases b
  · exact h2 rfl
  · exact h1 rfl

def xoper (C : Ctx) (dr : Bool) (ops : Array Oper) (o : Oper) (i : Nat) (K : XS → Prop) (s : XS) : Prop :=
  dOK C.n o.dst = true ∧ match xwant ops s o with
  | none => False
  | some b => xgd C ops dr o i K s b

def xrun (C : Ctx) (ops : Array Oper) (K : XS → Prop) : Nat → List Oper → XS → Prop
  | _, [], s => K s
  | i, o :: l, s => xoper C false ops o i (xrun C ops K (i + 1) l) s

def xord (C : Ctx) (ops : Array Oper) (K : XS → Prop) : List Nat → XS → Prop
  | [], s => K { s with pins := [] }
  | i :: l, s => match ops[i]? with
    | some o => xoper C true ops o i (xord C ops K l) s
    | none => False

def xtxt (C : Ctx) (ops : Array Oper) (K : XS → Prop) : Nat → List Oper → XS → Prop
  | _, [], s => K { s with pins := [] }
  | i, o :: l, s => xoper C true ops o i (xtxt C ops K (i + 1) l) s

theorem xtxt_ord {C : Ctx} {ops : Array Oper} {K : XS → Prop} : ∀ (l : List Oper) (i : Nat), (∀ j, j < l.length → ops[i + j]? = l[j]?) → xtxt C ops K i l = xord C ops K (List.range' i l.length)
  | [], _, _ => by funext s; rfl
  | o :: l, i, h => by
    funext s
    have h0 := h 0 (by simp)
    simp only [Nat.add_zero, List.getElem?_cons_zero] at h0
    simp only [xtxt, List.length_cons, List.range'_succ, xord, h0]
    rw [xtxt_ord l (i + 1) fun j hj => by have := h (j + 1) (by simpa using hj); rwa [List.getElem?_cons_succ, show i + (j + 1) = i + 1 + j by omega] at this]

theorem xrun_cons {C : Ctx} {ops : Array Oper} {K : XS → Prop} {i : Nat} {o : Oper} {l : List Oper} {s : XS} (h : xoper C false ops o i (xrun C ops K (i + 1) l) s) : xrun C ops K i (o :: l) s := h
theorem xrun_nil {C : Ctx} {ops : Array Oper} {K : XS → Prop} {i : Nat} {s : XS} (h : K s) : xrun C ops K i [] s := h
theorem xtxt_cons {C : Ctx} {ops : Array Oper} {K : XS → Prop} {i : Nat} {o : Oper} {l : List Oper} {s : XS} (h : xoper C true ops o i (xtxt C ops K (i + 1) l) s) : xtxt C ops K i (o :: l) s := h
theorem xtxt_nil {C : Ctx} {ops : Array Oper} {K : XS → Prop} {i : Nat} {s : XS} (h : K { s with pins := [] }) : xtxt C ops K i [] s := h

end Fer

namespace Fer
open Go

structure MPE (P : Program) (t kt vt : Nat) : Prop where
  hm : P.underlying t = some (.map kt vt)
  hk : ∃ et, P.underlying kt = some (.array 2 et) ∧ P.underlying et = some (.int .i64) ∧ ∃ inf, P.info? et = some inf ∧ inf.size = 1
  hz : ∃ inf, P.info? vt = some inf ∧ inf.zero = some (.int .i64 0)

section
variable {P : Program} {w : World} {t kt vt : Nat}
theorem plain_int {et : Nat} (h : P.underlying et = some (.int .i64)) : P.plainKey et = true := by
  unfold Program.plainKey
  rw [h]
theorem cells_one {et : Nat} {inf : TypeInfo} (h : P.info? et = some inf) (h1 : inf.size = 1) : P.cellsOf et = 1 := by
  unfold Program.cellsOf
  rw [h]
  exact h1
theorem run_eq_int {et : Nat} (h : P.underlying et = some (.int .i64)) (d : Nat) (a b : Int) (w : World) : (Op.equalIn (d + 1) et (.int .i64 a) (.int .i64 b)).run P w = .ok (a == b) w := by
  simp only [Op.equalIn, Sem.run_bind, run_underlying h, Result.andThen_ok, if_true]
  rfl
theorem run_equal_pr (h : MPE P t kt vt) (a b : Int × Int) : (Op.equal kt (prV a) (prV b)).run P w = .ok (decide (a = b)) w := by
  obtain ⟨et, h1, h2, inf, h3, h4⟩ := h.hk
  obtain ⟨a1, a2⟩ := a
  obtain ⟨b1, b2⟩ := b
  have hp := plain_int h2
  have e : Op.equal kt (prV (a1, a2)) (prV (b1, b2)) = Op.equalIn (9999 + 1) kt (.agg #[.int .i64 a1, .int .i64 a2]) (.agg #[.int .i64 b1, .int .i64 b2]) := rfl
  rw [e, run_equalIn_array (w := w) 9999 _ _ h1 h3, cells_one h3 h4]
  show (Op.eqItems 9999 et 1 _ _ [0, 1]).run P w = _
  have p0 : ∀ (x y : Int) (w : World), (part et #[.int .i64 x, .int .i64 y] 0).run P w = .ok (.int .i64 x) w := fun x y w => run_part_plain (w := w) hp rfl
  have p1 : ∀ (x y : Int) (w : World), (part et #[.int .i64 x, .int .i64 y] 1).run P w = .ok (.int .i64 y) w := fun x y w => run_part_plain (w := w) hp rfl
  have pe : ∀ (x y : Int) (w : World), (Op.equalIn 9999 et (.int .i64 x) (.int .i64 y)).run P w = .ok (x == y) w := fun x y w => run_eq_int h2 9998 x y w
  simp only [Op.eqItems, Sem.run_bind, Nat.mul_one, p0, pe, Result.andThen_ok]
  by_cases e1 : a1 = b1
  · subst e1
    simp only [beq_self_eq_true, Bool.not_true, Bool.false_eq_true, if_false, Sem.run_bind, p1, pe, Result.andThen_ok]
    by_cases e2 : a2 = b2
    · simp [e2]
    · simp [e2]
  · simp [e1]
theorem run_asking (h : MPE P t kt vt) (k : Int × Int) : ∀ (l : List ((Int × Int) × Int)) (i b : Nat), (Instr.findAsking kt (prV k) (prsE b l) i).run P w = .ok ((posP k l).map fun j => (i + j, .int .i64 ((l.getD j ((0, 0), 0)).2))) w
  | [], i, b => by simp [Instr.findAsking, prsE, posP]
  | x :: l, i, b => by
    have ih := run_asking h k l (i + 1) (b + 1)
    simp only [prsE, Instr.findAsking, Sem.run_bind, run_equal_pr h, Result.andThen_ok]
    by_cases e : k = x.1
    · subst e
      simp [posP]
    · simp only [decide_eq_false e, Bool.false_eq_true, if_false, ih, posP, if_neg (Ne.symm e)]
      cases posP k l with
      | none => rfl
      | some j => simp; omega
theorem run_find_pr (h : MPE P t kt vt) (k : Int × Int) (l : List ((Int × Int) × Int)) : (Instr.findKey kt (prV k) (prsE 0 l)).run P w = .ok ((posP k l).map fun j => (j, .int .i64 ((l.getD j ((0, 0), 0)).2))) w := by
  obtain ⟨et, h1, _⟩ := h.hk
  have := run_asking (w := w) h k l 0 0
  simp only [Nat.zero_add] at this
  unfold Instr.findKey
  cases l with
  | nil => simp [run_underlying h1, prsE, Instr.findNow, posP]
  | cons x l =>
    have e : Instr.findNow (.array 2 et) (prV k) (prsE 0 (x :: l)) 0 = none := by simp [prsE, Instr.findNow, Instr.sameNow]
    simp only [Sem.run_bind, run_underlying h1, Result.andThen_ok, e]
    exact this
theorem run_check_pr (h : MPE P t kt vt) (em : Bool) (k : Int × Int) : (Instr.checkKey em 10000 kt (prV k)).run P w = .ok () w := by
  obtain ⟨et, h1, h2, inf, h3, h4⟩ := h.hk
  obtain ⟨a1, a2⟩ := k
  have hp := plain_int h2
  obtain ⟨n, hn⟩ : ∃ n, n + 1 + 1 = 10000 := ⟨9998, rfl⟩
  rw [← hn]
  have hc : ∀ (a : Int) (w : World), (Instr.checkKey em (n + 1) et (.int .i64 a)).run P w = .ok () w := fun a w => MapKept.run_checkKey h2 (by simp [MapKept.IsKey]) _ n
  have p0 : ∀ (x y : Int) (w : World), (part et #[.int .i64 x, .int .i64 y] 0).run P w = .ok (.int .i64 x) w := fun x y w => run_part_plain (w := w) hp rfl
  have p1 : ∀ (x y : Int) (w : World), (part et #[.int .i64 x, .int .i64 y] 1).run P w = .ok (.int .i64 y) w := fun x y w => run_part_plain (w := w) hp rfl
  generalize n + 1 = n1 at hc ⊢
  simp only [Instr.checkKey, prV, Sem.run_bind, run_underlying h1, Result.andThen_ok]
  simp only [Std.Legacy.Range.forIn_eq_forIn_range', Std.Legacy.Range.size, Nat.sub_zero, Nat.add_one_sub_one, Nat.div_one]
  simp [List.range', run_sizeOf w h3, cells_one h3 h4, p0, p1, hc]
theorem run_stays (k : Int × Int) : (Instr.keyThatStays (prV k) (prV k)).run P w = .ok (prV k) w := by
  simp [Instr.keyThatStays, prV, Instr.sameBits]


def PrsAt (w : World) (b : Nat) (l : List ((Int × Int) × Int)) : Prop := ∃ es, w.heap[b]? = some (.map es l.length) ∧ es.toList = prsE 0 l
theorem prsE_len : ∀ (l : List ((Int × Int) × Int)) (i : Nat), (prsE i l).length = l.length
  | [], _ => rfl
  | _ :: l, i => by simp only [prsE, List.length_cons, prsE_len l]
theorem prsE_get : ∀ (l : List ((Int × Int) × Int)) (i j : Nat), (prsE i l)[j]? = (l[j]?).map fun x => { key := prV x.1, val := .int .i64 x.2, born := i + j }
  | [], i, j => by simp [prsE]
  | x :: l, i, 0 => by simp [prsE]
  | x :: l, i, j + 1 => by
    simp only [prsE, List.getElem?_cons_succ, prsE_get l (i + 1) j]
    congr 1
    funext x
    rw [show i + 1 + j = i + (j + 1) by omega]
theorem prsE_app (x : (Int × Int) × Int) : ∀ (l : List ((Int × Int) × Int)) (i : Nat), prsE i (l ++ [x]) = prsE i l ++ [{ key := prV x.1, val := .int .i64 x.2, born := i + l.length }]
  | [], i => by simp [prsE]
  | y :: l, i => by
    simp only [List.cons_append, prsE, prsE_app x l (i + 1), List.length_cons]
    rw [show i + 1 + l.length = i + (l.length + 1) by omega]
theorem prsE_mod (k : Int × Int) (v : Int) : ∀ (l : List ((Int × Int) × Int)) (i j : Nat), (prsE i l).modify j (fun e => { e with key := prV k, val := .int .i64 v }) = prsE i (l.set j (k, v))
  | [], i, j => by simp [prsE]
  | x :: l, i, 0 => by simp [prsE]
  | x :: l, i, j + 1 => by simp only [prsE, List.modify_succ_cons, List.set_cons_succ, prsE_mod k v l (i + 1) j]
theorem prsE_key (k : Int × Int) : ∀ (l : List ((Int × Int) × Int)) (i j : Nat), posP k l = some j → (prsE i l).modify j (fun e => { e with key := prV k }) = prsE i l
  | [], i, j, h => by simp [posP] at h
  | x :: l, i, j, h => by
    unfold posP at h
    by_cases e : x.1 = k
    · rw [if_pos e] at h; cases h; simp [prsE, e]
    · rw [if_neg e] at h
      cases hp : posP k l with
      | none => rw [hp] at h; cases h
      | some q =>
        rw [hp] at h
        cases h
        simp only [prsE, List.modify_succ_cons, prsE_key k l (i + 1) q hp]
theorem prsE_val (v : Int) : ∀ (l : List ((Int × Int) × Int)) (i j : Nat), j < l.length → (prsE i l).modify j (fun e => { e with val := .int .i64 v }) = prsE i (l.set j ((l.getD j ((0, 0), 0)).1, v))
  | [], i, j, h => by simp at h
  | x :: l, i, 0, _ => by simp [prsE]
  | x :: l, i, j + 1, h => by
    simp only [List.length_cons] at h
    simp only [prsE, List.modify_succ_cons, List.set_cons_succ, List.getD_cons_succ, prsE_val v l (i + 1) j (by omega)]
theorem posP_lt {k : Int × Int} : ∀ {l : List ((Int × Int) × Int)} {j : Nat}, posP k l = some j → j < l.length ∧ (l.getD j ((0, 0), 0)).1 = k
  | [], _, h => by simp [posP] at h
  | x :: l, j, h => by
    unfold posP at h
    by_cases e : x.1 = k
    · rw [if_pos e] at h; cases h; exact ⟨by simp, e⟩
    · rw [if_neg e] at h
      cases hp : posP k l with
      | none => rw [hp] at h; cases h
      | some q =>
        rw [hp] at h
        cases h
        have := posP_lt hp
        exact ⟨by simp; omega, by simpa using this.2⟩

theorem run_get_pr (h : MPE P t kt vt) {b : Nat} {l : List ((Int × Int) × Int)} (hb : PrsAt w b l) (k : Int × Int) : (Instr.lookup t (.map (some b)) (prV k) false).run P w = .ok (.int .i64 (getP l k)) w := by
  obtain ⟨es, h1, h2⟩ := hb
  obtain ⟨inf, z1, z2⟩ := h.hz
  have hz : (zeroValue vt).run P w = .ok (.int .i64 0) w := by simp [zeroValue, typeInfo, z1, z2]
  have hf := run_find_pr (w := w) h k l
  rw [← h2] at hf
  unfold getP
  cases hp : posP k l with
  | none => rw [hp] at hf; simp [Instr.lookup, run_underlying h.hm, MapKept.run_getObj_map h1, run_check_pr h, hf, hz, Result.andThen]
  | some j => rw [hp] at hf; simp [Instr.lookup, run_underlying h.hm, MapKept.run_getObj_map h1, run_check_pr h, hf, Result.andThen]
theorem es_get {es : Array MapEntry} {l : List ((Int × Int) × Int)} (h2 : es.toList = prsE 0 l) {j : Nat} (hj : j < l.length) : es[j]? = some { key := prV (l.getD j ((0, 0), 0)).1, val := .int .i64 (l.getD j ((0, 0), 0)).2, born := j } := by
  rw [← Array.getElem?_toList, h2, prsE_get, List.getElem?_eq_getElem hj, List.getD_eq_getElem?_getD, List.getElem?_eq_getElem hj]
  simp
theorem run_upd_pr (h : MPE P t kt vt) {b : Nat} {l : List ((Int × Int) × Int)} (hb : PrsAt w b l) (k : Int × Int) (v : Int) : ∃ o, (Instr.mapUpdate t (.map (some b)) (prV k) (.int .i64 v)).run P w = .ok () { w with heap := w.heap.setIfInBounds b o } ∧
    PrsAt { w with heap := w.heap.setIfInBounds b o } b (setP l k v) := by
  obtain ⟨es, h1, h2⟩ := hb
  have hlt : b < w.heap.size := (Array.getElem?_eq_some_iff.1 h1).1
  have hset : ∀ o, (w.heap.setIfInBounds b o)[b]? = some o := fun o => by simp [hlt]
  have hf := run_find_pr (w := w) h k l
  rw [← h2] at hf
  unfold setP
  cases hp : posP k l with
  | none =>
    rw [hp] at hf
    refine ⟨.map (es.push { key := prV k, val := .int .i64 v, born := l.length }) (l.length + 1), ?_, _, by rw [hset, List.length_append]; rfl, ?_⟩
    · simp [Instr.mapUpdate, run_underlying h.hm, MapKept.run_getObj_map h1, run_check_pr h, hf, MapKept.run_setObj_map _ h1, Result.andThen]
    · rw [Array.toList_push, h2, prsE_app, Nat.zero_add]
  | some j =>
    rw [hp] at hf
    obtain ⟨hj, hk⟩ := posP_lt hp
    have hej := es_get h2 hj
    rw [hk] at hej
    refine ⟨.map (es.modify j fun e => { e with key := prV k, val := .int .i64 v }) l.length, ?_, _, by rw [hset, List.length_set], ?_⟩
    · simp [Instr.mapUpdate, run_underlying h.hm, MapKept.run_getObj_map h1, run_check_pr h, hf, hej, run_stays, MapKept.run_setObj_map _ h1, Result.andThen]
    · rw [Array.toList_modify, h2, prsE_mod]
theorem run_ent_pr (h : MPE P t kt vt) {b : Nat} {l : List ((Int × Int) × Int)} (hb : PrsAt w b l) (k : Int × Int) : ∃ o, (Instr.mapEntry t (.map (some b)) (prV k)).run P w = .ok (.tuple #[.int .i64 (getP l k), goInt ((idxP l k : Nat) : Int)]) { w with heap := w.heap.setIfInBounds b o } ∧
    PrsAt { w with heap := w.heap.setIfInBounds b o } b (entP l k) := by
  obtain ⟨es, h1, h2⟩ := hb
  have hlt : b < w.heap.size := (Array.getElem?_eq_some_iff.1 h1).1
  have hset : ∀ o, (w.heap.setIfInBounds b o)[b]? = some o := fun o => by simp [hlt]
  obtain ⟨inf, z1, z2⟩ := h.hz
  have hz : (zeroValue vt).run P w = .ok (.int .i64 0) w := by simp [zeroValue, typeInfo, z1, z2]
  have hf := run_find_pr (w := w) h k l
  rw [← h2] at hf
  unfold entP getP idxP
  cases hp : posP k l with
  | none =>
    rw [hp] at hf
    refine ⟨.map (es.push { key := prV k, val := .int .i64 0, born := l.length }) (l.length + 1), ?_, _, by rw [hset, List.length_append]; rfl, ?_⟩
    · simp [Instr.mapEntry, run_underlying h.hm, MapKept.run_getObj_map h1, run_check_pr h, hf, hz, MapKept.run_setObj_map _ h1, Result.andThen]
    · rw [Array.toList_push, h2, prsE_app, Nat.zero_add]
  | some j =>
    rw [hp] at hf
    obtain ⟨hj, hk⟩ := posP_lt hp
    have hej := es_get h2 hj
    rw [hk] at hej
    refine ⟨.map (es.modify j fun e => { e with key := prV k }) l.length, ?_, _, by rw [hset], ?_⟩
    · simp [Instr.mapEntry, run_underlying h.hm, MapKept.run_getObj_map h1, run_check_pr h, hf, hej, run_stays, MapKept.run_setObj_map _ h1, Result.andThen]
    · rw [Array.toList_modify, h2, prsE_key k l 0 j hp]
theorem prsE_born : ∀ (l : List ((Int × Int) × Int)) (i : Nat), (prsE i l).map (·.born) = List.range' i l.length
  | [], _ => rfl
  | x :: l, i => by simp only [prsE, List.map_cons, prsE_born l (i + 1), List.length_cons, List.range'_succ]
theorem born_nodup (l : List ((Int × Int) × Int)) : ((prsE 0 l).map (·.born)).Nodup := by
  rw [prsE_born]
  exact List.nodup_range'
theorem run_sto_pr {b : Nat} {l : List ((Int × Int) × Int)} (hb : PrsAt w b l) {j : Nat} (hj : j < l.length) (v : Int) : ∃ o, (Instr.entryStore t (.map (some b)) (goInt (j : Int)) (.int .i64 v)).run P w = .ok () { w with heap := w.heap.setIfInBounds b o } ∧
    PrsAt { w with heap := w.heap.setIfInBounds b o } b (putP l j v) := by
  obtain ⟨es, h1, h2⟩ := hb
  have hlt : b < w.heap.size := (Array.getElem?_eq_some_iff.1 h1).1
  have hset : ∀ o, (w.heap.setIfInBounds b o)[b]? = some o := fun o => by simp [hlt]
  unfold putP
  have hej : (prsE 0 l)[j]? = some { key := prV (l.getD j ((0, 0), 0)).1, val := .int .i64 (l.getD j ((0, 0), 0)).2, born := j } := by
    rw [prsE_get, List.getElem?_eq_getElem hj, List.getD_eq_getElem?_getD, List.getElem?_eq_getElem hj]
    simp
  have hfi := WideElems.findIdx_born (born_nodup l) hej
  have hfe : es.findIdx? (fun e => ((e.born : Nat) : Int) == ((j : Nat) : Int)) = some j := by
    rw [WideElems.findIdx_arr, h2]
    exact hfi
  refine ⟨.map (es.modify j fun e => { e with val := .int .i64 v }) l.length, ?_, _, by rw [hset, List.length_set], ?_⟩
  · simp [Instr.entryStore, MapKept.run_getObj_map h1, asInt, asIntOf, goInt, hfe, MapKept.run_setObj_map _ h1, Result.andThen]
  · rw [Array.toList_modify, h2, prsE_val v l 0 j hj]


def LookAt (w : World) (ib b n : Nat) (seen : List Nat) : Prop := w.heap[ib]? = some (.mapIter (some b) n seen.toArray n)
theorem run_range_pr (h : MPE P t kt vt) {b : Nat} {l : List ((Int × Int) × Int)} (hb : PrsAt w b l) : (Instr.range t (.map (some b))).run P w = .ok (.pointer (some ⟨w.heap.size, 0, none⟩)) (w.alloc (.mapIter (some b) l.length #[] l.length)) := by
  obtain ⟨es, h1, _⟩ := hb
  simp [Instr.range, run_underlying h.hm, MapKept.run_getObj_map h1]
theorem mem_born {l : List ((Int × Int) × Int)} {e : MapEntry} (h : e ∈ prsE 0 l) : e.born < l.length ∧ e.key = prV (l.getD e.born ((0, 0), 0)).1 ∧ e.val = .int .i64 (l.getD e.born ((0, 0), 0)).2 := by
  obtain ⟨j, hj⟩ := List.mem_iff_getElem?.1 h
  rw [prsE_get] at hj
  cases hx : l[j]? with
  | none => rw [hx] at hj; cases hj
  | some x =>
    rw [hx] at hj
    cases hj
    have hlt := (List.getElem?_eq_some_iff.1 hx).1
    have hg : l.getD j ((0, 0), 0) = x := by rw [List.getD_eq_getElem?_getD, hx]; rfl
    simp only [Nat.zero_add]
    exact ⟨hlt, by rw [hg], by rw [hg]⟩
theorem run_next_pr {b ib ty : Nat} {l : List ((Int × Int) × Int)} (hb : PrsAt w b l) {seen : List Nat} (hi : LookAt w ib b l.length seen) :
    ((∀ j, j < l.length → j ∈ seen) ∧ (Instr.next (.pointer (some ⟨ib, 0, none⟩)) false ty).run P w = .ok (.tuple #[.bool false]) w) ∨
    ∃ j, j < l.length ∧ j ∉ seen ∧ ∃ w1 : World, (w1 = w ∨ w1 = w.drew) ∧ (Instr.next (.pointer (some ⟨ib, 0, none⟩)) false ty).run P w = .ok (.tuple #[.bool true, prV (l.getD j ((0, 0), 0)).1, .int .i64 (l.getD j ((0, 0), 0)).2]) { w1 with heap := w.heap.setIfInBounds ib (.mapIter (some b) l.length (seen ++ [j]).toArray l.length) } := by
  obtain ⟨es, h1, h2⟩ := hb
  unfold LookAt at hi
  have hold : ∀ x ∈ es.toList, x.born < l.length := fun x hx => (mem_born (by rw [h2] at hx; exact hx)).1
  simp only [Instr.next, getObj, Sem.run_bind, Sem.run, hi, h1, Result.andThen, next_test_false seen.toArray es l.length l.length hold (Nat.le_refl _), Bool.false_eq_true, if_false]
  have hmem : ∀ x ∈ (Array.filter (fun e => !seen.toArray.contains e.born) es).toList, x ∈ prsE 0 l ∧ x.born ∉ seen := fun x hx => by
    simp at hx
    refine ⟨by rw [← h2]; simpa using hx.1, hx.2⟩
  have hall : ∀ x ∈ prsE 0 l, x.born ∉ seen → x ∈ (Array.filter (fun e => !seen.toArray.contains e.born) es).toList := fun x hx hs => by
    rw [← h2] at hx
    simp
    exact ⟨by simpa using hx, hs⟩
  generalize Array.filter (fun e => !seen.toArray.contains e.born) es = L at hmem hall ⊢
  have e1 : L.filter (fun x => decide (x.born < l.length)) = L := Array.filter_eq_self.2 (fun x hx => by simpa using (mem_born (hmem x (by simpa using hx)).1).1)
  have e2 : L.filter (fun x => decide (x.born ≥ l.length)) = #[] := by
    rw [Array.filter_eq_empty_iff]
    intro x hx
    have := (mem_born (hmem x (by simpa using hx)).1).1
    simp
    omega
  simp only [e1, e2, Array.append_empty]
  by_cases h0 : L.size = 0
  · left
    have : L = #[] := Array.eq_empty_of_size_eq_zero h0
    subst this
    refine ⟨fun j hj => ?_, by simp [choose, Sem.run, Question.forced]⟩
    refine Classical.byContradiction fun hs => ?_
    have hg := prsE_get l 0 j
    rw [List.getElem?_eq_getElem hj, Nat.zero_add] at hg
    have := hall _ (List.mem_of_getElem? hg) hs
    simp at this
  · right
    have hne : L.isEmpty = false := by simp [Array.isEmpty, h0]
    simp only [hne, Bool.false_eq_true, if_false, Array.empty_append, Array.size_map]
    have hch : ∃ (j : Nat) (w1 : World), j < L.size ∧ (w1 = w ∨ w1 = w.drew) ∧ (choose (Question.mapNext L.size)).run P w = .ok j w1 := by
      by_cases hf : L.size ≤ 1
      · exact ⟨0, w, by omega, .inl rfl, by simp [choose, Sem.run, Question.forced, hf]⟩
      · exact ⟨_, w.drew, Nat.mod_lt _ (by omega), .inr rfl, by
          simp only [choose, Sem.run, Question.forced, decide_eq_true_eq, hf, if_false, Question.cut]
          rfl⟩
    obtain ⟨j, w1, hj, hal, hrun⟩ := hch
    obtain ⟨g1, g2⟩ := hmem L[j] (by simp)
    obtain ⟨m1, m2, m3⟩ := mem_born g1
    have hh : w1.heap = w.heap := by rcases hal with e | e <;> rw [e]; rfl
    refine ⟨L[j].born, m1, g2, w1, hal, ?_⟩
    simp only [hrun, Array.getElem?_map, Array.getElem?_eq_getElem hj, Option.map_some, Sem.run_bind, setObj, Sem.run, hh, hi, Result.andThen, m2, m3]
    simp
theorem run_entry_pr {b ib : Nat} {l : List ((Int × Int) × Int)} (hb : PrsAt w b l) {seen : List Nat} {j : Nat} (hj : j < l.length) (hi : LookAt w ib b l.length (seen ++ [j])) :
    (Instr.entry (.pointer (some ⟨ib, 0, none⟩))).run P w = .ok (.tuple #[prV (l.getD j ((0, 0), 0)).1, .int .i64 (l.getD j ((0, 0), 0)).2]) w := by
  obtain ⟨es, h1, h2⟩ := hb
  unfold LookAt at hi
  have hg := prsE_get l 0 j
  rw [List.getElem?_eq_getElem hj, Nat.zero_add] at hg
  have hm := List.mem_of_getElem? hg
  have hf : es.find? (fun e => e.born == j) = some { key := prV l[j].1, val := .int .i64 l[j].2, born := j } := by
    rw [← Array.find?_toList, h2]
    exact find_born _ (prsE 0 l) (born_nodup l) hm
  have hgd : l.getD j ((0, 0), 0) = l[j] := by rw [List.getD_eq_getElem?_getD, List.getElem?_eq_getElem hj]; rfl
  have hbk : (seen ++ [j]).toArray.back? = some j := by simp
  simp only [Instr.entry, getObj, Sem.run_bind, Sem.run, hi, Result.andThen, hbk, h1, bne_self_eq_false, Bool.false_eq_true, if_false, hf, hgd]
  rfl
theorem mapAt_prs {b : Nat} {l : List ((Int × Int) × Int)} : MapAt w b (.prs l) ↔ PrsAt w b l := by
  constructor
  · rintro ⟨o, h1, h2⟩
    cases o <;> first | exact h2.elim | skip
    rename_i es c
    obtain ⟨rfl, h3⟩ := h2
    exact ⟨es, h1, h3⟩
  · rintro ⟨es, h1, h2⟩
    exact ⟨_, h1, rfl, h2⟩
theorem mapAt_look {ib b n : Nat} {seen : List Nat} : MapAt w ib (.look b n seen) ↔ LookAt w ib b n seen := by
  constructor
  · rintro ⟨o, h1, h2⟩
    cases o <;> first | exact h2.elim | skip
    obtain ⟨rfl, rfl, rfl, rfl⟩ := h2
    exact h1
  · intro h
    exact ⟨_, h, rfl, rfl, rfl, rfl⟩
theorem mapP_te {t kt vt : Nat} (h : teB P t (.mapP kt vt) = true) : MPE P t kt vt := by
  simp only [teB, Bool.and_eq_true] at h
  obtain ⟨⟨h1, h2⟩, h3⟩ := h
  refine ⟨?_, ?_, ?_⟩
  · split at h1
    · rename_i k v hu
      simp only [Bool.and_eq_true, beq_iff_eq] at h1
      rw [hu, h1.1, h1.2]
    · cases h1
  · split at h2
    · rename_i n e hu
      simp only [Bool.and_eq_true, beq_iff_eq] at h2
      obtain ⟨⟨rfl, q1⟩, q2⟩ := h2
      refine ⟨e, hu, ?_, ?_⟩
      · split at q1
        · assumption
        · cases q1
      · split at q2
        · rename_i inf hi
          exact ⟨inf, hi, by simpa using q2⟩
        · cases q2
    · cases h2
  · split at h3
    · rename_i inf hi
      split at h3
      · rename_i n hz
        simp only [beq_iff_eq] at h3
        subst h3
        exact ⟨inf, hi, hz⟩
      · cases h3
    · cases h3
end
end Fer

namespace Fer
open Go

def noS : Nat → Prop := fun _ => False
def oldS (w : World) : Nat → Prop := fun b => b < w.heap.size

inductive Args (w : World) (S : Nat → Prop) : List Ty → List TV → List Value → Prop
  | nil : Args w S [] [] []
  | cons {t ts v vs u us} (h : RO w S t v u) (hl : Args w S ts vs us) : Args w S (t :: ts) (⟨t, v⟩ :: vs) (pack t u :: us)

def Ret1 (T : Nat → Prop) (w' : World) (v : TV) (u : Value) (F : Nat → Prop) : Prop :=
  (∀ n, F n → ¬ T n ∧ n < w'.heap.size) ∧
  match v with
  | ⟨.list e t, l⟩ => ∃ ct, Own w' noS (.list e t) (t.lev + 1) l none ct [u] F
  | ⟨.prod (.list e t) (.list e' t'), x⟩ => ∃ u1 u2 ct ct' F1 F2, u = .agg #[u1, u2] ∧ Own w' noS (.list e t) (t.lev + 1) x.1 none ct [u1] F1 ∧ Own w' noS (.list e' t') (t'.lev + 1) x.2 none ct' [u2] F2 ∧ (∀ n, F1 n → ¬ F2 n) ∧ ∀ n, F n ↔ F1 n ∨ F2 n
  | ⟨t, x⟩ => (∀ n, ¬ F n) ∧ ∃ cs, u = pack t cs ∧ RO w' noS t x cs
theorem Ret1.flat {T : Nat → Prop} {w' : World} {t : Ty} {x : t.den} {u : Value} {F : Nat → Prop} (hf : t.flat = true) (hF : ∀ n, ¬ F n) (h : ∃ cs, u = pack t cs ∧ RO w' noS t x cs) : Ret1 T w' ⟨t, x⟩ u F := by
  refine ⟨fun n hn => absurd hn (hF n), ?_⟩
  cases t with
  | list => simp [Ty.flat] at hf
  | prod a b => cases a with
    | list => simp [Ty.flat] at hf
    | _ => exact ⟨hF, h⟩
  | _ => exact ⟨hF, h⟩

inductive Rets (T : Nat → Prop) (w' : World) : List TV → List Value → (Nat → Prop) → Prop
  | nil : Rets T w' [] [] noF
  | cons {v vs u us F G} (h : Ret1 T w' v u F) (hl : Rets T w' vs us G) (hd : ∀ n, F n → ¬ G n) : Rets T w' (v :: vs) (u :: us) (fun n => F n ∨ G n)

def valOf : List Value → Value
  | [v] => v
  | l => .tuple l.toArray

def FnOK (P : Program) (f : Nat) (sp : Spec) : Prop :=
  (∃ fn, P.funcs[f]? = some fn ∧ (fn.name == "runtime.NumGoroutine") = false ∧ fn.body.isNone = false) ∧
  ∀ (args : List TV) (K : List TV → Prop), sp.wp args K → ∀ (w : World) (vs : List Value), Args w (oldS w) sp.ps args vs →
    Calls P f vs.toArray w fun e w' => match e with
      | .returned v => Grew w w' ∧ ∃ outs us F, K outs ∧ v = valOf us ∧ Rets (oldS w) w' outs us F
      | _ => False

def butF (w : World) (F : Nat → Prop) : Nat → Prop := fun n => n < w.heap.size ∧ ¬ F n

structure Turned (T : Nat → Prop) (w w' : World) : Prop where
  os : w'.os = w.os
  tape : w'.tape = w.tape
  output : SameOut T w w'
  size : w.heap.size ≤ w'.heap.size
  old : ∀ n, T n → w'.heap[n]? = w.heap[n]?

def FnMv (P : Program) (f : Nat) (sp : Spec) : Prop :=
  (∃ fn, P.funcs[f]? = some fn ∧ (fn.name == "runtime.NumGoroutine") = false ∧ fn.body.isNone = false) ∧
  ∀ (e : Nat) (t : Ty) (ts : List Ty) (x : List t.den) (args : List TV) (K : List TV → Prop), sp.ps = .list e t :: ts → sp.wp (⟨.list e t, x⟩ :: args) K → ∀ (w : World) (v0 : Value) (vs : List Value) (ct : CT) (F : Nat → Prop),
    Own w (butF w F) (.list e t) (t.lev + 1) x none ct [v0] F → (∀ n, F n → n < w.heap.size) → Args w (butF w F) ts args vs →
    Calls P f (v0 :: vs).toArray w fun e w' => match e with
      | .returned v => Turned (butF w F) w w' ∧ ∃ outs us G, K outs ∧ v = valOf us ∧ Rets (butF w F) w' outs us G
      | _ => False

def FnIp (P : Program) (f : Nat) (sp : Spec) : Prop :=
  (∃ fn, P.funcs[f]? = some fn ∧ (fn.name == "runtime.NumGoroutine") = false ∧ fn.body.isNone = false) ∧
  ∀ (e : Nat) (t : Ty) (ts : List Ty) (x : List t.den) (args : List TV) (K : List TV → Prop), sp.ps = .list e t :: ts → sp.wp (⟨.list e t, x⟩ :: args) K → ∀ (w : World) (v0 : Value) (vs : List Value) (ct : CT) (F : Nat → Prop),
    Own w (butF w F) (.list e t) (t.lev + 1) x none ct [v0] F → (∀ n, F n → n < w.heap.size) → Args w (butF w F) ts args vs →
    Calls P f (v0 :: vs).toArray w fun e' w' => match e' with
      | .returned v => v = .tuple #[] ∧ Turned (butF w F) w w' ∧ ∃ (x' : List t.den) (ct' : CT) (G : Nat → Prop), K [⟨.list e t, x'⟩] ∧ (∀ n, G n → ¬ butF w F n ∧ n < w'.heap.size) ∧ Own w' noS (.list e t) (t.lev + 1) x' none ct' [v0] G
      | _ => False

inductive CapsAt (w : World) (S : Nat → Prop) : List Ty → List TV → List Value → Prop
  | nil : CapsAt w S [] [] []
  | cons {t ts x vs us} {b o : Nat} {arr : Array Value} {E : Nat} {fr : Nat × Nat} (h1 : S b) (h2 : w.heap[b]? = some (.cells arr E fr)) (h3 : o + t.width ≤ arr.size) (h4 : RO w S t x (cellsAt arr o t.width)) (hl : CapsAt w S ts vs us) :
    CapsAt w S (t :: ts) (⟨t, x⟩ :: vs) (.pointer (some ⟨b, o, none⟩) :: us)

def FnCl (P : Program) (f : Nat) (q : Spec × List Ty) : Prop :=
  (∃ fn, P.funcs[f]? = some fn ∧ (fn.name == "runtime.NumGoroutine") = false ∧ fn.body.isNone = false) ∧
  ∀ (args caps : List TV) (K : List TV → Prop), q.1.wp (args ++ caps) K → ∀ (w : World) (vs us : List Value), Args w (oldS w) q.1.ps args vs → CapsAt w (oldS w) q.2 caps us →
    Calls P f (vs ++ us).toArray w fun e w' => match e with
      | .returned v => Grew w w' ∧ ∃ outs us F, K outs ∧ v = valOf us ∧ Rets (oldS w) w' outs us F
      | _ => False

inductive StArgs (w : World) (T : Nat → Prop) : List PA → List Nat → List TV → List TV → List Value → (Nat → Prop) → Prop
  | nil : StArgs w T [] [] [] [] [] noF
  | val {t x u ps bl vals boxes vs F} (h : RO w T t x u) (hl : StArgs w T ps bl vals boxes vs F) : StArgs w T (.val t :: ps) bl (⟨t, x⟩ :: vals) boxes (pack t u :: vs) F
  | cap {t x ps bl vals boxes vs F} {b o : Nat} {arr : Array Value} {E : Nat} {fr : Nat × Nat} (h1 : T b) (h2 : w.heap[b]? = some (.cells arr E fr)) (h3 : o + t.width ≤ arr.size) (h4 : RO w T t x (cellsAt arr o t.width))
      (hl : StArgs w T ps bl vals boxes vs F) : StArgs w T (.cap t :: ps) bl (⟨t, x⟩ :: vals) boxes (.pointer (some ⟨b, o, none⟩) :: vs) F
  | capl {t x ps bl vals boxes vs F} {b : Nat} {arr : Array Value} {E : Nat} {fr : Nat × Nat} (h1 : T b) (h2 : w.heap[b]? = some (.cells arr E fr)) (h3 : t.width ≤ arr.size) (h4 : RO w T t x (cellsAt arr 0 t.width))
      (hl : StArgs w T ps bl vals boxes vs F) : StArgs w T (.capl t :: ps) bl (⟨t, x⟩ :: ⟨.int .i64, (b : Int)⟩ :: vals) boxes (.pointer (some ⟨b, 0, none⟩) :: vs) F
  | box {e t x ps bl vals boxes vs F} {G : Nat → Prop} {b cap : Nat} {kids : Nat → CT} {hv : Value} (h : Own w T (.list e t) (t.lev + 1) [x] none (.node b cap kids) [hv] G) (hd : ∀ n, G n → ¬ F n)
      (hl : StArgs w T ps bl vals boxes vs F) : StArgs w T (.box e t :: ps) (b :: bl) vals (⟨t, x⟩ :: boxes) (.pointer (some ⟨b, 0, none⟩) :: vs) (fun n => G n ∨ F n)
  | one {e t x ps bl vals boxes vs F} {G : Nat → Prop} {b : Nat} {kids : Nat → CT} {hv : Value} (h : Own w T (.list e t) (t.lev + 1) [x] none (.node b 1 kids) [hv] G) (hd : ∀ n, G n → ¬ F n)
      (hl : StArgs w T ps bl vals boxes vs F) : StArgs w T (.one e t :: ps) (b :: bl) vals (⟨t, x⟩ :: boxes) (.pointer (some ⟨b, 0, none⟩) :: vs) (fun n => G n ∨ F n)
  | gone {e t x ps bl vals boxes vs F} {G : Nat → Prop} {b : Nat} {kids : Nat → CT} {hv : Value} (h : Own w T (.list e t) (t.lev + 1) [x] none (.node b 1 kids) [hv] G) (hd : ∀ n, G n → ¬ F n)
      (hl : StArgs w T ps bl vals boxes vs F) : StArgs w T (.gone e t :: ps) (b :: bl) vals (⟨t, x⟩ :: boxes) (.pointer (some ⟨b, 0, none⟩) :: vs) (fun n => G n ∨ F n)
  | gho {e t x ps bl vals boxes vs F} {G : Nat → Prop} {b cap : Nat} {kids : Nat → CT} {hv : Value} (h : Own w T (.list e t) (t.lev + 1) [x] none (.node b cap kids) [hv] G) (hd : ∀ n, G n → ¬ F n)
      (hl : StArgs w T ps bl vals boxes vs F) : StArgs w T (.gho e t :: ps) (b :: bl) vals (⟨t, x⟩ :: boxes) vs (fun n => G n ∨ F n)

inductive StOut (w' : World) (T : Nat → Prop) : List PA → List Nat → List TV → (Nat → Prop) → Prop
  | nil : StOut w' T [] [] [] noF
  | val {t ps bl boxes H} (hl : StOut w' T ps bl boxes H) : StOut w' T (.val t :: ps) bl boxes H
  | cap {t ps bl boxes H} (hl : StOut w' T ps bl boxes H) : StOut w' T (.cap t :: ps) bl boxes H
  | capl {t ps bl boxes H} (hl : StOut w' T ps bl boxes H) : StOut w' T (.capl t :: ps) bl boxes H
  | box {e t} {x : t.den} {ps bl boxes H} {G : Nat → Prop} {b cap : Nat} {kids : Nat → CT} {hv : Value} (h : Own w' noS (.list e t.er) (t.lev + 1) [erV t x] none (.node b cap kids) [hv] G) (hn : ∀ n, G n → ¬ T n ∧ n < w'.heap.size) (hd : ∀ n, G n → ¬ H n)
      (hl : StOut w' T ps bl boxes H) : StOut w' T (.box e t :: ps) (b :: bl) (⟨t, x⟩ :: boxes) (fun n => G n ∨ H n)
  | one {e t} {x : t.den} {ps bl boxes H} {G : Nat → Prop} {b : Nat} {kids : Nat → CT} {hv : Value} (h : Own w' noS (.list e t.er) (t.lev + 1) [erV t x] none (.node b 1 kids) [hv] G) (hn : ∀ n, G n → ¬ T n ∧ n < w'.heap.size) (hd : ∀ n, G n → ¬ H n)
      (hl : StOut w' T ps bl boxes H) : StOut w' T (.one e t :: ps) (b :: bl) (⟨t, x⟩ :: boxes) (fun n => G n ∨ H n)
  | gho {e t} {x : t.den} {ps bl boxes H} {G : Nat → Prop} {b cap : Nat} {kids : Nat → CT} {hv : Value} (h : Own w' noS (.list e t.er) (t.lev + 1) [erV t x] none (.node b cap kids) [hv] G) (hn : ∀ n, G n → ¬ T n ∧ n < w'.heap.size) (hd : ∀ n, G n → ¬ H n)
      (hl : StOut w' T ps bl boxes H) : StOut w' T (.gho e t :: ps) (b :: bl) (⟨t, x⟩ :: boxes) (fun n => G n ∨ H n)
  | gone {e t ps b bl boxes H} (hl : StOut w' T ps bl boxes H) : StOut w' T (.gone e t :: ps) (b :: bl) boxes H

def FnSt (P : Program) (f : Nat) (sp : SpecS) : Prop :=
  (∃ fn, P.funcs[f]? = some fn ∧ (fn.name == "runtime.NumGoroutine") = false ∧ fn.body.isNone = false) ∧
  ∀ (bl : List Nat) (vals boxes : List TV) (K : List TV → List TV → Prop), sp.wp bl vals boxes K → ∀ (w : World) (vs : List Value) (F : Nat → Prop), StArgs w (butF w F) sp.pat bl vals boxes vs F → (∀ n, F n → n < w.heap.size) →
    Calls P f vs.toArray w fun e w' => match e with
      | .returned v => Turned (butF w F) w w' ∧ ∃ outs bx us G H, K outs bx ∧ v = valOf us ∧ StOut w' (butF w F) sp.pat bl bx H ∧ Rets (fun n => butF w F n ∨ H n) w' outs us G
      | _ => False

def FnAt (P : Program) (f : Nat) (sp : Spec) (w0 : World) (S0 : Nat → Prop) : Prop :=
  (∃ fn, P.funcs[f]? = some fn ∧ (fn.name == "runtime.NumGoroutine") = false ∧ fn.body.isNone = false) ∧
  ∀ (args : List TV) (K : List TV → Prop), sp.wp args K → ∀ (w : World) (vs : List Value), (∀ b, S0 b → w.heap[b]? = w0.heap[b]?) → Args w (oldS w) sp.ps args vs →
    Calls P f vs.toArray w fun e w' => match e with
      | .returned v => Grew w w' ∧ ∃ outs us F, K outs ∧ v = valOf us ∧ Rets (oldS w) w' outs us F
      | _ => False
theorem FnOK.at {P : Program} {f : Nat} {sp : Spec} (h : FnOK P f sp) {w0 : World} {S0 : Nat → Prop} : FnAt P f sp w0 S0 := ⟨h.1, fun args K hK w vs _ hA => h.2 args K hK w vs hA⟩
def GlobAt (P : Program) (w0 : World) (S0 : Nat → Prop) (g T : Nat) (l : List Int) : Prop :=
  S0 g ∧ (∃ arr E fr, w0.heap[g]? = some (.cells arr E fr) ∧ l.length ≤ arr.size ∧ ∀ i, i < l.length → arr[i]? = some (.int .i64 (l.getD i 0))) ∧
  ∃ e inf, P.underlying T = some (.array l.length e) ∧ P.info? e = some inf ∧ inf.size = 1
def CtxOK (P : Program) (C : Ctx) (w0 : World) (S0 : Nat → Prop) : Prop := ttB P C.tt = true ∧ (∀ f sp, C.fn f = some sp → FnAt P f sp w0 S0) ∧ (∀ f sp, C.mv f = some sp → FnMv P f sp) ∧ (∀ f sp, C.ip f = some sp → FnIp P f sp) ∧ (∀ f q, C.cl f = some q → FnCl P f q) ∧ (∀ f sp, C.st f = some sp → FnSt P f sp) ∧ ∀ g T l, C.gl g = some (T, l) → GlobAt P w0 S0 g T l

section
variable {P : Program} {C : Ctx} {w0 : World} {S0 : Nat → Prop} {N : Nat} {dr : Bool} {pc : Pins} {s : XS} {a : Act} {w w' : World} {S : Nat → Prop} {pl : Nat → PL}

theorem nilAt_some {tt : List (Nat × TE)} {o : Oper} {e : Nat} {t : Ty} (h : nilAt tt o = some (e, t)) : o.op = .assign (.const (.slice none 0 0)) ∨ o.op = .move (.const (.slice none 0 0)) := by
  unfold nilAt at h
  split at h
  · rename_i ho; exact .inl ho
  · rename_i ho; exact .inr ho
  · cases h

theorem kept_of (R : RelAt w0 S0 N dr pc s a w S pl) {o : Oper} {l : List Nat} (ht : tchOK dr s o l = true) (hold : ∀ n, n < w.heap.size → (∀ r rt, r ∈ l → s.root r = some rt → ¬ (pl r).F n) → w'.heap[n]? = w.heap[n]?) :
    dr = true → kept o pc w w' := by
  intro hd i b hp hw
  obtain ⟨q, h1, h2, h3⟩ := R.pins hd i b hp
  refine hold b h2 fun r rt hr hrt hF => ?_
  have e := h3 r rt hrt hF
  subst e
  simp only [tchOK, hd, Bool.not_true, Bool.false_or, List.all_eq_true] at ht
  have := ht _ h1
  simp only [Bool.or_eq_true, Bool.not_eq_true', List.contains_eq_mem, decide_eq_false_iff_not] at this
  rcases this with h | h
  · exact h hr
  · rw [hw] at h; cases h

theorem Out.mem (R : RelAt w0 S0 N dr pc s a w S pl) {o : Oper} {i : Nat} {K : XS → Prop} {mf : MF} {run : Result Value} (h0 : okind o.op ≠ 0) (h1 : okind o.op ≠ 1) (hd : ∀ t, o.dst = some t → t < N)
    (hrun : ∀ v w', run = .ok v w' → (execOp a.eval o).run P w = .ok (.value v) w' ∨ ((execOp a.eval o).run P w = .ok .skip w' ∧ v = undef))
    (ht : tchOK dr s o mf.tch = true) (hp : mf.av.plain = true) (hm : MFok w0 S0 N dr pc s a w pl mf run) (hK : mf.fact → K (mf.st.put o.dst mf.av)) :
    Out P dr o i pc a w (fun pc' a' w' => ∃ s', K s' ∧ Rel w0 S0 N dr pc' s' a' w') := by
  obtain ⟨v, w', S', pl', e1, R', e2, e3, e4, e5⟩ := hm
  have hk := kept_of R ht e5
  have fin : ∃ s', K s' ∧ Rel w0 S0 N dr pc s' (a.put o.dst v) w' := ⟨_, hK e4, S', pl', R'.put hd e2 e3 (AV.plain_new hp)⟩
  have : o.wp P a w (fun a' w' => (dr = true → kept o pc w w') ∧ ∃ s', K s' ∧ Rel w0 S0 N dr pc s' a' w') noQ := by
    unfold Oper.wp
    rcases hrun v w' e1 with h | ⟨h, rfl⟩
    · rw [h]; exact ⟨hk, fin⟩
    · rw [h]; exact ⟨hk, fin⟩
  refine .inl ?_
  unfold Out0
  split
  · rename_i e; exact absurd e h0
  · rename_i e; exact absurd e h1
  · exact this

theorem exec_unit {o : Oper} {ρ : Operand → Value} {x : Sem Unit} (ho : execOp ρ o = (do x; pure .skip)) {v : Value} {w' : World} (h : (match x.run P w with | .ok _ w' => .ok undef w' | .halt e w' => .halt e w') = Result.ok v w') :
    (execOp ρ o).run P w = .ok .skip w' ∧ v = undef := by
  rw [ho]
  cases hx : x.run P w with
  | ok u w1 =>
    rw [hx] at h
    simp only [Result.ok.injEq] at h
    obtain ⟨rfl, rfl⟩ := h
    simp [hx]
  | halt e w1 => rw [hx] at h; cases h

theorem exec_val {o : Oper} {ρ : Operand → Value} {x : Sem Value} (ho : execOp ρ o = (do pure (.value (← x)))) {v : Value} {w' : World} (h : x.run P w = .ok v w') : (execOp ρ o).run P w = .ok (.value v) w' := by
  rw [ho]; simp [h]

theorem xmem_ok (htt : ttB P C.tt = true) (R : RelAt w0 S0 N dr pc s a w S pl) {o : Oper} {i : Nat} {K : XS → Prop} {mf : MF} (hd : ∀ t, o.dst = some t → t < N) (h : xmem C.tt s o = some mf) (hpre : mf.pre)
    (ht : tchOK dr s o mf.tch = true) (hp : mf.av.plain = true) (hK : mf.fact → K (mf.st.put o.dst mf.av)) : Out P dr o i pc a w (fun pc' a' w' => ∃ s', K s' ∧ Rel w0 S0 N dr pc' s' a' w') := by
  obtain ⟨dst, op, type, pos, after, guard⟩ := o
  cases op <;> simp only [xmem] at h <;> try cases h
  case alloc T =>
    exact Out.mem R (by simp [okind]) (by simp [okind]) hd (fun v w' h => .inl (exec_val rfl h)) ht hp (alAV_ok htt R h) hK
  case box T x =>
    exact Out.mem R (by simp [okind]) (by simp [okind]) hd (fun v w' h => .inl (exec_val rfl h)) ht hp (bxAV_ok R (fun u hu => (R.ev hu).1) h) hK
  case store T x y =>
    exact Out.mem R (by simp [okind]) (by simp [okind]) hd (fun v w' h => .inr (exec_unit rfl h)) ht hp (stAV_ok htt R (fun u hu => (R.ev hu).1) (fun u hu => (R.ev hu).1) h hpre) hK
  case makeSlice T l c =>
    exact Out.mem R (by simp [okind]) (by simp [okind]) hd (fun v w' h => .inl (exec_val rfl h)) ht hp (mkAV_ok htt R (fun u hu => (R.ev hu).1) (fun u hu => (R.ev hu).1) h hpre) hK
  case buildSlice T len parts =>
    exact Out.mem R (by simp [okind]) (by simp [okind]) hd (fun v w' h => .inl (exec_val rfl h)) ht hp (bsAV_ok htt R h) hK
  case call c =>
    obtain ⟨callee, args, argTypes⟩ := c
    split at h
    · rename_i _ _ _ x y T T' h1 h2 h3
      simp only at h1 h2 h3
      subst h1
      split at h
      · rename_i e
        subst e
        have ha : args = #[x, y] := by rw [← Array.toArray_toList (xs := args), h2]
        have hat : argTypes = #[T, T] := by rw [← Array.toArray_toList (xs := argTypes), h3]
        subst ha hat
        have key : ∀ u' : Option AV, (∀ u, u' = some u → AVR w S s.rts pl u (a.eval x)) → ∀ mf' : MF, appAV C.tt s T u' (s.ev y) = some mf' → mf'.pre → mf'.tch = mf.tch → mf'.av = mf.av → mf'.st = mf.st → mf'.fact = mf.fact →
            Out P dr { dst := dst, op := .call { callee := .builtin .append, args := #[x, y], argTypes := #[T, T] }, type := type, pos := pos, after := after, guard := guard } i pc a w (fun pc' a' w' => ∃ s', K s' ∧ Rel w0 S0 N dr pc' s' a' w') := by
          intro u' hu' mf' h hpre e1 e2 e3 e4
          rw [← e1] at ht
          rw [← e2] at hp
          have hK' : mf'.fact → K (mf'.st.put dst mf'.av) := by rw [e2, e3, e4]; exact hK
          refine Out.mem R (by simp [okind]) (by simp [okind]) hd (fun v w' h => .inl ?_) ht hp (appAV_ok (ty := type) htt R (vx := a.eval x) (vy := a.eval y) hu' (fun u s1 pl1 hu henv R1 => ?_) h hpre) hK'
          · unfold execOp
            simp only [resolve, invoke, builtin, Sem.run_bind, Sem.run_pure, Result.andThen_ok, List.map_toArray, List.map_cons, List.map_nil, h]
          · have : s1.ev y = some u := by
              rw [← hu]
              cases y <;> simp only [XS.ev, XS.get, henv]
            exact (R1.ev this).1
        split at h
        · rename_i q u hw
          cases hm : appAV C.tt s T (some u) (s.ev y) with
          | none => rw [hm] at h; cases h
          | some mf' =>
            rw [hm] at h
            cases h
            obtain ⟨hq, hpre⟩ := hpre
            refine key (some u) (fun u' e => ?_) mf' hm hpre rfl rfl rfl rfl
            cases e
            unfold wholeAV at hw
            split at hw
            · rename_i r p lo hi hx
              split at hw
              · rename_i rt hr
                cases hw
                obtain ⟨q1, q2⟩ := hq
                have hv := (R.ev hx).1
                intro rt' hrt'
                have : rt' = rt := Option.some.inj (hrt'.symm.trans hr)
                subst this
                obtain ⟨_, _, h3⟩ := hv rt' hrt'
                generalize atCT p rt'.ty (pl r).ct = ct at h3 ⊢
                cases ct with
                | node b cap kids =>
                  obtain ⟨ad, e1, e2⟩ := h3
                  rw [e1, e2 (.inr q1), q1, q2, Nat.zero_mul, Nat.sub_zero, Nat.sub_zero]
                  rfl
                | nil => exact h3
                | leaf => exact h3
                | pair c d => exact h3
              · cases hw
            · cases hw
        · exact key _ (fun u hu => (R.ev hu).1) mf h hpre rfl rfl rfl rfl
      · cases h
    · rename_i _ _ _ x y T T' h1 h2 h3
      simp only at h1 h2 h3
      subst h1
      have ha : args = #[x, y] := by rw [← Array.toArray_toList (xs := args), h2]
      have hat : argTypes = #[T, T'] := by rw [← Array.toArray_toList (xs := argTypes), h3]
      subst ha hat
      refine Out.mem R (by simp [okind]) (by simp [okind]) hd (fun v w' h => .inl ?_) ht hp (cpAV_ok (T' := T') (ty := type) htt R (vx := a.eval x) (vy := a.eval y) (fun u hu => (R.ev hu).1) (fun u hu => (R.ev hu).1) h hpre) hK
      unfold execOp
      simp only [resolve, invoke, builtin, Sem.run_bind, Sem.run_pure, Result.andThen_ok, List.map_toArray, List.map_cons, List.map_nil, h]
    · rename_i _ _ _ x T h1 h2 h3
      simp only at h1 h2 h3
      subst h1
      have ha : args = #[x] := by rw [← Array.toArray_toList (xs := args), h2]
      have hat : argTypes = #[T] := by rw [← Array.toArray_toList (xs := argTypes), h3]
      subst ha hat
      refine Out.mem R (by simp [okind]) (by simp [okind]) hd (fun v w' h => .inl ?_) ht hp (clAV_ok (ty := type) htt R (vx := a.eval x) (fun u hu => (R.ev hu).1) h) hK
      unfold execOp
      simp only [resolve, invoke, builtin, Sem.run_bind, Sem.run_pure, Result.andThen_ok, List.map_toArray, List.map_cons, List.map_nil, h]
    · cases h

theorem own_full' {w : World} {S S' : Nat → Prop} (hS : ∀ b, S b → S' b) : ∀ {t : Ty} {k k' : Nat} {x : t.den} {ct : CT} {cs : List Value} {F : Nat → Prop}, t.lev ≤ k → t.lev ≤ k' → Own w S t k x none ct cs F → Own w S' t k' x none ct cs F
  | .int _, _, _, _, _, _, _, _, _, H | .bool, _, _, _, _, _, _, _, _, H | .str, _, _, _, _, _, _, _, _, H | .raw, _, _, _, _, _, _, _, _, H | .func, _, _, _, _, _, _, _, _, H => H
  | .ro _ _, _, _, _, _, _, _, _, _, H => ⟨H.1, H.2.imp id fun q => ⟨q.1, q.2.frame fun b hb => ⟨hS b hb, rfl⟩⟩⟩
  | .fn _ _, k, k', _, _, _, _, h, _, H | .row _ _, k, k', _, _, _, _, h, _, H => by
    simp only [Ty.lev] at h
    rcases H.2 with q | q
    · cases q.1
    · have := q.2.1; omega
  | .list e t, k, k', l, ct, cs, F, h, h', H => by
    simp only [Ty.lev] at h h'
    obtain ⟨k, rfl⟩ : ∃ j, k = j + 1 := ⟨k - 1, by omega⟩
    obtain ⟨k', rfl⟩ : ∃ j, k' = j + 1 := ⟨k' - 1, by omega⟩
    rcases own_inv H with ⟨rfl, rfl, hv, hF⟩ | ⟨b, cap, kids, arr, Fs, rfl, hv, q2, q3, h4, h5', g1, g2, g3, g4⟩
    · exact .inr ⟨by simp, rfl, hv, hF⟩
    · exact .inr ⟨by simp, hv, q2, q3, arr, h4, h5', Fs, g1, g2, g3, fun i hi => by simpa using own_full' hS (by omega) (by omega) (g4 i hi)⟩
  | .prod a b, k, k', x, ct, cs, F, h, h', H => by
    simp only [Ty.lev] at h h'
    rcases H with H | ⟨h0, H⟩
    · exact .inl H
    · cases ct with
      | pair c d =>
        obtain ⟨c1, c2, F1, F2, h1, g1, g2, g3, g4⟩ := H
        exact .inr ⟨h0, c1, c2, F1, F2, h1, g1, g2, own_full' hS (by omega) (by omega) g3, own_full' hS (by omega) (by omega) g4⟩
      | nil => exact H.elim
      | leaf => exact H.elim
      | node => exact H.elim

theorem own_full {w : World} {S S' : Nat → Prop} : ∀ {t : Ty} {k k' : Nat} {x : t.den} {ct : CT} {cs : List Value} {F : Nat → Prop}, t.noRo = true → t.lev ≤ k → t.lev ≤ k' → Own w S t k x none ct cs F → Own w S' t k' x none ct cs F
  | .int _, _, _, _, _, _, _, _, _, _, H | .bool, _, _, _, _, _, _, _, _, _, H | .str, _, _, _, _, _, _, _, _, _, H | .raw, _, _, _, _, _, _, _, _, _, H | .func, _, _, _, _, _, _, _, _, _, H => H
  | .ro _ _, _, _, _, _, _, _, hn, _, _, _ => by simp [Ty.noRo] at hn
  | .fn _ _, k, k', _, _, _, _, _, h, _, H | .row _ _, k, k', _, _, _, _, _, h, _, H => by
    simp only [Ty.lev] at h
    rcases H.2 with q | q
    · cases q.1
    · have := q.2.1; omega
  | .list e t, k, k', l, ct, cs, F, hn, h, h', H => by
    simp only [Ty.lev] at h h'
    simp only [Ty.noRo] at hn
    obtain ⟨k, rfl⟩ : ∃ j, k = j + 1 := ⟨k - 1, by omega⟩
    obtain ⟨k', rfl⟩ : ∃ j, k' = j + 1 := ⟨k' - 1, by omega⟩
    rcases own_inv H with ⟨rfl, rfl, hv, hF⟩ | ⟨b, cap, kids, arr, Fs, rfl, hv, q2, q3, h4, h5', g1, g2, g3, g4⟩
    · exact .inr ⟨by simp, rfl, hv, hF⟩
    · exact .inr ⟨by simp, hv, q2, q3, arr, h4, h5', Fs, g1, g2, g3, fun i hi => by simpa using own_full hn (by omega) (by omega) (g4 i hi)⟩
  | .prod a b, k, k', x, ct, cs, F, hn, h, h', H => by
    simp only [Ty.lev] at h h'
    simp only [Ty.noRo, Bool.and_eq_true] at hn
    rcases H with H | ⟨h0, H⟩
    · exact .inl H
    · cases ct with
      | pair c d =>
        obtain ⟨c1, c2, F1, F2, h1, g1, g2, g3, g4⟩ := H
        exact .inr ⟨h0, c1, c2, F1, F2, h1, g1, g2, own_full hn.1 (by omega) (by omega) g3, own_full hn.2 (by omega) (by omega) g4⟩
      | nil => exact H.elim
      | leaf => exact H.elim
      | node => exact H.elim

theorem width_er : ∀ t : Ty, t.er.width = t.width
  | .int _ | .bool | .str | .raw | .func | .list _ _ | .fn _ _ | .row _ _ | .ro _ _ => rfl
  | .prod a b => by simp only [Ty.er, Ty.width, width_er a, width_er b]
theorem roSame_noRo : ∀ {t : Ty} (x y : t.den), t.noRo = true → roSame t x y
  | .int _, _, _, _ | .bool, _, _, _ | .str, _, _, _ | .raw, _, _, _ | .func, _, _, _ | .list _ _, _, _, _ | .fn _ _, _, _, _ | .row _ _, _, _, _ => trivial
  | .ro _ _, _, _, h => by simp [Ty.noRo] at h
  | .prod a b, x, y, h => by
    simp only [Ty.noRo, Bool.and_eq_true] at h
    exact ⟨roSame_noRo x.1 y.1 h.1, roSame_noRo x.2 y.2 h.2⟩

theorem own_un {w w' : World} {S : Nat → Prop} (hS : ∀ b, S b → w'.heap[b]? = w.heap[b]?) : ∀ {t : Ty} {k k0 k1 : Nat} {x y : t.den} {ct ct0 : CT} {cs cs0 : List Value} {F F0 : Nat → Prop}, t.roOK = true → t.lev ≤ k → t.lev ≤ k1 →
    Own w S t k0 x none ct0 cs0 F0 → Own w' noS t.er k (erV t y) none ct cs F → roSame t x y → Own w' S t k1 y none ct cs F
  | .int _, _, _, _, _, _, _, _, _, _, _, _, _, _, _, _, H, _ | .bool, _, _, _, _, _, _, _, _, _, _, _, _, _, _, _, H, _ | .str, _, _, _, _, _, _, _, _, _, _, _, _, _, _, _, H, _ | .raw, _, _, _, _, _, _, _, _, _, _, _, _, _, _, _, H, _ | .func, _, _, _, _, _, _, _, _, _, _, _, _, _, _, _, H, _ => H
  | .ro _ _, _, _, _, x, y, _, _, cs, _, _, _, _, _, _, H0, H, hs => by
    have hs : x = y := hs
    subst hs
    refine ⟨H.1, H.2.imp (fun q => q) fun q => ⟨q.1, ?_⟩⟩
    obtain ⟨q1, q2⟩ := q
    rcases H0.2 with h0 | h0
    · cases h0.1
    · have h1 := RO.frame (w' := w') (S' := S) (fun b hb => ⟨hb, hS b hb⟩) h0.2
      have e : cs = [x.1] := q2.1
      rw [e]
      have e0 := h1.1
      rw [e0] at h1
      exact h1
  | .list e t, _, _, _, _, _, _, _, _, _, _, _, hn, h, h', _, H, _ => own_full (t := .list e t) (by simpa [Ty.roOK] using hn) h h' H
  | .fn f t, _, _, _, _, _, _, _, _, _, _, _, hn, h, h', _, H, _ => own_full (t := .fn f t) rfl h h' H
  | .row e t, _, _, _, _, _, _, _, _, _, _, _, hn, h, h', _, H, _ => own_full (t := .row e t) rfl h h' H
  | .prod a b, k, k0, k1, x, y, ct, ct0, cs, cs0, F, F0, hn, h, h', H0, H, hs => by
    simp only [Ty.lev] at h h'
    simp only [Ty.roOK, Bool.and_eq_true] at hn
    rcases H0 with H0 | ⟨_, H0⟩
    · cases H0.1
    rcases H with H | ⟨_, H⟩
    · cases H.1
    cases ct0 with
    | nil => exact H0.elim
    | leaf => exact H0.elim
    | node => exact H0.elim
    | pair c0 d0 =>
      cases ct with
      | nil => exact H.elim
      | leaf => exact H.elim
      | node => exact H.elim
      | pair c d =>
        obtain ⟨u1, u2, G1, G2, _, _, _, q3, q4⟩ := H0
        obtain ⟨c1, c2, F1, F2, h1, g1, g2, g3, g4⟩ := H
        exact .inr ⟨by simp, c1, c2, F1, F2, h1, g1, g2, own_un hS (t := a) hn.1 (by omega) (by omega) q3 g3 hs.1, own_un hS (t := b) hn.2 (by omega) (by omega) q4 g4 hs.2⟩


theorem capTV_S {T : Nat → Prop} (R : RelAt w0 S0 N dr pc s a w S pl) (hS0 : ∀ n, S n → T n) (hT : ∀ r rt n, s.root r = some rt → (pl r).F n → T n) : ∀ (cs : List Nat) (l : List TV) (vs : List Value), capTV s cs = some l → vs.length = cs.length →
    (∀ (i c : Nat) (rt : RT) (u : Value), cs[i]? = some c → lk s.rts c = some rt → vs[i]? = some u → u = addrP (pl c) rt [0]) → CapsAt w T (l.map (·.t)) l vs
  | [], l, vs, h, hl, _ => by
    simp only [capTV, Option.some.injEq] at h
    subst h
    obtain rfl : vs = [] := List.eq_nil_of_length_eq_zero hl
    exact .nil
  | c :: cs, l, [], h, hl, _ => by simp at hl
  | c :: cs, l, v :: vs, h, hl, hv => by
    simp only [capTV] at h
    cases hr : s.root c with
    | none => rw [hr] at h; cases h
    | some rt =>
      rw [hr] at h
      cases hc : capTV s cs with
      | none => rw [hc] at h; cases h
      | some l' =>
        rw [hc] at h
        simp only at h
        split at h
        · rename_i x hx hh
          cases h
          obtain ⟨b, o, cs', F', h', e1, e2, e3, e4, _, e6, e7⟩ := R.place hr (i := 0) (p := []) (by simp [RT.ty, okS, hx]) (by rw [hh]; rfl)
          have hat : rt.at [0] = ⟨rt.t, x⟩ := by simp [RT.at, RT.ty, getS, hx]
          have hhn := e6 hh
          subst hhn
          rw [hat] at e3
          have hro : RO w T rt.t x cs' := e3.freeze (fun b hb => hS0 b hb) fun b hb => hT c rt b hr (e4 b hb)
          obtain ⟨arr, E, q1, q2, q3⟩ := e2
          have hlen : cs'.length = rt.t.width := hro.length
          have hve : v = .pointer (some ⟨b, o, none⟩) := (hv 0 c rt v rfl hr rfl).trans e1
          subst hve
          rw [hlen] at q2 q3
          exact .cons (hT c rt b hr e7) q1 q2 (by rw [q3]; exact hro) (capTV_S R hS0 hT cs l' vs hc (by simpa using hl) fun i c' rt' u h1 h2 h3 => hv (i + 1) c' rt' u h1 h2 h3)
        · cases h

theorem argAV_S {T : Nat → Prop} (R : RelAt w0 S0 N dr pc s a w S pl) (hS0 : ∀ n, S n → T n) (hT : ∀ r rt n, s.root r = some rt → (pl r).F n → T n) {t : Ty} {av : AV} {v : Value} (hv : AVR w S s.rts pl av v) {p : Prop} {tv : TV} (h : argAV s t av = some (p, tv)) (hp : p) :
    ∃ x u, tv = ⟨t, x⟩ ∧ v = pack t u ∧ RO w T t x u := by
  have hS : ∀ b, S b → T b ∧ w.heap[b]? = w.heap[b]? := fun b hb => ⟨hS0 b hb, rfl⟩
  have dat : ∀ av, (datOf t av).map (fun v => ((True : Prop), (⟨t, v⟩ : TV))) = some (p, tv) → AVR w S s.rts pl av v → ∃ x u, tv = ⟨t, x⟩ ∧ v = pack t u ∧ RO w T t x u := by
    intro av h hv
    cases hd : datOf t av with
    | none => rw [hd] at h; cases h
    | some x =>
      rw [hd] at h
      simp only [Option.map_some, Option.some.injEq, Prod.mk.injEq] at h
      obtain ⟨cs, h1, h2⟩ := datOf_ok hd hv
      exact ⟨x, cs, h.2.symm, h1, h2.frame hS⟩
  cases av with
  | ref r q =>
    simp only [argAV] at h
    cases hr : s.root r with
    | none => rw [hr] at h; cases h
    | some rt =>
      rw [hr] at h
      simp only at h
      cases hel : elAt rt q with
      | none => rw [hel] at h; cases h
      | some el =>
        rw [hel] at h
        simp only at h
        split at h
        · rename_i hc
          simp only [Option.some.injEq, Prod.mk.injEq] at h
          obtain ⟨rfl, rfl⟩ := h
          obtain ⟨hh, rfl⟩ := hc
          obtain ⟨k, v', F', hk, H, hv', hF'⟩ := R.nodeL hr hh hel hp
          have : v = v' := by rw [hv']; exact hv rt hr
          subst this
          exact ⟨el.l, [v], rfl, rfl, H.freeze (fun b hb => hS0 b hb) fun b hb => hT r rt b hr (hF' b hb)⟩
        · split at h
          · split at h
            · rename_i hc
              obtain ⟨hh, rfl⟩ := hc
              simp only [Option.some.injEq, Prod.mk.injEq] at h
              obtain ⟨rfl, rfl⟩ := h
              obtain ⟨e0, t0, k0, x0, h0⟩ := rt
              simp only at hh hp
              subst hh
              obtain ⟨hv0, H⟩ := R.own r _ hr
              have hve : v = hv0 := by
                have h1 : v = hdr (atCT [] (Ty.list e0 t0) (pl r).ct) (List.length x0) := hv _ hr
                rw [h1]; exact (H.hdr (by simp)).1.symm
              subst hve
              rcases own_inv H with ⟨_, hl0, _, _⟩ | ⟨b, cap, kids, arr, Fs, hct, hv1, q2, q3, h4, h5, g1, g2, g3, g4⟩
              · have hl0 : x0 = [] := hl0
                subst hl0
                simp at hp
              · refine ⟨x0, [v], rfl, rfl, b, cap, arr, hv1, q2, q3, hT r _ b hr ((g1 b).2 (.inl rfl)), h4, h5, fun i hi => ?_⟩
                exact (g4 i hi).freeze (fun n hn => hS0 n hn) fun n hn => hT r _ n hr ((g1 n).2 (.inr ⟨i, hi, hn⟩))
            · cases h
          · cases h
  | dat t' x => exact dat _ h hv
  | sub => simp [argAV, datOf] at h
  | mp => simp [argAV, datOf] at h
  | ptr => simp [argAV, datOf] at h
  | rptr => simp [argAV, datOf] at h
  | rpl => simp [argAV, datOf] at h
  | clo f c =>
    obtain ⟨vs, rfl, h1, h2⟩ := hv
    simp only [argAV] at h
    split at h
    · cases h
      have : vs = [] := List.length_eq_zero_iff.1 h1
      subst this
      exact ⟨_, [_], rfl, rfl, rfl, rfl⟩
    · rename_i q
      split at h
      · rename_i u hcap
        obtain ⟨ut, ux⟩ := u
        split at h
        · rename_i hu
          simp only [Option.some.injEq, Prod.mk.injEq] at h
          obtain ⟨_, rfl⟩ := h
          have hcp : CapsAt w T [ut] [⟨ut, ux⟩] vs := capTV_S R hS0 hT _ _ _ hcap h1 h2
          cases hcp with
          | cons b1 b2 b3 b4 hl =>
            cases hl
            cases hu
            exact ⟨_, [_], rfl, rfl, _, _, _, _, _, rfl, b1, b2, b3, b4⟩
        · cases h
      · cases h
    · cases h
  | tup => simp [argAV, datOf] at h
  | agg l =>
    simp only [argAV, aggTV] at h
    split at h
    · rename_i t1 t2 r p1 q p2
      split at h
      · rename_i rt qt hr hq
        split at h
        · rename_i el el' hel hel'
          split at h
          · rename_i hc
            obtain ⟨hh, hh', rfl, rfl⟩ := hc
            simp only [Option.some.injEq, Prod.mk.injEq] at h
            obtain ⟨rfl, rfl⟩ := h
            obtain ⟨vs, rfl, hvs⟩ := hv
            cases hvs with
            | @cons _ u1 _ vs1 b1 hvs =>
              cases hvs with
              | @cons _ u2 _ vs2 b2 hvs =>
                cases hvs
                obtain ⟨k, v', F', hk, H, hv', hF'⟩ := R.nodeL hr hh hel hp.1
                obtain ⟨k2, v2, F2, hk2, H2, hv2, hF2⟩ := R.nodeL hq hh' hel' hp.2
                have e1 : u1 = v' := by rw [hv']; exact b1 rt hr
                have e2 : u2 = v2 := by rw [hv2]; exact b2 qt hq
                subst e1 e2
                have c1 : u1.cells.toList = [u1] := by rw [hv']; unfold hdr; split <;> rfl
                have c2 : u2.cells.toList = [u2] := by rw [hv2]; unfold hdr; split <;> rfl
                refine ⟨_, [u1, u2], rfl, ?_, [u1], [u2], rfl, H.freeze (fun b hb => hS0 b hb) fun b hb => hT r rt b hr (hF' b hb), H2.freeze (fun b hb => hS0 b hb) fun b hb => hT q qt b hq (hF2 b hb)⟩
                simp only [List.flatMap_cons, List.flatMap_nil, c1, c2, List.append_nil, List.cons_append, List.nil_append]
                rfl
          · cases h
        · cases h
      · cases h
    · cases h
  | loc => simp [argAV, datOf] at h
  | one => simp [argAV, datOf] at h
  | junk => simp [argAV, datOf] at h

theorem argAV_ok (R : RelAt w0 S0 N dr pc s a w S pl) {t : Ty} {av : AV} {v : Value} (hv : AVR w S s.rts pl av v) {p : Prop} {tv : TV} (h : argAV s t av = some (p, tv)) (hp : p) :
    ∃ x u, tv = ⟨t, x⟩ ∧ v = pack t u ∧ RO w (oldS w) t x u :=
  argAV_S R (fun b hb => R.lt b hb) (fun r rt n hr hn => (R.Flt r rt n hr hn).1) hv h hp

theorem argsAV_ok (R : RelAt w0 S0 N dr pc s a w S pl) : ∀ (ts : List Ty) (xs : List Operand) (p : Prop) (l : List TV), argsAV s ts xs = some (p, l) → p → Args w (oldS w) ts l (xs.map a.eval)
  | [], [], p, l, h, _ => by
    simp only [argsAV, Option.some.injEq, Prod.mk.injEq] at h
    obtain ⟨_, rfl⟩ := h
    exact .nil
  | t :: ts, x :: xs, p, l, h, hp => by
    simp only [argsAV] at h
    cases hx : s.ev x with
    | none => rw [hx] at h; simp at h
    | some av =>
      rw [hx] at h
      simp only [Option.bind_some] at h
      cases ha : argAV s t av with
      | none => rw [ha] at h; simp at h
      | some pv =>
        obtain ⟨p1, tv⟩ := pv
        rw [ha] at h
        cases hl : argsAV s ts xs with
        | none => rw [hl] at h; simp at h
        | some ql =>
          obtain ⟨q, l'⟩ := ql
          rw [hl] at h
          simp only [Option.some.injEq, Prod.mk.injEq] at h
          obtain ⟨rfl, rfl⟩ := h
          obtain ⟨y, u, rfl, e1, e2⟩ := argAV_ok R (R.ev hx).1 ha hp.1
          simp only [List.map_cons]
          rw [e1]
          exact .cons e2 (argsAV_ok R ts xs q l' hl hp.2)
  | [], _ :: _, _, _, h, _ => by simp [argsAV] at h
  | _ :: _, [], _, _, h, _ => by simp [argsAV] at h

theorem retAV_ok {T : Nat → Prop} {v : TV} {u : Value} {F : Nat → Prop} (R : RelAt w0 S0 N dr pc s a w' S pl) (h : Ret1 T w' v u F) (hS : ∀ n, S n → T n)
    (hF : ∀ r rt n, s.root r = some rt → (pl r).F n → ¬ F n) (hp : dr = true → ∀ i n, pc i n → T n) :
    ∃ pl2, RelAt w0 S0 N dr pc (retAV s v).1 a w' S pl2 ∧ BVR w' S (retAV s v).1.rts pl2 (retAV s v).2 u ∧ (∀ r ∈ (retAV s v).2.ids, r < (retAV s v).1.nxt) ∧ s.nxt ≤ (retAV s v).1.nxt ∧
      (∀ r, r < s.nxt → lk (retAV s v).1.rts r = lk s.rts r ∧ pl2 r = pl r) ∧ (∀ r rt n, (retAV s v).1.root r = some rt → (pl2 r).F n → F n ∨ ∃ r rt, s.root r = some rt ∧ (pl r).F n) := by
  obtain ⟨t, x⟩ := v
  obtain ⟨h1, h2⟩ := h
  have plain : (∀ n, ¬ F n) ∧ (∃ cs, u = pack t cs ∧ RO w' noS t x cs) → ∃ pl2, RelAt w0 S0 N dr pc s a w' S pl2 ∧ BVR w' S s.rts pl2 (.dat t x) u ∧ (∀ r ∈ (AV.dat t x).ids, r < s.nxt) ∧ s.nxt ≤ s.nxt ∧
      (∀ r, r < s.nxt → lk s.rts r = lk s.rts r ∧ pl2 r = pl r) ∧ (∀ r rt n, s.root r = some rt → (pl2 r).F n → F n ∨ ∃ r rt, s.root r = some rt ∧ (pl r).F n) := by
    rintro ⟨_, cs, e1, e2⟩
    exact ⟨pl, R, ⟨cs, e1, e2.frame fun _ h => h.elim⟩, by simp [AV.ids], Nat.le_refl _, fun _ _ => ⟨rfl, rfl⟩, fun r rt n h3 h4 => .inr ⟨r, rt, h3, h4⟩⟩
  cases t with
  | list e t =>
    obtain ⟨ct, H⟩ := h2
    have H' : Own w' S (.list e t) (t.lev + 1) x none ct [u] F := H.frame (fun _ h => h.elim) fun _ _ => rfl
    refine ⟨_, R.addRoot (Grew.refl w') (rt := ⟨e, t, t.lev, x, none⟩) H' (fun n hn => ⟨(h1 n hn).2, .inr ⟨fun hs => ?_, fun r2 rt2 h2 h3 => hF r2 rt2 n h2 h3 hn, fun hd i hi => ?_⟩⟩), ?_, ?_, Nat.le_succ _, ?_, ?_⟩
    · exact (h1 n hn).1 (hS n hs)
    · exact absurd (hp hd i n hi) (h1 n hn).1
    · intro rt2 hrt2
      have : rt2 = ⟨e, t, t.lev, x, none⟩ := by
        simp only [retAV, XS.addRoot, lk, if_true, Option.some.injEq] at hrt2; exact hrt2.symm
      subst this
      simp only [if_true]
      have := (H'.hdr (by simp)).1
      rw [this]
      simp [RT.at, TV.len, atCT]
    · simp [retAV, AV.ids, XS.addRoot]
    · intro r hr
      refine ⟨?_, ?_⟩
      · show lk ((s.nxt, _) :: s.rts) r = _
        simp only [lk]; rw [if_neg (by omega)]
      · show (if r = s.nxt then _ else pl r) = _
        rw [if_neg (by omega)]
    · intro r rt n h3 h4
      simp only [retAV, XS.root, XS.addRoot, lk] at h3
      by_cases e1 : s.nxt = r
      · subst e1
        simp only [if_true] at h4
        exact .inl h4
      · rw [if_neg e1] at h3
        simp only [if_neg (fun e => e1 e.symm : ¬ r = s.nxt)] at h4
        exact .inr ⟨r, rt, h3, h4⟩
  | prod ta tb =>
    cases ta with
    | list =>
      cases tb with
      | list => exact ⟨pl, R, trivial, by simp [retAV, AV.ids], Nat.le_refl _, fun _ _ => ⟨rfl, rfl⟩, fun r rt n h3 h4 => .inr ⟨r, rt, h3, h4⟩⟩
      | _ => exact plain h2
    | _ => exact plain h2
  | int | bool | str | raw | fn | row | ro | func => exact plain h2

theorem retsAV_ok {T : Nat → Prop} (hS : ∀ n, S n → T n) (hp : dr = true → ∀ i n, pc i n → T n) {outs : List TV} {us : List Value} {F : Nat → Prop} (h : Rets T w' outs us F) :
    ∀ {s : XS} {pl : Nat → PL}, RelAt w0 S0 N dr pc s a w' S pl → (∀ r rt n, s.root r = some rt → (pl r).F n → ¬ F n) →
    ∃ pl2, RelAt w0 S0 N dr pc (retsAV s outs).1 a w' S pl2 ∧ BVRs w' S (retsAV s outs).1.rts pl2 (retsAV s outs).2 us ∧ (∀ av ∈ (retsAV s outs).2, ∀ r ∈ av.ids, r < (retsAV s outs).1.nxt) ∧ s.nxt ≤ (retsAV s outs).1.nxt ∧
      (∀ r, r < s.nxt → lk (retsAV s outs).1.rts r = lk s.rts r ∧ pl2 r = pl r) := by
  induction h with
  | nil => exact fun {s pl} R _ => ⟨pl, R, .nil, by simp [retsAV], Nat.le_refl _, fun _ _ => ⟨rfl, rfl⟩⟩
  | cons h1 hl hd ih =>
    intro s pl R hF
    obtain ⟨pl1, R1, b1, l1, n1, k1, f1⟩ := retAV_ok R h1 hS (fun r rt n h2 h3 h4 => hF r rt n h2 h3 (.inl h4)) hp
    obtain ⟨pl2, R2, b2, l2, n2, k2⟩ := ih R1 (fun r rt n h2 h3 h4 => by
      rcases f1 r rt n h2 h3 with h | ⟨r', rt', h5, h6⟩
      · exact hd n h h4
      · exact hF r' rt' n h5 h6 (.inr h4))
    refine ⟨pl2, R2, .cons ?_ b2, ?_, Nat.le_trans n1 n2, fun r hr => ⟨(k2 r (by omega)).1.trans (k1 r hr).1, (k2 r (by omega)).2.trans (k1 r hr).2⟩⟩
    · exact b1.frame (n := (retAV s _).1.nxt) (fun b hb => ⟨hb, rfl⟩) (fun r hr => .inr ⟨(k2 r hr).1, (k2 r hr).2⟩) l1
    · intro av hav r hr
      simp only [retsAV, List.mem_cons] at hav
      rcases hav with rfl | hav
      · exact Nat.lt_of_lt_of_le (l1 r hr) n2
      · exact l2 av hav r hr

theorem retAV_shape (s : XS) (v : TV) : (∃ r p, (retAV s v).2 = .ref r p) ∨ (∃ t x, (retAV s v).2 = .dat t x) ∨ (retAV s v).2 = .junk := by
  obtain ⟨t, x⟩ := v
  cases t with
  | list => exact .inl ⟨_, _, rfl⟩
  | prod a b =>
    cases a with
    | list =>
      cases b with
      | list => exact .inr (.inr rfl)
      | _ => exact .inr (.inl ⟨_, _, rfl⟩)
    | _ => exact .inr (.inl ⟨_, _, rfl⟩)
  | _ => exact .inr (.inl ⟨_, _, rfl⟩)
theorem retAV_plain (s : XS) (v : TV) (rts : List (Nat × RT)) {u : Value} (h : BVR w S rts pl (retAV s v).2 u) (n : Nat) (hl : ∀ r ∈ (retAV s v).2.ids, r < n) : AVR w S rts pl (retAV s v).2 u ∧ (retAV s v).2.lt n := by
  have key : ∀ av : AV, (∃ r p, av = .ref r p) ∨ (∃ t x, av = .dat t x) ∨ av = .junk → BVR w S rts pl av u → (∀ r ∈ av.ids, r < n) → AVR w S rts pl av u ∧ av.lt n := fun av hs h hl => by
    rcases hs with ⟨r, p, rfl⟩ | ⟨t, x, rfl⟩ | rfl <;> exact ⟨h, hl⟩
  exact key _ (retAV_shape s v) h hl

theorem rets_new {T : Nat → Prop} {outs : List TV} {us : List Value} {F : Nat → Prop} (h : Rets T w' outs us F) : ∀ n, F n → ¬ T n := by
  induction h with
  | nil => exact fun _ h => h.elim
  | cons h1 _ _ ih => exact fun n hn => hn.elim (fun h => (h1.1 n h).1) (ih n)

theorem retAV_isPlain (s : XS) (v : TV) : (retAV s v).2.plain = true := by
  rcases retAV_shape s v with ⟨_, _, e⟩ | ⟨_, _, e⟩ | e <;> rw [e] <;> rfl
theorem retsPut_one (s : XS) (d : Option Nat) {v : TV} (h : v.t.isLL = false) : retsPut s d [v] = (retAV s v).1.put d (retAV s v).2 := by
  obtain ⟨t, x⟩ := v
  cases t with
  | prod a b =>
    cases a with
    | list =>
      cases b with
      | list => cases h
      | _ => rfl
    | _ => rfl
  | _ => rfl

theorem retsPut_two {T : Nat → Prop} {e e' : Nat} {t t' : Ty} {x : (Ty.prod (.list e t) (.list e' t')).den} {u : Value} {F : Nat → Prop} (R : RelAt w0 S0 N dr pc s a w' S pl) (hS : ∀ n, S n → T n) (hp : dr = true → ∀ i n, pc i n → T n) (h : Ret1 T w' ⟨.prod (.list e t) (.list e' t'), x⟩ u F)
    (hF : ∀ r rt n, s.root r = some rt → (pl r).F n → ¬ F n) {d : Option Nat} (hd : ∀ t, d = some t → t < N) :
    Rel w0 S0 N dr pc (((s.addRoot ⟨e, t, t.lev, x.1, none⟩).addRoot ⟨e', t', t'.lev, x.2, none⟩).put d (.agg [.ref s.nxt [], .ref (s.nxt + 1) []])) (a.put d u) w' := by
  obtain ⟨h1, u1, u2, ct, ct', F1, F2, rfl, H1, H2, hdj, hFi⟩ := h
  have H1' : Own w' S (.list e t) (t.lev + 1) x.1 none ct [u1] F1 := H1.frame (fun _ h => h.elim) fun _ _ => rfl
  have H2' : Own w' S (.list e' t') (t'.lev + 1) x.2 none ct' [u2] F2 := H2.frame (fun _ h => h.elim) fun _ _ => rfl
  have f1 : ∀ n, F1 n → F n := fun n hn => (hFi n).2 (.inl hn)
  have f2 : ∀ n, F2 n → F n := fun n hn => (hFi n).2 (.inr hn)
  have R1 := R.addRoot (Grew.refl w') (rt := ⟨e, t, t.lev, x.1, none⟩) H1' (fun n hn => ⟨(h1 n (f1 n hn)).2, .inr ⟨fun hs => (h1 n (f1 n hn)).1 (hS n hs), fun r2 rt2 h2 h3 => hF r2 rt2 n h2 h3 (f1 n hn), fun hd i hi => absurd (hp hd i n hi) (h1 n (f1 n hn)).1⟩⟩)
  have R2 := R1.addRoot (Grew.refl w') (rt := ⟨e', t', t'.lev, x.2, none⟩) H2' (fun n hn => ⟨(h1 n (f2 n hn)).2, .inr ⟨fun hs => (h1 n (f2 n hn)).1 (hS n hs), fun r2 rt2 h2 h3 => by
    simp only [XS.root, XS.addRoot, lk] at h2
    by_cases e1 : s.nxt = r2
    · subst e1
      simp only [if_true] at h3
      exact hdj n h3 hn
    · rw [if_neg e1] at h2
      simp only [if_neg (fun e => e1 e.symm : ¬ r2 = s.nxt)] at h3
      exact hF r2 rt2 n h2 h3 (f2 n hn), fun hd i hi => absurd (hp hd i n hi) (h1 n (f2 n hn)).1⟩⟩)
  have e1 := (H1'.hdr (by simp)).1
  have e2 := (H2'.hdr (by simp)).1
  refine ⟨S, _, R2.put hd ?_ ?_⟩
  · refine ⟨[u1, u2], ?_, .cons (fun rt hr => ?_) (.cons (fun rt hr => ?_) .nil)⟩
    · have c1 : u1.cells.toList = [u1] := by rw [e1]; unfold hdr; split <;> rfl
      have c2 : u2.cells.toList = [u2] := by rw [e2]; unfold hdr; split <;> rfl
      simp only [List.flatMap_cons, List.flatMap_nil, c1, c2, List.append_nil, List.cons_append, List.nil_append]
    · have hn : ¬ s.nxt + 1 = s.nxt := by omega
      simp only [XS.addRoot, lk, if_neg hn, if_true, Option.some.injEq] at hr
      subst hr
      simp only [XS.addRoot, if_neg (fun e => hn e.symm : ¬ s.nxt = s.nxt + 1), if_true]
      rw [e1]
      simp [RT.at, TV.len, atCT]
    · simp only [XS.addRoot, lk, if_true, Option.some.injEq] at hr
      subst hr
      simp only [XS.addRoot, if_true]
      rw [e2]
      simp [RT.at, TV.len, atCT]
  · intro av hav r hr
    simp only [List.mem_cons, List.not_mem_nil, or_false] at hav
    rcases hav with rfl | rfl <;> simp only [AV.ids, List.mem_singleton] at hr <;> subst hr <;> simp only [XS.addRoot] <;> omega

theorem retsPut_at {T : Nat → Prop} (R1 : RelAt w0 S0 N dr pc s a w' S pl) (hS : ∀ n, S n → T n) (hT : ∀ r rt n, s.root r = some rt → (pl r).F n → T n) (hp : dr = true → ∀ i n, pc i n → T n)
    {outs : List TV} {us : List Value} {F : Nat → Prop} (h : Rets T w' outs us F) {d : Option Nat} (hd : ∀ t, d = some t → t < N) :
    Rel w0 S0 N dr pc (retsPut s d outs) (a.put d (valOf us)) w' := by
  have hF : ∀ r rt n, s.root r = some rt → (pl r).F n → ¬ F n := fun r rt n h2 h3 h4 => rets_new h n h4 (hT r rt n h2 h3)
  obtain ⟨pl2, R2, b2, l2, n2, k2⟩ := retsAV_ok hS hp h R1 hF
  have tup : ∀ l, l = outs → (∀ v, l ≠ [v]) → valOf us = .tuple us.toArray → Rel w0 S0 N dr pc ((retsAV s l).1.put d (.tup (retsAV s l).2)) (a.put d (valOf us)) w' := by
    rintro l rfl _ hv
    exact ⟨S, pl2, R2.put hd ⟨us, hv, b2⟩ l2⟩
  cases h with
  | nil => exact tup [] rfl (by simp) rfl
  | cons h1 hl hdd =>
    rename_i v vs u us F G
    cases hl with
    | nil =>
      cases b2 with
      | cons hb _ =>
        cases hll : v.t.isLL with
        | false =>
          rw [retsPut_one s d hll]
          obtain ⟨q1, q2⟩ := retAV_plain s v _ hb _ (l2 _ (by simp [retsAV]))
          exact ⟨S, pl2, R2.put hd q1 q2 (AV.plain_new (retAV_isPlain _ _))⟩
        | true =>
          obtain ⟨t, x⟩ := v
          obtain ⟨e, t, e', t', rfl⟩ := Ty.isLL_iff hll
          exact retsPut_two R1 hS hp h1 (fun r rt n h2 h3 h4 => hF r rt n h2 h3 (.inl h4)) hd
    | cons h2 hl2 hd2 => exact tup _ rfl (by simp) rfl

theorem retsPut_ok (R : RelAt w0 S0 N dr pc s a w S pl) (g : Grew w w') {outs : List TV} {us : List Value} {F : Nat → Prop} (h : Rets (oldS w) w' outs us F) {d : Option Nat} (hd : ∀ t, d = some t → t < N) :
    Rel w0 S0 N dr pc (retsPut s d outs) (a.put d (valOf us)) w' :=
  retsPut_at (T := oldS w) (R.grown g) (fun n hn => R.lt n hn) (fun r rt n h2 h3 => (R.Flt r rt n h2 h3).1) (fun hd i n hi => by obtain ⟨_, _, h2, _⟩ := R.pins hd i n hi; exact h2) h hd

theorem run_call {f : Nat} {fn : Func} (hf : P.funcs[f]? = some fn) (hn : (fn.name == "runtime.NumGoroutine") = false) (hb : fn.body.isNone = false) (args : Array Value) :
    (callFunc f args).run P w = .ok (.enter f args) w := by
  have hn' : fn.name ≠ "runtime.NumGoroutine" := by simpa using hn
  have hb' : fn.body ≠ none := by intro e; simp [e] at hb
  simp [callFunc, hf, hn', hb']

theorem xcall_ok (hC : CtxOK P C w0 S0) (R : RelAt w0 S0 N dr pc s a w S pl) {o : Oper} {i f : Nat} {args : Array Operand} {ats : Array TypeId} {K : XS → Prop} (hd : ∀ t, o.dst = some t → t < N) {y : Operand} (hy : a.eval y = .func (.func f) #[] #[]) (ho : o.op = .call { callee := .value y, args, argTypes := ats }) {sp : Spec} (hs : C.fn f = some sp)
    {p : Prop} {l : List TV} (ha : argsAV s sp.ps args.toList = some (p, l)) (hp : p) (hK : sp.wp l fun outs => K (retsPut s o.dst outs)) :
    Out P dr o i pc a w (fun pc' a' w' => ∃ s', K s' ∧ Rel w0 S0 N dr pc' s' a' w') := by
  obtain ⟨⟨fn, hf, hn, hb⟩, hcall⟩ := hC.2.1 f sp hs
  have hA := argsAV_ok R sp.ps args.toList p l ha hp
  have hrun : (execOp a.eval o).run P w = .ok (.enter f (args.toList.map a.eval).toArray) w := by
    unfold execOp
    rw [ho]
    have e : (args.toList.map a.eval).toArray = args.map a.eval := by rw [← Array.toList_map, Array.toArray_toList]
    rw [e]
    have := run_call (P := P) (w := w) hf hn hb (args.map a.eval)
    simp only [resolve, invoke, hy, Deferred.ofValue, Sem.run_bind, Sem.run_pure, Result.andThen_ok, Array.empty_append, Array.append_empty]
    exact this
  have main : o.wp P a w (fun a' w' => (dr = true → kept o pc w w') ∧ ∃ s', K s' ∧ Rel w0 S0 N dr pc s' a' w') noQ := by
    unfold Oper.wp
    rw [hrun]
    refine Calls.mono (hcall l _ hK w _ R.stay hA) fun e w' h => ?_
    cases e with
    | returned v =>
      obtain ⟨g, outs, us, F, h1, rfl, h2⟩ := h
      exact ⟨fun hdr i b hb _ => g.old b (by obtain ⟨_, _, h2, _⟩ := R.pins hdr i b hb; exact h2), _, h1, retsPut_ok R g h2 hd⟩
    | panicked => exact h.elim
    | outgrown => exact h.elim
  refine .inl ?_
  unfold Out0
  have hk : okind o.op = 2 := by rw [ho]; rfl
  rw [hk]
  exact main

theorem capTV_ok (R : RelAt w0 S0 N dr pc s a w S pl) (cs : List Nat) (l : List TV) (vs : List Value) (h : capTV s cs = some l) (hl : vs.length = cs.length)
    (hv : ∀ (i c : Nat) (rt : RT) (u : Value), cs[i]? = some c → lk s.rts c = some rt → vs[i]? = some u → u = addrP (pl c) rt [0]) : CapsAt w (oldS w) (l.map (·.t)) l vs :=
  capTV_S R (fun b hb => R.lt b hb) (fun r rt n hr hn => (R.Flt r rt n hr hn).1) cs l vs h hl hv

theorem xcl_ok (hC : CtxOK P C w0 S0) (R : RelAt w0 S0 N dr pc s a w S pl) {o : Oper} {i f t : Nat} {args : Array Operand} {ats : Array TypeId} {K : XS → Prop} (hd : ∀ t, o.dst = some t → t < N) {cs : List Nat} (hy : s.get t = some (.clo f cs)) (ho : o.op = .call { callee := .value (.tmp t), args, argTypes := ats }) {sp : Spec} {l' : List TV} (hs : C.cl f = some (sp, l'.map (·.t)))
    (hcap : capTV s cs = some l') {p : Prop} {l : List TV} (ha : argsAV s sp.ps args.toList = some (p, l)) (hp : p) (hK : sp.wp (l ++ l') fun outs => K (retsPut s o.dst outs)) :
    Out P dr o i pc a w (fun pc' a' w' => ∃ s', K s' ∧ Rel w0 S0 N dr pc' s' a' w') := by
  obtain ⟨⟨fn, hf, hn, hb⟩, hcall⟩ := hC.2.2.2.2.1 f _ hs
  have hA := argsAV_ok R sp.ps args.toList p l ha hp
  obtain ⟨vs, e, h1, h2⟩ := (R.ev (x := .tmp t) hy).1
  have hCp := capTV_ok R cs l' vs hcap h1 h2
  have hrun : (execOp a.eval o).run P w = .ok (.enter f (args.toList.map a.eval ++ vs).toArray) w := by
    unfold execOp
    rw [ho]
    have e' : (args.toList.map a.eval ++ vs).toArray = args.map a.eval ++ vs.toArray := by
      rw [← List.append_toArray, ← Array.toList_map, Array.toArray_toList]
    rw [e']
    have := run_call (P := P) (w := w) hf hn hb (args.map a.eval ++ vs.toArray)
    simp only [resolve, invoke, e, Deferred.ofValue, Sem.run_bind, Sem.run_pure, Result.andThen_ok, Array.empty_append, Array.append_empty]
    exact this
  have main : o.wp P a w (fun a' w' => (dr = true → kept o pc w w') ∧ ∃ s', K s' ∧ Rel w0 S0 N dr pc s' a' w') noQ := by
    unfold Oper.wp
    rw [hrun]
    refine Calls.mono (hcall l l' _ hK w _ _ hA hCp) fun e w' h => ?_
    cases e with
    | returned v =>
      obtain ⟨g, outs, us, F, h1, rfl, h2⟩ := h
      exact ⟨fun hdr i b hb _ => g.old b (by obtain ⟨_, _, h2, _⟩ := R.pins hdr i b hb; exact h2), _, h1, retsPut_ok R g h2 hd⟩
    | panicked => exact h.elim
    | outgrown => exact h.elim
  refine .inl ?_
  unfold Out0
  have hk : okind o.op = 2 := by rw [ho]; rfl
  rw [hk]
  exact main

theorem xclf_ok (hC : CtxOK P C w0 S0) (R : RelAt w0 S0 N dr pc s a w S pl) {o : Oper} {i f t : Nat} {args : Array Operand} {ats : Array TypeId} {K : XS → Prop} (hd : ∀ t, o.dst = some t → t < N) {u : Ty} {y : u.den} (hy : s.get t = some (.dat (.fn f u) y)) (ho : o.op = .call { callee := .value (.tmp t), args, argTypes := ats }) {sp : Spec} (hs : C.cl f = some (sp, [u]))
    {p : Prop} {l : List TV} (ha : argsAV s sp.ps args.toList = some (p, l)) (hp : p) (hK : sp.wp (l ++ [⟨u, y⟩]) fun outs => K (retsPut s o.dst outs)) :
    Out P dr o i pc a w (fun pc' a' w' => ∃ s', K s' ∧ Rel w0 S0 N dr pc' s' a' w') := by
  obtain ⟨⟨fn, hf, hn, hb⟩, hcall⟩ := hC.2.2.2.2.1 f _ hs
  have hA := argsAV_ok R sp.ps args.toList p l ha hp
  obtain ⟨cs', e, hro⟩ := (R.ev (x := .tmp t) hy).1
  obtain ⟨b', o', arr, E, fr, rfl, k1, k2, k3, k4⟩ := hro
  obtain ⟨vs, hvs⟩ : ∃ vs : List Value, vs = [.pointer (some ⟨b', o', none⟩)] := ⟨_, rfl⟩
  have e : a.eval (.tmp t) = .func (.func f) #[] vs.toArray := by rw [hvs]; exact e
  have hCp : CapsAt w (oldS w) [u] [⟨u, y⟩] vs := by rw [hvs]; exact .cons (R.lt b' k1) k2 k3 (k4.frame fun b hb => ⟨R.lt b hb, rfl⟩) .nil
  have hrun : (execOp a.eval o).run P w = .ok (.enter f (args.toList.map a.eval ++ vs).toArray) w := by
    unfold execOp
    rw [ho]
    have e' : (args.toList.map a.eval ++ vs).toArray = args.map a.eval ++ vs.toArray := by
      rw [← List.append_toArray, ← Array.toList_map, Array.toArray_toList]
    rw [e']
    have := run_call (P := P) (w := w) hf hn hb (args.map a.eval ++ vs.toArray)
    simp only [resolve, invoke, e, Deferred.ofValue, Sem.run_bind, Sem.run_pure, Result.andThen_ok, Array.empty_append, Array.append_empty]
    exact this
  have main : o.wp P a w (fun a' w' => (dr = true → kept o pc w w') ∧ ∃ s', K s' ∧ Rel w0 S0 N dr pc s' a' w') noQ := by
    unfold Oper.wp
    rw [hrun]
    refine Calls.mono (hcall l [⟨u, y⟩] _ hK w _ _ hA hCp) fun e w' h => ?_
    cases e with
    | returned v =>
      obtain ⟨g, outs, us, F, h1, rfl, h2⟩ := h
      exact ⟨fun hdr i b hb _ => g.old b (by obtain ⟨_, _, h2, _⟩ := R.pins hdr i b hb; exact h2), _, h1, retsPut_ok R g h2 hd⟩
    | panicked => exact h.elim
    | outgrown => exact h.elim
  refine .inl ?_
  unfold Out0
  have hk : okind o.op = 2 := by rw [ho]; rfl
  rw [hk]
  exact main

theorem calleeOf_ok (R : RelAt w0 S0 N dr pc s a w S pl) {t f : Nat} (h : calleeOf (s.get t) = some f) : a.eval (.tmp t) = .func (.func f) #[] #[] := by
  unfold calleeOf at h
  split at h
  · rename_i f' fst cap hg
    split at h
    · rename_i hc
      cases h
      have hv := (R.ev (x := .tmp t) hg).1
      obtain ⟨e, _⟩ := AVR.raw hv
      rw [e, Array.eq_empty_of_size_eq_zero hc.1, Array.eq_empty_of_size_eq_zero hc.2]
    · cases h
  · rename_i f' hg
    cases h
    obtain ⟨vs, e, h1, _⟩ := (R.ev (x := .tmp t) hg).1
    have : vs = [] := List.length_eq_zero_iff.1 h1
    subst this
    exact e
  · cases h

theorem argsAV_S {T : Nat → Prop} (R : RelAt w0 S0 N dr pc s a w S pl) (hS : ∀ n, S n → T n) (hT : ∀ r rt n, s.root r = some rt → (pl r).F n → T n) : ∀ (ts : List Ty) (xs : List Operand) (p : Prop) (l : List TV), argsAV s ts xs = some (p, l) → p → Args w T ts l (xs.map a.eval)
  | [], [], p, l, h, _ => by
    simp only [argsAV, Option.some.injEq, Prod.mk.injEq] at h
    obtain ⟨_, rfl⟩ := h
    exact .nil
  | t :: ts, x :: xs, p, l, h, hp => by
    simp only [argsAV] at h
    cases hx : s.ev x with
    | none => rw [hx] at h; simp at h
    | some av =>
      rw [hx] at h
      simp only [Option.bind_some] at h
      cases ha : argAV s t av with
      | none => rw [ha] at h; simp at h
      | some pv =>
        obtain ⟨p1, tv⟩ := pv
        rw [ha] at h
        cases hl : argsAV s ts xs with
        | none => rw [hl] at h; simp at h
        | some ql =>
          obtain ⟨q, l'⟩ := ql
          rw [hl] at h
          simp only [Option.some.injEq, Prod.mk.injEq] at h
          obtain ⟨rfl, rfl⟩ := h
          obtain ⟨y, u, rfl, e1, e2⟩ := argAV_S R hS hT (R.ev hx).1 ha hp.1
          simp only [List.map_cons]
          rw [e1]
          exact .cons e2 (argsAV_S R hS hT ts xs q l' hl hp.2)
  | [], _ :: _, _, _, h, _ => by simp [argsAV] at h
  | _ :: _, [], _, _, h, _ => by simp [argsAV] at h

theorem xmv_core (hC : CtxOK P C w0 S0) (R : RelAt w0 S0 N dr pc s a w S pl) {o : Oper} {i f : Nat} {args : Array Operand} {ats : Array TypeId} {K : XS → Prop} (hd : ∀ t, o.dst = some t → t < N) (ho : o.op = .call { callee := .value (.func f), args, argTypes := ats }) {sp : Spec} (hs : C.mv f = some sp)
    {x : Operand} {xs : List Operand} (hargs : args.toList = x :: xs) {r : Nat} {rt : RT} (hr : s.root r = some rt) (H : Own w S rt.ty (rt.k + 1) rt.x none (pl r).ct [a.eval x] (pl r).F) (hk : rt.t.lev ≤ rt.k) {ts : List Ty} (hps : sp.ps = rt.ty :: ts)
    {p : Prop} {l : List TV} (ha : argsAV (s.kill r) ts xs = some (p, l)) (hp : p) (hnp : noPin dr s r = true) (hK : sp.wp (⟨rt.ty, rt.x⟩ :: l) fun outs => K (retsPut (s.kill r) o.dst outs)) :
    Out P dr o i pc a w (fun pc' a' w' => ∃ s', K s' ∧ Rel w0 S0 N dr pc' s' a' w') := by
  obtain ⟨⟨fn, hf, hn, hb⟩, hcall⟩ := hC.2.2.1 f sp hs
  have hk2 : ∀ r2 rt2, (s.kill r).root r2 = some rt2 → r2 ≠ r ∧ s.root r2 = some rt2 := fun r2 rt2 h => lk_rm_some h
  have RK := R.kill r
  have hFlt : ∀ n, (pl r).F n → n < w.heap.size := fun n hn => (R.Flt r rt n hr hn).1
  have hS : ∀ n, S n → butF w (pl r).F n := fun n hn => ⟨R.lt n hn, fun h => (R.Flt r rt n hr h).2 hn⟩
  have hT : ∀ r2 rt2 n, (s.kill r).root r2 = some rt2 → (pl r2).F n → butF w (pl r).F n := fun r2 rt2 n h2 h3 => ⟨(R.Flt r2 rt2 n (hk2 r2 rt2 h2).2 h3).1, fun h => (hk2 r2 rt2 h2).1 (R.disj r2 r rt2 rt n (hk2 r2 rt2 h2).2 hr h3 h)⟩
  have hO : Own w (butF w (pl r).F) rt.ty (rt.t.lev + 1) rt.x none (pl r).ct [a.eval x] (pl r).F := by
    exact own_full' hS (by simp only [Ty.lev]; omega) (by simp only [Ty.lev]; omega) H
  have hpin : dr = true → ∀ i n, pc i n → butF w (pl r).F n := fun hd i n hn => by
    obtain ⟨q, h1, h2, h3⟩ := R.pins hd i n hn
    refine ⟨h2, fun hF => ?_⟩
    have hq := h3 r rt hr hF
    subst hq
    simp only [noPin, hd, Bool.not_true, Bool.false_or, List.all_eq_true] at hnp
    have := hnp _ h1
    simp at this
  have hA := argsAV_S RK hS hT ts xs p l ha hp
  have hrun : (execOp a.eval o).run P w = .ok (.enter f (a.eval x :: xs.map a.eval).toArray) w := by
    unfold execOp
    rw [ho]
    have e : (a.eval x :: xs.map a.eval).toArray = args.map a.eval := by rw [← List.map_cons, ← hargs, ← Array.toList_map, Array.toArray_toList]
    rw [e]
    have := run_call (P := P) (w := w) hf hn hb (args.map a.eval)
    simp only [resolve, invoke, Deferred.ofValue, Act.eval, Sem.run_bind, Sem.run_pure, Result.andThen_ok, Array.empty_append, Array.append_empty]
    exact this
  have main : o.wp P a w (fun a' w' => (dr = true → kept o pc w w') ∧ ∃ s', K s' ∧ Rel w0 S0 N dr pc s' a' w') noQ := by
    unfold Oper.wp
    rw [hrun]
    refine Calls.mono (hcall rt.e rt.t ts rt.x l _ hps hK w _ _ _ _ hO hFlt hA) fun e w' h => ?_
    cases e with
    | returned v =>
      obtain ⟨g, outs, us, G, h1, rfl, h2⟩ := h
      have R1 : RelAt w0 S0 N dr pc (s.kill r) a w' S pl := RK.moved g.os g.tape (g.output.mono fun n hn => hS n (R.base n hn)) g.size fun n hn h => g.old n (by
        rcases h with h | ⟨r2, rt2, h3, h4⟩
        · exact hS n h
        · exact hT r2 rt2 n h3 h4)
      exact ⟨fun hdr i b hb _ => g.old b (hpin hdr i b hb), _, h1, retsPut_at R1 hS hT hpin h2 hd⟩
    | panicked => exact h.elim
    | outgrown => exact h.elim
  refine .inl ?_
  unfold Out0
  have hk : okind o.op = 2 := by rw [ho]; rfl
  rw [hk]
  exact main

theorem xmv_ok (hC : CtxOK P C w0 S0) (R : RelAt w0 S0 N dr pc s a w S pl) {o : Oper} {i f : Nat} {args : Array Operand} {ats : Array TypeId} {K : XS → Prop} (hd : ∀ t, o.dst = some t → t < N) (ho : o.op = .call { callee := .value (.func f), args, argTypes := ats }) {sp : Spec} (hs : C.mv f = some sp)
    {x : Operand} {xs : List Operand} (hargs : args.toList = x :: xs) {r : Nat} (hx : s.ev x = some (.ref r [])) {rt : RT} (hr : s.root r = some rt) (hh : rt.h = none) (hk : rt.t.lev ≤ rt.k) {ts : List Ty} (hps : sp.ps = rt.ty :: ts)
    {p : Prop} {l : List TV} (ha : argsAV (s.kill r) ts xs = some (p, l)) (hp : p) (hnp : noPin dr s r = true) (hK : sp.wp (⟨rt.ty, rt.x⟩ :: l) fun outs => K (retsPut (s.kill r) o.dst outs)) :
    Out P dr o i pc a w (fun pc' a' w' => ∃ s', K s' ∧ Rel w0 S0 N dr pc' s' a' w') := by
  refine xmv_core hC R hd ho hs hargs hr ?_ hk hps ha hp hnp hK
  obtain ⟨hv, H⟩ := R.own r rt hr
  have hv0 : a.eval x = hv := by
    have h1 : a.eval x = hdr (atCT [] rt.ty (pl r).ct) (rt.at []).len := (R.ev hx).1 rt hr
    rw [h1]; exact (H.hdr (by rw [hh]; simp)).1.symm
  rw [hv0]
  rw [hh] at H
  exact H

theorem xmvp_ok (hC : CtxOK P C w0 S0) (R : RelAt w0 S0 N false pc s a w S pl) {o : Oper} {i f : Nat} {args : Array Operand} {ats : Array TypeId} {K : XS → Prop} (hd : ∀ t, o.dst = some t → t < N) (ho : o.op = .call { callee := .value (.func f), args, argTypes := ats }) {sp : Spec} (hs : C.mv f = some sp)
    {x : Operand} {xs : List Operand} (hargs : args.toList = x :: xs) {x' : AV} (hx : s.ev x = some x') {e : Nat} {u : Ty} {p1 : Prop} {s1 : XS} {r : Nat} (ho1 : own1 s e u x' = some (p1, s1, r)) (hp1 : p1) {rt : RT} (hr : s1.root r = some rt) (hk : rt.t.lev ≤ rt.k) {ts : List Ty} (hps : sp.ps = rt.ty :: ts)
    {p : Prop} {l : List TV} (ha : argsAV (s1.kill r) ts xs = some (p, l)) (hp : p) (hK : sp.wp (⟨rt.ty, rt.x⟩ :: l) fun outs => K (retsPut (s1.kill r) o.dst outs)) :
    Out P false o i pc a w (fun pc' a' w' => ∃ s', K s' ∧ Rel w0 S0 N false pc' s' a' w') := by
  obtain ⟨pl1, rt1, R1, h1, h2, h3, h4, H, _⟩ := own1_ok R (R.ev hx).1 ho1 hp1
  rw [hr] at h1
  cases h1
  exact xmv_core hC R1 hd ho hs hargs hr H hk hps ha hp (by simp [noPin]) hK

theorem xip_ok (hC : CtxOK P C w0 S0) (R : RelAt w0 S0 N false pc s a w S pl) {o : Oper} {i f : Nat} {args : Array Operand} {ats : Array TypeId} {K : XS → Prop} (hd : ∀ t, o.dst = some t → t < N) (ho : o.op = .call { callee := .value (.func f), args, argTypes := ats }) {sp : Spec} (hs : C.ip f = some sp)
    {x : Operand} {xs : List Operand} (hargs : args.toList = x :: xs) {r : Nat} (hx : s.ev x = some (.ref r [])) {rt : RT} (hr : s.root r = some rt) (hh : rt.h = none) (hk : rt.t.lev ≤ rt.k) {ts : List Ty} (hps : sp.ps = rt.ty :: ts)
    {p : Prop} {l : List TV} (ha : argsAV (s.kill r) ts xs = some (p, l)) (hp : p) (hK : sp.wp (⟨rt.ty, rt.x⟩ :: l) fun outs => match outs with | [v] => K ((s.inPlace r rt v).put o.dst (.tup [])) | _ => False) :
    Out P false o i pc a w (fun pc' a' w' => ∃ s', K s' ∧ Rel w0 S0 N false pc' s' a' w') := by
  obtain ⟨⟨fn, hf, hn, hb⟩, hcall⟩ := hC.2.2.2.1 f sp hs
  have hk2 : ∀ r2 rt2, (s.kill r).root r2 = some rt2 → r2 ≠ r ∧ s.root r2 = some rt2 := fun r2 rt2 h => lk_rm_some h
  have RK := R.kill r
  obtain ⟨hv, H⟩ := R.own r rt hr
  have hv0 : a.eval x = hv := by
    have h1 : a.eval x = hdr (atCT [] rt.ty (pl r).ct) (rt.at []).len := (R.ev hx).1 rt hr
    rw [h1]; exact (H.hdr (by rw [hh]; simp)).1.symm
  have hFlt : ∀ n, (pl r).F n → n < w.heap.size := fun n hn => (R.Flt r rt n hr hn).1
  have hS : ∀ n, S n → butF w (pl r).F n := fun n hn => ⟨R.lt n hn, fun h => (R.Flt r rt n hr h).2 hn⟩
  have hT : ∀ r2 rt2 n, (s.kill r).root r2 = some rt2 → (pl r2).F n → butF w (pl r).F n := fun r2 rt2 n h2 h3 => ⟨(R.Flt r2 rt2 n (hk2 r2 rt2 h2).2 h3).1, fun h => (hk2 r2 rt2 h2).1 (R.disj r2 r rt2 rt n (hk2 r2 rt2 h2).2 hr h3 h)⟩
  have hO : Own w (butF w (pl r).F) rt.ty (rt.t.lev + 1) rt.x none (pl r).ct [a.eval x] (pl r).F := by
    rw [hv0]
    rw [hh] at H
    exact own_full' hS (by simp only [Ty.lev]; omega) (by simp only [Ty.lev]; omega) H
  have hA := argsAV_S RK hS hT ts xs p l ha hp
  have hrun : (execOp a.eval o).run P w = .ok (.enter f (a.eval x :: xs.map a.eval).toArray) w := by
    unfold execOp
    rw [ho]
    have e : (a.eval x :: xs.map a.eval).toArray = args.map a.eval := by rw [← List.map_cons, ← hargs, ← Array.toList_map, Array.toArray_toList]
    rw [e]
    have := run_call (P := P) (w := w) hf hn hb (args.map a.eval)
    simp only [resolve, invoke, Deferred.ofValue, Act.eval, Sem.run_bind, Sem.run_pure, Result.andThen_ok, Array.empty_append, Array.append_empty]
    exact this
  have main : o.wp P a w (fun a' w' => (false = true → kept o pc w w') ∧ ∃ s', K s' ∧ Rel w0 S0 N false pc s' a' w') noQ := by
    unfold Oper.wp
    rw [hrun]
    refine Calls.mono (hcall rt.e rt.t ts rt.x l _ hps hK w _ _ _ _ hO hFlt hA) fun e w' h => ?_
    cases e with
    | returned v =>
      obtain ⟨rfl, g, x', ct', G, h1, h2, h3⟩ := h
      have hO1 := hO.hdr (by simp)
      have hO2 := h3.hdr (by simp)
      have hce : hdr ct' x'.length = hdr (pl r).ct rt.x.length := hO2.1.symm.trans hO1.1
      have hinv := own_inv h3
      have hinv0 := own_inv hO
      have hnm : SameNames isNilP isOneP rt (rt.withX ⟨.list rt.e rt.t, x'⟩) (pl r).ct ct' := by
        rcases hinv0 with ⟨q1, q2, _⟩ | ⟨b, cap, kids, _, _, q1, _⟩ <;> rcases hinv with ⟨p1, p2, _⟩ | ⟨b', cap', kids', _, _, p1, _⟩
        · rw [q1, p1]
          refine ⟨fun p hp => ?_, fun p lo hi v hp h1 h2 h3 => ?_, fun p hp => ?_⟩
          · cases p with
            | nil => simp [hdr, atCT]
            | cons => cases hp
          · cases p with
            | nil =>
              simp only [RT.at, getS, TV.len, RT.ty] at h2 ⊢
              rw [q2] at h2
              exact ⟨Nat.le_trans h2 (Nat.zero_le _), h3⟩
            | cons => cases hp
          · cases p <;> rfl
        · rw [q1, p1] at hce; simp [hdr] at hce
        · rw [q1, p1] at hce; simp [hdr] at hce
        · rw [q1, p1] at hce
          simp only [hdr, Value.slice.injEq, Option.some.injEq, Addr.mk.injEq] at hce
          obtain ⟨⟨rfl, _⟩, hl, rfl⟩ := hce
          rw [q1, p1]
          refine ⟨fun p hp => ?_, fun p lo hi v hp h1 h2 h3 => ?_, fun p hp => ?_⟩
          · cases p with
            | nil =>
              show hdr (.node _ _ _) x'.length = hdr (.node _ _ _) rt.x.length
              simp only [hdr, hl]
            | cons => cases hp
          · cases p with
            | nil =>
              have h2' : hi ≤ rt.x.length := h2
              exact ⟨show hi ≤ x'.length by omega, h3⟩
            | cons => cases hp
          · match p with
            | [] => rfl
            | [i] => rfl
            | i :: j :: p => cases hp
      refine ⟨(fun h => by cases h), _, h1, ?_⟩
      refine ⟨S, _, (R.setRoot (w' := w') (rt' := rt.withX ⟨.list rt.e rt.t, x'⟩) (kr := isNilP) (kp := isOneP) hr rfl g.os g.tape (g.output.mono fun n hn => hS n (R.base n hn)) g.size (fun b hb hnF => g.old b ⟨hb, hnF⟩) (ct' := ct') (F' := G) (hv := a.eval x) ?_ ?_ hnm).put hd ⟨[], rfl, .nil⟩ fun _ h => by cases h⟩
      · show Own w' S (.list rt.e rt.t) (rt.k + 1) x' rt.h ct' [a.eval x] G
        rw [hh]
        exact own_full' (fun _ h => h.elim) (by simp only [Ty.lev]; omega) (by simp only [Ty.lev]; omega) h3
      · intro b hb
        obtain ⟨g1, g2⟩ := h2 b hb
        refine ⟨g2, ?_⟩
        by_cases hFb : (pl r).F b
        · exact .inl hFb
        · exact .inr (.inl (Nat.le_of_not_lt fun hlt => g1 ⟨hlt, hFb⟩))
    | panicked => exact h.elim
    | outgrown => exact h.elim
  refine .inl ?_
  unfold Out0
  have hk : okind o.op = 2 := by rw [ho]; rfl
  rw [hk]
  exact main

end
end Fer

namespace Fer
open Go Go.MapKept

section
variable {P : Program} {C : Ctx} {w0 : World} {S0 : Nat → Prop} {dr : Bool} {pc : Pins} {s : XS} {a : Act} {w w' : World} {S : Nat → Prop} {pl : Nat → PL}

def isCells (w : World) (b : Nat) : Prop := ∃ arr E fr, w.heap[b]? = some (.cells arr E fr)

theorem RO.frameC {w w' : World} {S S' : Nat → Prop} (hS : ∀ b, S b → isCells w b → S' b ∧ w'.heap[b]? = w.heap[b]?) :
    ∀ {t : Ty} {x : t.den} {cs : List Value}, RO w S t x cs → RO w' S' t x cs
  | .int _, _, _, h => h
  | .bool, _, _, h => h
  | .str, _, _, h => h
  | .raw, _, _, h => h
  | .func, _, _, h => h
  | .ro _ t, x, cs, h => by
    obtain ⟨h0, a, cap, h1, h2, h3, h4⟩ := h
    refine ⟨h0, a, cap, h1, h2, h3, fun hne => ?_⟩
    obtain ⟨b, off, arr, E, fr, e1, e2, e3, e4, e5⟩ := h4 hne
    exact ⟨b, off, arr, E, fr, e1, (hS b e2 ⟨_, _, _, e3⟩).1, ((hS b e2 ⟨_, _, _, e3⟩).2).trans e3, e4, fun i hi => (e5 i hi).frameC hS⟩
  | .row _ t, x, cs, h => by
    obtain ⟨b, cap, arr, h1, h2, h3, h4, h5, h6, h7⟩ := h
    have hb := hS b h4 ⟨arr, _, _, h5⟩
    exact ⟨b, cap, arr, h1, h2, h3, hb.1, hb.2.trans h5, h6, fun i hi => (h7 i hi).frameC hS⟩
  | .fn _ t, x, cs, h => by
    obtain ⟨b, o, arr, E, fr, h1, h2, h3, h4, h5⟩ := h
    have hb := hS b h2 ⟨arr, E, fr, h3⟩
    exact ⟨b, o, arr, E, fr, h1, hb.1, hb.2.trans h3, h4, h5.frameC hS⟩
  | .list _ t, xs, cs, h => by
    obtain ⟨a, cap, h1, h2, h3, h4⟩ := h
    refine ⟨a, cap, h1, h2, h3, fun hne => ?_⟩
    obtain ⟨b, off, arr, E, fr, e1, e2, e3, e4, e5⟩ := h4 hne
    have hb := hS b e2 ⟨arr, E, fr, e3⟩
    exact ⟨b, off, arr, E, fr, e1, hb.1, hb.2.trans e3, e4, fun i hi => (e5 i hi).frameC hS⟩
  | .prod a b, x, cs, h => by
    obtain ⟨c1, c2, h0, h1, h2⟩ := h
    exact ⟨c1, c2, h0, h1.frameC hS, h2.frameC hS⟩

theorem Own.frameC {w w' : World} {S S' : Nat → Prop} (hS : ∀ b, S b → isCells w b → S' b ∧ w'.heap[b]? = w.heap[b]?) :
    ∀ {t : Ty} {k : Nat} {x : t.den} {h : Option (List Nat)} {ct : CT} {cs : List Value} {F : Nat → Prop},
    Own w S t k x h ct cs F → (∀ b, F b → w'.heap[b]? = w.heap[b]?) → Own w' S' t k x h ct cs F
  | .int _, _, _, _, _, _, _, h, _ => h
  | .bool, _, _, _, _, _, _, h, _ => h
  | .str, _, _, _, _, _, _, h, _ => h
  | .raw, _, _, _, _, _, _, h, _ => ⟨h.1, h.2.imp id fun q => ⟨q.1, q.2.frameC hS⟩⟩
  | .fn _ _, _, _, _, _, _, _, h, _ | .row _ _, _, _, _, _, _, _, h, _ => ⟨h.1, h.2.imp id fun q => ⟨q.1, q.2.1, q.2.2.frameC hS⟩⟩
  | .ro _ _, _, _, _, _, _, _, h, _ => ⟨h.1, h.2.imp id fun q => ⟨q.1, q.2.frameC hS⟩⟩
  | .func, _, _, _, _, _, _, h, _ => h
  | .list e t, k, xs, h, ct, cs, F, H, hF => by
    rcases H with H | ⟨h0, H⟩
    · exact .inl H
    · refine .inr ⟨h0, ?_⟩
      cases k with
      | zero => exact ⟨H.1, H.2.1.frameC hS, H.2.2⟩
      | succ k =>
        cases ct with
        | nil => exact H
        | node b cap kids =>
          obtain ⟨h1, h2, h3, arr, h4, h5, Fs, g1, g2, g3, g4⟩ := H
          exact ⟨h1, h2, h3, arr, (hF b ((g1 b).2 (.inl rfl))).trans h4, h5, Fs, g1, g2, g3,
            fun i hi => (g4 i hi).frameC hS fun n hn => hF n ((g1 n).2 (.inr ⟨i, hi, hn⟩))⟩
        | leaf => exact H.elim
        | pair => exact H.elim
  | .prod a b, k, x, h, ct, cs, F, H, hF => by
    rcases H with H | ⟨h0, H⟩
    · exact .inl H
    · refine .inr ⟨h0, ?_⟩
      cases ct with
      | pair c d =>
        obtain ⟨c1, c2, F1, F2, h1, g1, g2, g3, g4⟩ := H
        exact ⟨c1, c2, F1, F2, h1, g1, g2, g3.frameC hS fun n hn => hF n ((g1 n).2 (.inl hn)), g4.frameC hS fun n hn => hF n ((g1 n).2 (.inr hn))⟩
      | nil => exact H.elim
      | node => exact H.elim
      | leaf => exact H.elim

theorem BVR.frameC {rts : List (Nat × RT)} (hS : ∀ b, S b → isCells w b → S b ∧ w'.heap[b]? = w.heap[b]?) {av : AV} {v : Value} (h : BVR w S rts pl av v) : BVR w' S rts pl av v := by
  cases av with
  | dat t x => obtain ⟨cs, h1, h2⟩ := h; exact ⟨cs, h1, h2.frameC hS⟩
  | rptr t x =>
    obtain ⟨b, o, arr, E, fr, h1, h2, h3, h4, h5⟩ := h
    exact ⟨b, o, arr, E, fr, h1, h2, ((hS b h2 ⟨arr, E, fr, h3⟩).2).trans h3, h4, h5.frameC hS⟩
  | rpl b t x =>
    obtain ⟨h1, arr, E, fr, h2, h3, h4, h5⟩ := h
    exact ⟨h1, arr, E, fr, h2, ((hS b h2 ⟨arr, E, fr, h3⟩).2).trans h3, h4, h5.frameC hS⟩
  | ref r p => exact h
  | sub r p lo hi => exact h
  | ptr r p => exact h
  | clo f c => exact h
  | loc r b => exact h
  | one r => exact h
  | tup l => exact h
  | agg l => exact h
  | mp b f => exact h
  | junk => trivial
theorem BVRs.frameC {rts : List (Nat × RT)} (hS : ∀ b, S b → isCells w b → S b ∧ w'.heap[b]? = w.heap[b]?) {l : List AV} {vs : List Value} (h : BVRs w S rts pl l vs) : BVRs w' S rts pl l vs := by
  induction h with
  | nil => exact .nil
  | cons h t ih => exact .cons (h.frameC hS) ih

theorem lk_mpSet {b : Nat} {g : MD} {i : Nat} : ∀ (l : List (Nat × AV)), lk (mpSet b g l) i = (lk l i).map (AV.setMp b g)
  | [] => rfl
  | (j, x) :: l => by
    simp only [mpSet, lk]
    split
    · rfl
    · exact lk_mpSet l

theorem RelAt.mapSet {N : Nat} (R : RelAt w0 S0 N dr pc s a w S pl) {b i : Nat} {f g : MD} (hgv : g.val b = f.val b) (hi : s.get i = some (.mp b f)) (hos : w'.os = w.os) (htape : w'.tape = w.tape) (hout : SameOut S0 w w') (hsz : w'.heap.size = w.heap.size)
    (hold : ∀ n, n ≠ b → w'.heap[n]? = w.heap[n]?) (hm : MapAt w' b g) : RelAt w0 S0 N dr pc { s with env := mpSet b g s.env } a w' S pl := by
  obtain ⟨_, hSb, o, hb, ho⟩ := (R.env i _ hi).1
  have hnc : ∀ n, isCells w n → n ≠ b := fun n hn e => by
    subst e
    obtain ⟨arr, E, fr, h⟩ := hn
    rw [hb] at h
    exact MD.not_cells ho (Option.some.inj h)
  have hSC : ∀ n, S n → isCells w n → S n ∧ w'.heap[n]? = w.heap[n]? := fun n hn hc => ⟨hn, hold n (hnc n hc)⟩
  have hFb : ∀ r rt n, s.root r = some rt → (pl r).F n → w'.heap[n]? = w.heap[n]? := fun r rt n hr hn => hold n fun e => (R.Flt r rt n hr hn).2 (e ▸ hSb)
  have hnew := R.news i b f hi
  refine { defers := R.defers, size := R.size, os := hos.trans R.os, tape := htape.trans R.tape, output := hout.trans R.output, grow := by rw [hsz]; exact R.grow, stay := fun n hn => ?_, base := R.base, lt := fun n hn => by rw [hsz]; exact R.lt n hn, own := fun r rt hr => ?_, Flt := fun r rt n hr hn => by rw [hsz]; exact R.Flt r rt n hr hn, disj := R.disj, ids := R.ids, env := fun j av hj => ?_, pins := fun hd i b hp => ?_, news := fun j b' f' hj => ?_ }
  · refine (hold n fun e => ?_).trans (R.stay n hn)
    have h1 := R.stay n hn
    rw [e, hb, Array.getElem?_eq_none hnew] at h1
    cases h1
  · obtain ⟨hv, H⟩ := R.own r rt hr
    exact ⟨hv, H.frameC hSC fun n hn => hFb r rt n hr hn⟩
  · simp only [XS.get, lk_mpSet, Option.map_eq_some_iff] at hj
    obtain ⟨av0, h0, rfl⟩ := hj
    obtain ⟨h1, h2⟩ := R.env j av0 h0
    cases av0 with
    | mp b' f' =>
      obtain ⟨q1, q2, q3⟩ := h1
      by_cases e : b' = b
      · subst e
        simp only [AV.setMp, if_true]
        obtain ⟨o', q3, q4⟩ := q3
        rw [hb] at q3
        cases q3
        exact ⟨⟨q1.trans ((MD.val_same q4 ho b').trans hgv.symm), q2, hm⟩, fun r hr => by simp [AV.ids] at hr⟩
      · simp only [AV.setMp, if_neg e]
        obtain ⟨o', q3, q4⟩ := q3
        exact ⟨⟨q1, q2, o', (hold b' e).trans q3, q4⟩, fun r hr => by simp [AV.ids] at hr⟩
    | tup l => obtain ⟨vs, q1, q2⟩ := h1; exact ⟨⟨vs, q1, q2.frameC hSC⟩, h2⟩
    | agg l => obtain ⟨vs, q1, q2⟩ := h1; exact ⟨⟨vs, q1, q2.frameC hSC⟩, h2⟩
    | dat t x => exact ⟨BVR.frameC (rts := s.rts) (pl := pl) (av := .dat t x) hSC h1, h2⟩
    | rptr t x => exact ⟨BVR.frameC (rts := s.rts) (pl := pl) (av := .rptr t x) hSC h1, h2⟩
    | rpl b t x => exact ⟨BVR.frameC (rts := s.rts) (pl := pl) (av := .rpl b t x) hSC h1, h2⟩
    | ref r p => exact ⟨h1, h2⟩
    | sub r p lo hi => exact ⟨h1, h2⟩
    | ptr r p => exact ⟨h1, h2⟩
    | clo f c => exact ⟨h1, h2⟩
    | loc r b => exact ⟨h1, h2⟩
    | one r => exact ⟨h1, h2⟩
    | junk => exact ⟨trivial, h2⟩
  · obtain ⟨q, h1, h2, h3⟩ := R.pins hd i b hp
    exact ⟨q, h1, by rw [hsz]; exact h2, h3⟩
  · simp only [XS.get, lk_mpSet, Option.map_eq_some_iff] at hj
    obtain ⟨av0, h0, h1⟩ := hj
    cases av0 with
    | mp b2 f2 =>
      simp only [AV.setMp] at h1
      split at h1
      · rename_i e
        cases h1
        exact R.news j _ f2 h0 |> fun h => e ▸ h
      · cases h1
        exact R.news j _ _ h0
    | _ => cases h1


def keyedE (l : List MapEntry) : Prop := ∀ e ∈ l, ∃ k v, e.key = .int .i64 k ∧ e.val = .int .i64 v

theorem mget_cons {e : MapEntry} {l : List MapEntry} {k v j : Int} (h1 : e.key = .int .i64 j) (h2 : e.val = .int .i64 v) : mget (e :: l) k = if j = k then v else mget l k := by
  simp only [mget, h1, h2]

theorem find_spec (n m : Int) (born : Nat) : ∀ (l : List MapEntry) (i : Nat), keyedE l →
    (Instr.findNow (.int .i64) (.int .i64 n) l i = some none ∧ mget l n = 0 ∧ ∀ k, mget (l ++ [{ key := .int .i64 n, val := .int .i64 m, born := born }]) k = if k = n then m else mget l k) ∨
    ∃ j v e, Instr.findNow (.int .i64) (.int .i64 n) l i = some (some (i + j, .int .i64 v)) ∧ mget l n = v ∧ l[j]? = some e ∧ e.key = .int .i64 n ∧
      ∀ k, mget (l.modify j fun e => { e with key := .int .i64 n, val := .int .i64 m }) k = if k = n then m else mget l k
  | [], i, _ => .inl ⟨rfl, rfl, fun k => by
      simp only [List.nil_append, mget]
      by_cases h : k = n
      · rw [if_pos h.symm, if_pos h]
      · rw [if_neg (fun e => h e.symm), if_neg h]⟩
  | e :: l, i, h => by
    obtain ⟨j, v, hj, hv⟩ := h e (.head _)
    have hl : keyedE l := fun x hx => h x (.tail _ hx)
    have hs : Instr.sameNow (.int .i64) (.int .i64 n) e.key = some (n == j) := by rw [hj]; simp [Instr.sameNow]
    by_cases hn : n = j
    · subst hn
      refine .inr ⟨0, v, e, by simp [Instr.findNow, hs, hv], by rw [mget_cons hj hv, if_pos rfl], rfl, hj, fun k => ?_⟩
      simp only [List.modify_succ_cons, List.modify_zero_cons]
      rw [mget_cons (j := n) (v := m) rfl rfl, mget_cons hj hv]
      by_cases hk : k = n
      · rw [if_pos hk.symm, if_pos hk]
      · rw [if_neg (fun e => hk e.symm), if_neg hk, if_neg (fun e => hk e.symm)]
    · have hb : (n == j) = false := by simpa using hn
      rw [hb] at hs
      rcases find_spec n m born l (i + 1) hl with ⟨h1, h2, h3⟩ | ⟨q, v', e', h1, h2, h3, h4, h5⟩
      · refine .inl ⟨by simp [Instr.findNow, hs, h1], by rw [mget_cons hj hv, if_neg (fun e => hn e.symm), h2], fun k => ?_⟩
        rw [List.cons_append, mget_cons hj hv, mget_cons hj hv, h3 k]
        by_cases hk : k = n
        · rw [if_pos hk, if_pos hk, if_neg (by omega)]
        · rw [if_neg hk, if_neg hk]
      · refine .inr ⟨q + 1, v', e', by simp [Instr.findNow, hs, h1]; omega, by rw [mget_cons hj hv, if_neg (fun e => hn e.symm), h2], by simpa using h3, h4, fun k => ?_⟩
        simp only [List.modify_succ_cons]
        rw [mget_cons hj hv, mget_cons hj hv, h5 k]
        by_cases hk : k = n
        · rw [if_pos hk, if_pos hk, if_neg (by omega)]
        · rw [if_neg hk, if_neg hk]

theorem keyed_modify {l : List MapEntry} (h : keyedE l) (j : Nat) (n m : Int) : keyedE (l.modify j fun e => { e with key := .int .i64 n, val := .int .i64 m }) := by
  intro e he
  rw [List.mem_iff_getElem?] at he
  obtain ⟨q, hq⟩ := he
  rw [List.getElem?_modify] at hq
  cases hx : l[q]? with
  | none => rw [hx] at hq; simp at hq
  | some x =>
    rw [hx] at hq
    have hx' := h x (List.mem_of_getElem? hx)
    simp only [Option.map_eq_map, Option.map_some, Option.some.injEq] at hq
    split at hq
    · subst hq
      exact ⟨n, m, rfl, rfl⟩
    · subst hq
      exact hx'

structure MTE (P : Program) (t kt vt : Nat) : Prop where
  hm : P.underlying t = some (.map kt vt)
  hk : P.underlying kt = some (.int .i64)
  hz : ∃ inf, P.info? vt = some inf ∧ inf.zero = some (.int .i64 0)

theorem map_te {t kt vt : Nat} (h : teB P t (.map kt vt) = true) : MTE P t kt vt := by
  simp only [teB, Bool.and_eq_true] at h
  obtain ⟨⟨h1, h2⟩, h3⟩ := h
  refine ⟨?_, ?_, ?_⟩
  · split at h1
    · rename_i k v hu
      simp only [Bool.and_eq_true, beq_iff_eq] at h1
      rw [hu, h1.1, h1.2]
    · cases h1
  · split at h2
    · assumption
    · cases h2
  · split at h3
    · rename_i inf hi
      split at h3
      · rename_i n hz
        simp only [beq_iff_eq] at h3
        subst h3
        exact ⟨inf, hi, hz⟩
      · cases h3
    · cases h3

theorem mapAt_ints {b : Nat} {f : Int → Int} (h : MapAt w b (.ints f)) : ∃ es clock, w.heap[b]? = some (.map es clock) ∧ (∀ e ∈ es.toList, ∃ k v, e.key = .int .i64 k ∧ e.val = .int .i64 v) ∧ ∀ k, f k = mget es.toList k := by
  obtain ⟨o, h1, h2⟩ := h
  cases o <;> first | exact h2.elim | skip
  exact ⟨_, _, h1, h2⟩
theorem mapAt_mk {b : Nat} {f : Int → Int} {es : Array MapEntry} {c : Nat} (h : w.heap[b]? = some (.map es c)) (h2 : ∀ e ∈ es.toList, ∃ k v, e.key = .int .i64 k ∧ e.val = .int .i64 v) (h3 : ∀ k, f k = mget es.toList k) : MapAt w b (.ints f) :=
  ⟨_, h, h2, h3⟩
theorem run_get {t kt vt b : Nat} {f : Int → Int} {n : Int} (h : MTE P t kt vt) (hb : MapAt w b (.ints f)) : (Instr.lookup t (.map (some b)) (.int .i64 n) false).run P w = .ok (.int .i64 (f n)) w := by
  obtain ⟨es, c, h1, h2, h3⟩ := mapAt_ints hb
  have hc : (Instr.checkKey es.isEmpty 10000 kt (.int .i64 n)).run P w = .ok () w := run_checkKey h.hk (by simp [IsKey]) _ 9999
  obtain ⟨inf, z1, z2⟩ := h.hz
  have hz : (zeroValue vt).run P w = .ok (.int .i64 0) w := by simp [zeroValue, typeInfo, z1, z2]
  rcases find_spec n 0 0 es.toList 0 h2 with ⟨q1, q2, _⟩ | ⟨j, v, e, q1, q2, _, _, _⟩
  · simp [Instr.lookup, run_underlying h.hm, run_getObj_map h1, hc, run_findKey h.hk q1, hz, Result.andThen, h3, q2]
  · simp [Instr.lookup, run_underlying h.hm, run_getObj_map h1, hc, run_findKey h.hk q1, Result.andThen, h3, q2]

theorem run_upd {t kt vt b : Nat} {f : Int → Int} {n m : Int} (h : MTE P t kt vt) (hb : MapAt w b (.ints f)) : ∃ o, (Instr.mapUpdate t (.map (some b)) (.int .i64 n) (.int .i64 m)).run P w = .ok () { w with heap := w.heap.setIfInBounds b o } ∧
    MapAt { w with heap := w.heap.setIfInBounds b o } b (.ints fun j => if j = n then m else f j) := by
  obtain ⟨es, c, h1, h2, h3⟩ := mapAt_ints hb
  have hc : (Instr.checkKey false 10000 kt (.int .i64 n)).run P w = .ok () w := run_checkKey h.hk (by simp [IsKey]) _ 9999
  have hlt : b < w.heap.size := (Array.getElem?_eq_some_iff.1 h1).1
  have hset : ∀ o, (w.heap.setIfInBounds b o)[b]? = some o := fun o => by simp [hlt]
  rcases find_spec n m c es.toList 0 h2 with ⟨q1, q2, q3⟩ | ⟨j, v, e, q1, q2, q3, q4, q5⟩
  · refine ⟨.map (es.push { key := .int .i64 n, val := .int .i64 m, born := c }) (c + 1), ?_, mapAt_mk (hset _) ?_ fun k => ?_⟩
    · simp [Instr.mapUpdate, run_underlying h.hm, run_getObj_map h1, hc, run_findKey h.hk q1, run_setObj_map _ h1, Result.andThen]
    · intro x hx
      simp only [Array.toList_push, List.mem_append, List.mem_singleton] at hx
      rcases hx with hx | rfl
      · exact h2 x hx
      · exact ⟨n, m, rfl, rfl⟩
    · show (if k = n then m else f k) = _
      rw [Array.toList_push, q3 k, h3 k]
  · have hj : es[j]? = some e := by simpa using q3
    refine ⟨.map (es.modify j fun e => { e with key := .int .i64 n, val := .int .i64 m }) c, ?_, mapAt_mk (hset _) ?_ fun k => ?_⟩
    · simp [Instr.mapUpdate, run_underlying h.hm, run_getObj_map h1, hc, run_findKey h.hk q1, hj, q4, run_keyThatStays (d := .int .i64) (k := .int .i64 n) rfl, run_setObj_map _ h1, Result.andThen]
    · rw [Array.toList_modify]
      exact keyed_modify h2 j n m
    · show (if k = n then m else f k) = _
      rw [Array.toList_modify, q5 k, h3 k]

theorem Out.two {o : Oper} {i : Nat} {K : Pins → Act → World → Prop} (h2 : okind o.op = 2) (h : o.wp P a w (fun a' w' => (dr = true → kept o pc w w') ∧ K pc a' w') noQ) : Out P dr o i pc a w K := by
  refine .inl ?_
  unfold Out0
  rw [h2]
  exact h

theorem RelAt.newMap {N : Nat} (R : RelAt w0 S0 N dr pc s a w S pl) (hdr : dr = false) {d : Option Nat} (hd : ∀ t, d = some t → t < N) {o : Obj} {md : MD} (ho : md.holds o) :
    RelAt w0 S0 N dr pc (s.put d (.mp w.heap.size md)) (a.put d (md.val w.heap.size)) (w.alloc o) (fun n => S n ∨ n = w.heap.size) pl := by
  have g : Grew w (w.alloc o) := by
    refine ⟨rfl, rfl, ⟨rfl, fun a _ ha => ?_, by simp, fun _ => Nat.le_refl _⟩, by simp, fun b hb => RowKit.Below.heap_alloc w _ b hb⟩
    unfold World.frozen?
    rw [RowKit.Below.heap_alloc w _ a.block ha]
  have R1 := (R.grown g).widen (S' := fun n => S n ∨ n = w.heap.size) (fun b hb => .inl hb) (fun b hb => hb.elim (fun h => Nat.lt_of_lt_of_le (R.lt b h) g.size) fun h => by subst h; simp) fun r rt b hr hb hS => hS.elim (R.Flt r rt b hr hb).2 fun e => by
    have := (R.Flt r rt b hr hb).1
    omega
  exact R1.put hd ⟨rfl, .inr rfl, o, (heap_alloc w _).1, ho⟩ (fun r hr => by simp [AV.ids] at hr) R.grow

theorem newBl_ok {N : Nat} (R : RelAt w0 S0 N dr pc s a w S pl) {b : Nat} (h : w.heap.size ≤ b) : ∀ l : List (Nat × AV), newBl s b l
  | [] => trivial
  | (i, _) :: l => ⟨by
      split
      · rename_i c d hg
        intro e
        have := R.lt c (R.env i _ hg).1.2.1
        omega
      · trivial, newBl_ok R h l⟩
theorem ev_slotM {x : Operand} {b : Nat} {f : MD} (hx : s.ev x = some (.mp b f)) : ∃ i, s.get i = some (.mp b f) := by
  cases x with
  | tmp x => exact ⟨x, hx⟩
  | const c =>
    have : (constAV c) = some (.mp b f) := hx
    cases c <;> simp [constAV] at this
  | _ => cases hx
theorem mapIn_get {b : Nat} {l : List ((Int × Int) × Int)} : ∀ {e : List (Nat × AV)}, mapIn s e b = some l → ∃ i, s.get i = some (.mp b (.prs l))
  | [], h => by cases h
  | (i, av) :: r, h => by
    simp only [mapIn] at h
    split at h
    · rename_i c l' hg
      split at h
      · rename_i e
        cases h
        subst e
        exact ⟨i, hg⟩
      · exact mapIn_get h
    · exact mapIn_get h
theorem AVR.pri {k : Int × Int} {rts : List (Nat × RT)} {v : Value} (h : AVR w S rts pl (.dat (.prod (.int .i64) (.int .i64)) k) v) : v = prV k := by
  obtain ⟨cs, rfl, c1, c2, rfl, h1, h2⟩ := h
  simp only [RO] at h1 h2
  subst h1 h2
  rfl
theorem AVR.mkPri (k : Int × Int) (rts : List (Nat × RT)) : AVR w S rts pl (.dat PRI k) (prV k) := ⟨[.int .i64 k.1, .int .i64 k.2], rfl, [_], [_], rfl, rfl, rfl⟩
theorem BVR.mkPri (k : Int × Int) (rts : List (Nat × RT)) : BVR w S rts pl (.dat PRI k) (prV k) := ⟨[.int .i64 k.1, .int .i64 k.2], rfl, [_], [_], rfl, rfl, rfl⟩
theorem BVR.mkI (n : Int) (rts : List (Nat × RT)) : BVR w S rts pl (.dat (.int .i64) n) (.int .i64 n) := ⟨[_], rfl, rfl⟩
theorem BVR.mkB (b : Bool) (rts : List (Nat × RT)) : BVR w S rts pl (.dat .bool b) (.bool b) := ⟨[_], rfl, rfl⟩
theorem AVR.mkUnit (rts : List (Nat × RT)) : AVR w S rts pl (.tup []) undef := ⟨[], rfl, .nil⟩
theorem unit_lt {n : Nat} : (AV.tup []).lt n := fun _ h => by cases h
theorem tup_lt {l : List AV} {n : Nat} (h : ∀ av ∈ l, av.ids = []) : (AV.tup l).lt n := fun av hav r hr => by rw [h av hav] at hr; cases hr

theorem mp_val {N : Nat} (R : RelAt w0 S0 N dr pc s a w S pl) {o : Oper} {i : Nat} {K : XS → Prop} (hd : ∀ t, o.dst = some t → t < N) (hk : okind o.op = 2) {av : AV} {v : Value} (hrun : (execOp a.eval o).run P w = .ok (.value v) w) (h1 : AVR w S s.rts pl av v) (h2 : av.lt s.nxt) (h3 : av.plain = true)
    (h : K (s.put o.dst av)) : Out P dr o i pc a w (fun pc' a' w' => ∃ s', K s' ∧ Rel w0 S0 N dr pc' s' a' w') := by
  refine Out.two hk ?_
  unfold Oper.wp
  rw [hrun]
  exact ⟨fun _ _ _ _ _ => rfl, _, h, S, pl, R.put hd h1 h2 (AV.plain_new h3)⟩
theorem mp_turn {N : Nat} (R : RelAt w0 S0 N dr pc s a w S pl) {o : Oper} {i : Nat} {K : XS → Prop} (hd : ∀ t, o.dst = some t → t < N) (hk : okind o.op = 2) (hfree : mpFree dr o s = true) {q b : Nat} {f g : MD} (hgv : g.val b = f.val b) (hi : s.get q = some (.mp b f)) {ob : Obj} {w1 : World} (hw1 : w1 = w ∨ w1 = w.drew)
    (hM : MapAt { w1 with heap := w.heap.setIfInBounds b ob } b g) {av : AV} {v : Value}
    (hrun : (execOp a.eval o).run P w = .ok (.value v) { w1 with heap := w.heap.setIfInBounds b ob } ∨ ((execOp a.eval o).run P w = .ok .skip { w1 with heap := w.heap.setIfInBounds b ob } ∧ v = undef))
    (h1 : ∀ w' : World, AVR w' S s.rts pl av v) (h2 : av.lt s.nxt) (h3 : av.plain = true)
    (h : K ({ s with env := mpSet b g s.env }.put o.dst av)) : Out P dr o i pc a w (fun pc' a' w' => ∃ s', K s' ∧ Rel w0 S0 N dr pc' s' a' w') := by
  obtain ⟨_, hSb, o', hb, ho⟩ := (R.env q _ hi).1
  have hlt : b < w.heap.size := (Array.getElem?_eq_some_iff.1 hb).1
  have hold : ∀ n, n ≠ b → (w.heap.setIfInBounds b ob)[n]? = w.heap[n]? := fun n hn => (heap_set hb).2 n hn
  obtain ⟨o2, hb2, ho2⟩ := id hM
  have hb2 : (w.heap.setIfInBounds b ob)[b]? = some o2 := hb2
  have hout : SameOut S0 w { w1 with heap := w.heap.setIfInBounds b ob } := ⟨by rcases hw1 with e | e <;> subst e <;> rfl, fun ad _ _ => by
    unfold World.frozen?
    show (match (w.heap.setIfInBounds b ob)[ad.block]? with | some (.cells _ _ (lo, hi)) => decide (lo ≤ ad.off) && decide (ad.off < hi) | _ => false) = _
    by_cases e : ad.block = b
    · rw [e, hb2, hb]
      cases o2 <;> cases o' <;> first | rfl | exact absurd rfl (MD.not_cells ho2) | exact absurd rfl (MD.not_cells ho)
    · rw [hold _ e]
      rfl, by simp, (fun _ => by rcases hw1 with e | e <;> subst e <;> first | exact Nat.le_refl _ | exact Nat.le_succ _)⟩
  have R1 := R.mapSet hgv hi (w' := { w1 with heap := w.heap.setIfInBounds b ob }) (by rcases hw1 with e | e <;> subst e <;> rfl) (by rcases hw1 with e | e <;> subst e <;> rfl) hout (by simp) hold hM
  have hkept : dr = true → kept o pc w { w1 with heap := w.heap.setIfInBounds b ob } := fun hdr i c hp hw => by
    obtain ⟨q', hq, _⟩ := R.pins hdr i c hp
    unfold mpFree at hfree
    rw [hdr] at hfree
    have hall : s.pins.all (fun x => waitsOn o x.1) = true := by simpa using hfree
    have := List.all_eq_true.1 hall _ hq
    rw [hw] at this
    cases this
  refine Out.two hk ?_
  unfold Oper.wp
  rcases hrun with hrun | ⟨hrun, rfl⟩ <;> rw [hrun]
  · exact ⟨hkept, _, h, S, pl, R1.put hd (h1 _) h2 (AV.plain_new h3)⟩
  · exact ⟨hkept, _, h, S, pl, R1.put hd (h1 _) h2 (AV.plain_new h3)⟩

theorem mpOp_ok {N : Nat} (htt : ttB P C.tt = true) (R : RelAt w0 S0 N dr pc s a w S pl) {o : Oper} {i : Nat} {K : XS → Prop} {m : MpOp} (hd : ∀ t, o.dst = some t → t < N) (hm : mpOp C.tt s o = some m) (h : mpDo dr o K s m) :
    Out P dr o i pc a w (fun pc' a' w' => ∃ s', K s' ∧ Rel w0 S0 N dr pc' s' a' w') := by
  obtain ⟨dst, op, type, pos', after, guard⟩ := o
  cases op <;> simp only [mpOp] at hm <;> try cases hm
  case call c =>
    obtain ⟨callee, args, ats⟩ := c
    cases callee <;> try (cases hm; done)
    rename_i bi
    cases bi <;> try (cases hm; done)
    try dsimp only at hm
    split at hm
    · rename_i x t ha ht
      split at hm
      · rename_i kt vt htt'
        split at hm
        · rename_i b l hx
          cases hm
          obtain ⟨rfl, h⟩ := h
          obtain ⟨e1, _, e3⟩ := (R.ev hx).1
          have e1 : a.eval x = .map (some b) := e1
          obtain ⟨es, g1, g2⟩ := mapAt_prs.1 e3
          have hsz : es.size = l.length := by rw [← Array.length_toList, g2, prsE_len]
          obtain rfl : args = #[x] := Array.toList_inj.1 ha
          obtain rfl : ats = #[t] := Array.toList_inj.1 ht
          have hu := (mapP_te (ttB_get htt htt')).hm
          have hlen : (Builtin.len_ #[t] type #[.map (some b)]).run P w = .ok (goInt l.length) w := by
            rw [← hsz]
            exact run_len_map w t type b es _ (by unfold Program.mapKeyOf Program.mapElemOf; rw [hu]) g1
          have hrun : (execOp a.eval { dst, op := .call { callee := .builtin .len, args := #[x], argTypes := #[t] }, type, pos := pos', after, guard }).run P w = .ok (.value (.int .i64 (l.length : Int))) w := exec_val rfl (by simp [e1]; exact hlen)
          refine .inr ⟨rfl, ?_⟩
          unfold Oper.wp
          rw [hrun]
          exact ⟨_, h, S, pl, R.put hd (AVR.mkInt _ _ _) AV.lt_dat (AV.plain_new rfl)⟩
        · cases hm
      · cases hm
    · cases hm
  case makeMap t r =>
    cases r with
    | some _ => cases hm
    | none =>
    simp only at hm
    split at hm
    · cases hm
      obtain ⟨rfl, h⟩ := h
      refine Out.two rfl ?_
      have hrun : (execOp a.eval { dst, op := .makeMap t none, type, pos := pos', after, guard }).run P w = .ok (.value (.map (some w.heap.size))) (w.alloc (.map #[] 0)) := exec_val rfl rfl
      unfold Oper.wp
      rw [hrun]
      exact ⟨(fun h => by cases h), _, h w.heap.size (newBl_ok R (Nat.le_refl _) _), _, pl, R.newMap rfl hd (md := .ints fun _ => 0) ⟨fun e he => by simp at he, fun k => rfl⟩⟩
    · cases hm
      obtain ⟨rfl, h⟩ := h
      refine Out.two rfl ?_
      have hrun : (execOp a.eval { dst, op := .makeMap t none, type, pos := pos', after, guard }).run P w = .ok (.value (.map (some w.heap.size))) (w.alloc (.map #[] 0)) := exec_val rfl rfl
      unfold Oper.wp
      rw [hrun]
      exact ⟨(fun h => by cases h), _, h w.heap.size (newBl_ok R (Nat.le_refl _) _), _, pl, R.newMap rfl hd (md := .prs []) ⟨rfl, rfl⟩⟩
    · cases hm
  case lookup t x k ok =>
    cases ok with
    | true => cases hm
    | false =>
    simp only at hm
    split at hm
    · rename_i kt vt ht
      split at hm
      · rename_i b f n hx hk
        cases hm
        obtain ⟨e1, _, e3⟩ := (R.ev hx).1
        have e2 : a.eval k = .int .i64 n := (R.ev hk).1.int
        have e1 : a.eval x = .map (some b) := e1
        exact mp_val R hd rfl (exec_val rfl (by rw [e1, e2]; exact run_get (map_te (ttB_get htt ht)) e3)) (AVR.mkInt _ _ _) AV.lt_dat rfl h
      · cases hm
    · rename_i kt vt ht
      split at hm
      · rename_i b l k' hx hk
        cases hm
        obtain ⟨e1, _, e3⟩ := (R.ev hx).1
        have e2 : a.eval k = prV k' := AVR.pri (R.ev hk).1
        have e1 : a.eval x = .map (some b) := e1
        exact mp_val R hd rfl (exec_val rfl (by rw [e1, e2]; exact run_get_pr (mapP_te (ttB_get htt ht)) (mapAt_prs.1 e3) _)) (AVR.mkInt _ _ _) AV.lt_dat rfl h
      · cases hm
    · cases hm
  case mapUpdate t x k v =>
    split at hm
    · rename_i kt vt ht
      split at hm
      · rename_i b f n m' hx hk hv
        cases hm
        obtain ⟨hf, h⟩ := h
        obtain ⟨e1, e4, e3⟩ := (R.ev hx).1
        have e1 : a.eval x = .map (some b) := e1
        have e2 : a.eval k = .int .i64 n := (R.ev hk).1.int
        have e5 : a.eval v = .int .i64 m' := (R.ev hv).1.int
        obtain ⟨ob, hr, hM⟩ := run_upd (n := n) (m := m') (map_te (ttB_get htt ht)) e3
        obtain ⟨q, hi⟩ := ev_slotM hx
        exact mp_turn R hd rfl hf (f := .ints f) (g := .ints fun j => if j = n then m' else f j) rfl hi (.inl rfl) hM (.inr ⟨(exec_unit (x := Instr.mapUpdate t (a.eval x) (a.eval k) (a.eval v)) (v := undef) rfl (by rw [e1, e2, e5, hr])).1, rfl⟩) (fun _ => AVR.mkUnit _) unit_lt rfl h
      · cases hm
    · rename_i kt vt ht
      split at hm
      · rename_i b l k' m' hx hk hv
        cases hm
        obtain ⟨hf, h⟩ := h
        obtain ⟨e1, e4, e3⟩ := (R.ev hx).1
        have e1 : a.eval x = .map (some b) := e1
        have e2 : a.eval k = prV k' := AVR.pri (R.ev hk).1
        have e5 : a.eval v = .int .i64 m' := (R.ev hv).1.int
        obtain ⟨ob, hr, hM⟩ := run_upd_pr (mapP_te (ttB_get htt ht)) (mapAt_prs.1 e3) k' m'
        obtain ⟨q, hi⟩ := ev_slotM hx
        exact mp_turn R hd rfl hf (f := .prs l) (g := .prs (setP l k' m')) rfl hi (.inl rfl) (mapAt_prs.2 hM) (.inr ⟨(exec_unit (x := Instr.mapUpdate t (a.eval x) (a.eval k) (a.eval v)) (v := undef) rfl (by rw [e1, e2, e5, hr])).1, rfl⟩) (fun _ => AVR.mkUnit _) unit_lt rfl h
      · cases hm
    · cases hm
  case mapEntry t x k =>
    split at hm
    · rename_i kt vt ht
      split at hm
      · rename_i b l k' hx hk
        cases hm
        obtain ⟨hf, h⟩ := h
        obtain ⟨e1, e4, e3⟩ := (R.ev hx).1
        have e1 : a.eval x = .map (some b) := e1
        have e2 : a.eval k = prV k' := AVR.pri (R.ev hk).1
        obtain ⟨ob, hr, hM⟩ := run_ent_pr (mapP_te (ttB_get htt ht)) (mapAt_prs.1 e3) k'
        obtain ⟨q, hi⟩ := ev_slotM hx
        exact mp_turn R hd rfl hf (f := .prs l) (g := .prs (entP l k')) rfl hi (.inl rfl) (mapAt_prs.2 hM) (av := .tup [.dat (.int .i64) (getP l k'), .dat (.int .i64) (idxP l k' : Int)]) (.inl (exec_val rfl (by rw [e1, e2]; exact hr))) (fun _ => ⟨[_, _], rfl, .cons (BVR.mkI _ _) (.cons (BVR.mkI _ _) .nil)⟩) (tup_lt fun av hav => by
          simp only [List.mem_cons, List.not_mem_nil, or_false] at hav
          rcases hav with rfl | rfl <;> rfl) rfl h
      · cases hm
    · cases hm
  case entryStore t x j v =>
    split at hm
    · rename_i kt vt ht
      split at hm
      · rename_i b l j' m' hx hj hv
        cases hm
        obtain ⟨hf, ⟨h0, h1⟩, h⟩ := h
        obtain ⟨e1, e4, e3⟩ := (R.ev hx).1
        have e1 : a.eval x = .map (some b) := e1
        have e2 : a.eval j = goInt ((j'.toNat : Nat) : Int) := by
          rw [show ((j'.toNat : Nat) : Int) = j' by omega]
          exact (R.ev hj).1.int
        have e5 : a.eval v = .int .i64 m' := (R.ev hv).1.int
        obtain ⟨ob, hr, hM⟩ := run_sto_pr (P := P) (t := t) (mapAt_prs.1 e3) (show j'.toNat < l.length by omega) m'
        obtain ⟨q, hi⟩ := ev_slotM hx
        exact mp_turn R hd rfl hf (f := .prs l) (g := .prs (putP l j'.toNat m')) rfl hi (.inl rfl) (mapAt_prs.2 hM) (.inr ⟨(exec_unit (x := Instr.entryStore t (a.eval x) (a.eval j) (a.eval v)) (v := undef) rfl (by rw [e1, e2, e5, hr])).1, rfl⟩) (fun _ => AVR.mkUnit _) unit_lt rfl h
      · cases hm
    · cases hm
  case range t x =>
    split at hm
    · rename_i kt vt ht
      split at hm
      · rename_i b l hx
        cases hm
        obtain ⟨rfl, h⟩ := h
        obtain ⟨e1, e4, e3⟩ := (R.ev hx).1
        have e1 : a.eval x = .map (some b) := e1
        refine Out.two rfl ?_
        have hrun : (execOp a.eval { dst, op := .range t x, type, pos := pos', after, guard }).run P w = .ok (.value (.pointer (some ⟨w.heap.size, 0, none⟩))) (w.alloc (.mapIter (some b) l.length #[] l.length)) := exec_val rfl (by rw [e1]; exact run_range_pr (mapP_te (ttB_get htt ht)) (mapAt_prs.1 e3))
        unfold Oper.wp
        rw [hrun]
        exact ⟨(fun h => by cases h), _, h w.heap.size (newBl_ok R (Nat.le_refl _) _), _, pl, R.newMap rfl hd (md := .look b l.length []) ⟨rfl, rfl, rfl, rfl⟩⟩
      · cases hm
    · cases hm
  case next x st =>
    cases st with
    | true => cases hm
    | false =>
    simp only at hm
    split at hm
    · rename_i ib b n seen hx
      split at hm
      · rename_i l hl
        split at hm
        · rename_i hn
          cases hm
          subst hn
          obtain ⟨rfl, ha, hb⟩ := h
          obtain ⟨e1, e4, e3⟩ := (R.ev hx).1
          have e1 : a.eval x = .pointer (some ⟨ib, 0, none⟩) := e1
          obtain ⟨q, hq⟩ := mapIn_get hl
          obtain ⟨_, _, g3⟩ := (R.env q _ hq).1
          rcases run_next_pr (P := P) (ty := type) (mapAt_prs.1 g3) (mapAt_look.1 e3) with ⟨hall, hr⟩ | ⟨j, hj, hjs, w1, hw1, hr⟩
          · exact mp_val R hd rfl (av := .tup [.dat .bool false]) (exec_val rfl (by rw [e1]; exact hr)) ⟨[_], rfl, .cons (BVR.mkB _ _) .nil⟩ (tup_lt fun av hav => by
              simp only [List.mem_cons, List.not_mem_nil, or_false] at hav
              subst hav; rfl) rfl (ha hall)
          · obtain ⟨q2, hi⟩ := ev_slotM hx
            have hlt : ib < w.heap.size := by
              obtain ⟨o', ho', _⟩ := e3
              exact (Array.getElem?_eq_some_iff.1 ho').1
            exact mp_turn R hd rfl rfl (f := .look b l.length seen) rfl hi hw1 (av := .tup [.dat .bool true, .dat PRI (l.getD j ((0, 0), 0)).1, .dat (.int .i64) (l.getD j ((0, 0), 0)).2]) (g := .look b l.length (seen ++ [j])) (mapAt_look.2 (by
                show (w.heap.setIfInBounds ib _)[ib]? = _
                simp [hlt]
                rfl)) (.inl (exec_val rfl (by rw [e1]; exact hr))) (fun _ => ⟨[_, _, _], rfl, .cons (BVR.mkB _ _) (.cons (BVR.mkPri _ _) (.cons (BVR.mkI _ _) .nil))⟩) (tup_lt fun av hav => by
              simp only [List.mem_cons, List.not_mem_nil, or_false] at hav
              rcases hav with rfl | rfl | rfl <;> rfl) rfl (hb j hj hjs)
        · cases hm
      · cases hm
    · cases hm
  case entry x =>
    split at hm
    · rename_i ib b n seen hx
      split at hm
      · rename_i l j hl hj
        split at hm
        · rename_i hn
          cases hm
          subst hn
          obtain ⟨rfl, hjl, h⟩ := h
          obtain ⟨e1, e4, e3⟩ := (R.ev hx).1
          have e1 : a.eval x = .pointer (some ⟨ib, 0, none⟩) := e1
          obtain ⟨q, hq⟩ := mapIn_get hl
          obtain ⟨_, _, g3⟩ := (R.env q _ hq).1
          obtain ⟨seen', rfl⟩ : ∃ s', seen = s' ++ [j] := List.getLast?_eq_some_iff.1 hj
          have hr := run_entry_pr (P := P) (mapAt_prs.1 g3) hjl (mapAt_look.1 e3)
          exact mp_val R hd rfl (av := .tup [.dat PRI (l.getD j ((0, 0), 0)).1, .dat (.int .i64) (l.getD j ((0, 0), 0)).2]) (exec_val rfl (by rw [e1]; exact hr)) ⟨[_, _], rfl, .cons (BVR.mkPri _ _) (.cons (BVR.mkI _ _) .nil)⟩ (tup_lt fun av hav => by
              simp only [List.mem_cons, List.not_mem_nil, or_false] at hav
              rcases hav with rfl | rfl <;> rfl) rfl h
        · cases hm
      · cases hm
    · cases hm
end
end Fer

namespace Fer
open Go

inductive AVRs (w : World) (S : Nat → Prop) (rts : List (Nat × RT)) (pl : Nat → PL) (n : Nat) : List AV → List Value → Prop
  | nil : AVRs w S rts pl n [] []
  | cons {x v xs vs} (h : AVR w S rts pl x v) (hl : x.lt n) (t : AVRs w S rts pl n xs vs) : AVRs w S rts pl n (x :: xs) (v :: vs)

theorem AVRs.app {w : World} {S : Nat → Prop} {rts : List (Nat × RT)} {pl : Nat → PL} {n : Nat} {xs ys : List AV} {vs us : List Value} (h : AVRs w S rts pl n xs vs) (h' : AVRs w S rts pl n ys us) : AVRs w S rts pl n (xs ++ ys) (vs ++ us) := by
  induction h with
  | nil => exact h'
  | cons h1 h2 _ ih => exact .cons h1 h2 ih

def rsF (pl : Nat → PL) : List Nat → Nat → Prop
  | [] => noF
  | r :: rs => fun n => (pl r).F n ∨ rsF pl rs n
theorem rsF_mem {pl : Nat → PL} : ∀ {rs : List Nat} {n : Nat}, rsF pl rs n ↔ ∃ r ∈ rs, (pl r).F n
  | [], n => by simp [rsF, noF]
  | r :: rs, n => by simp [rsF, rsF_mem]

theorem killAll_root {rs : List Nat} : ∀ {s : XS} {q : Nat} {rt : RT}, (killAll rs s).root q = some rt ↔ q ∉ rs ∧ s.root q = some rt := by
  induction rs with
  | nil => intro s q rt; simp [killAll]
  | cons r rs ih =>
    intro s q rt
    simp only [killAll, ih, List.mem_cons, not_or]
    constructor
    · rintro ⟨h1, h2⟩
      obtain ⟨h3, h4⟩ := lk_rm_some h2
      exact ⟨⟨h3, h1⟩, h4⟩
    · rintro ⟨⟨h1, h2⟩, h3⟩
      exact ⟨h2, by show lk (rm s.rts r) q = _; rw [lk_rm_ne h1]; exact h3⟩
theorem killAll_same {rs : List Nat} : ∀ {s : XS}, (killAll rs s).env = s.env ∧ (killAll rs s).nxt = s.nxt ∧ (killAll rs s).pins = s.pins := by
  induction rs with
  | nil => intro s; exact ⟨rfl, rfl, rfl⟩
  | cons r rs ih => intro s; exact ih

section
variable {P : Program} {C : Ctx} {w0 : World} {S0 : Nat → Prop} {N : Nat} {dr : Bool} {pc : Pins} {s : XS} {a : Act} {w w' : World} {S : Nat → Prop} {pl : Nat → PL}

theorem RelAt.killAll (rs : List Nat) : ∀ {s : XS}, RelAt w0 S0 N dr pc s a w S pl → RelAt w0 S0 N dr pc (killAll rs s) a w S pl := by
  induction rs with
  | nil => exact fun h => h
  | cons r rs ih => exact fun h => ih (h.kill r)

theorem addr0 (e : Nat) (t : Ty) (ct : CT) : (addrOf [0] (.list e t) ct (0, 0)).2 = 0 := by
  cases ct <;> simp [addrOf]

theorem RelAt.name {n r b : Nat} (R : RelAt w0 S0 N dr pc s a w S pl) (hr : r < s.nxt) (hb : ∀ rt, s.root r = some rt → addrOf [0] rt.ty (pl r).ct (0, 0) = (b, 0)) :
    RelAt w0 S0 N dr pc { s with env := (n, .loc r b) :: s.env } a w S pl := by
  refine { defers := R.defers, size := R.size, os := R.os, tape := R.tape, output := R.output, grow := R.grow, stay := R.stay, base := R.base, lt := R.lt, own := R.own, Flt := R.Flt, disj := R.disj, ids := R.ids, env := fun i av h => ?_, pins := R.pins, news := fun i c f h => ?_ }
  · simp only [XS.get, lk] at h
    split at h
    · cases h
      exact ⟨hb, fun q hq => by simp only [AV.ids, List.mem_singleton] at hq; subst hq; exact hr⟩
    · exact R.env i av h
  · simp only [XS.get, lk] at h
    split at h
    · cases h
    · exact R.news i c f h

theorem locOf_ok (R : RelAt w0 S0 N dr pc s a w S pl) {r b : Nat} (h : locOf s r = some b) : ∀ rt, s.root r = some rt → addrOf [0] rt.ty (pl r).ct (0, 0) = (b, 0) := by
  unfold locOf at h
  split at h
  · rename_i i _ _
    split at h
    · rename_i q c hq
      split at h
      · rename_i e
        subst e
        cases h
        exact (R.env i _ hq).1
      · cases h
    · cases h
  · cases h

theorem named_ok {n : Nat} : ∀ (rs : List Nat) {K : List Nat → XS → Prop} {s : XS}, RelAt w0 S0 N dr pc s a w S pl → named n rs K s →
    ∃ bl s1, K bl s1 ∧ RelAt w0 S0 N dr pc s1 a w S pl ∧ s1.rts = s.rts ∧ s1.nxt = s.nxt ∧ s1.pins = s.pins ∧ bl.length = rs.length ∧
      ∀ (i r b : Nat), rs[i]? = some r → bl[i]? = some b → ∀ rt, s.root r = some rt → addrOf [0] rt.ty (pl r).ct (0, 0) = (b, 0)
  | [], K, s, R, h => ⟨[], s, h, R, rfl, rfl, rfl, rfl, fun i r b h => by simp at h⟩
  | r :: rs, K, s, R, h => by
    simp only [named] at h
    split at h
    · rename_i b hb
      obtain ⟨bl, s1, h1, R1, e1, e2, e3, e4, e5⟩ := named_ok rs R h
      refine ⟨b :: bl, s1, h1, R1, e1, e2, e3, by simp [e4], fun i q c hq hc rt hrt => ?_⟩
      cases i with
      | zero =>
        simp only [List.getElem?_cons_zero, Option.some.injEq] at hq hc
        subst hq; subst hc
        exact locOf_ok R hb rt hrt
      | succ i =>
        simp only [List.getElem?_cons_succ] at hq hc
        exact e5 i q c hq hc rt hrt
    · obtain ⟨hlt, h⟩ := h
      obtain ⟨b, hb⟩ : ∃ b, ∀ rt, s.root r = some rt → addrOf [0] rt.ty (pl r).ct (0, 0) = (b, 0) := by
        cases hr : s.root r with
        | none => exact ⟨0, fun rt h => by cases h⟩
        | some rt => exact ⟨(addrOf [0] rt.ty (pl r).ct (0, 0)).1, fun rt' h => by cases h; exact Prod.ext rfl (addr0 _ _ _)⟩
      obtain ⟨bl, s1, h1, R1, e1, e2, e3, e4, e5⟩ := named_ok rs (R.name (n := n + 64 + r) hlt hb) (h b)
      refine ⟨b :: bl, s1, h1, R1, e1, e2, e3, by simp [e4], fun i q c hq hc rt hrt => ?_⟩
      cases i with
      | zero =>
        simp only [List.getElem?_cons_zero, Option.some.injEq] at hq hc
        subst hq; subst hc
        exact hb rt hrt
      | succ i =>
        simp only [List.getElem?_cons_succ] at hq hc
        exact e5 i q c hq hc rt hrt

theorem stBox_some {s : XS} {e r : Nat} {t : Ty} {al : Bool} {v : TV} (h : stBox s e t al r = some v) : ∃ (rt : RT) (x : rt.t.den), s.root r = some rt ∧ rt.x = [x] ∧ rt.h = none ∧ rt.e = e ∧ rt.t = t ∧ t.lev ≤ rt.k ∧ t.roOK = true ∧ (al = true → oneOf s r = true) ∧ v = ⟨rt.t, x⟩ := by
  unfold stBox at h
  split at h
  · rename_i rt hr
    split at h
    · rename_i x hx hh
      split at h
      · rename_i hc
        cases h
        exact ⟨rt, x, hr, hx, hh, hc.1, hc.2.1, hc.2.2.1, hc.2.2.2.1, hc.2.2.2.2, rfl⟩
      · cases h
    · cases h
  · cases h
theorem stBoxes_cons {s : XS} {p : PA} {e : Nat} {t : Ty} {al : Bool} (hp : (p = .box e t ∨ p = .gho e t) ∧ al = false ∨ (p = .one e t ∨ p = .gone e t) ∧ al = true) {ps : List PA} {rs : List Nat} {l : List TV} (h : stBoxes s (p :: ps) rs = some l) :
    ∃ r rs' v l', rs = r :: rs' ∧ l = v :: l' ∧ stBox s e t al r = some v ∧ stBoxes s ps rs' = some l' := by
  have key : ∀ r rs', (match stBox s e t al r, stBoxes s ps rs' with | some v, some l => some (v :: l) | _, _ => none) = some l → ∃ v l', l = v :: l' ∧ stBox s e t al r = some v ∧ stBoxes s ps rs' = some l' := fun r rs' h => by
    cases h1 : stBox s e t al r with
    | none => rw [h1] at h; simp at h
    | some v =>
      cases h2 : stBoxes s ps rs' with
      | none => rw [h1, h2] at h; simp at h
      | some l' =>
        rw [h1, h2] at h
        cases h
        exact ⟨v, l', rfl, rfl, rfl⟩
  rcases hp with ⟨rfl | rfl, rfl⟩ | ⟨rfl | rfl, rfl⟩ <;> cases rs with
  | nil => simp [stBoxes] at h
  | cons r rs' =>
    obtain ⟨v, l', h1, h2, h3⟩ := key r rs' h
    exact ⟨r, rs', v, l', rfl, h1, h2, h3⟩
theorem stBoxes_root {s : XS} : ∀ (ps : List PA) (rs : List Nat) (l : List TV), stBoxes s ps rs = some l → ∀ q ∈ rs, ∃ qt, s.root q = some qt := by
  intro ps
  induction ps with
  | nil => intro rs l h q hq; cases rs with
    | nil => cases hq
    | cons => simp [stBoxes] at h
  | cons p ps ih =>
    intro rs l h q hq
    have go : ∀ {e : Nat} {t : Ty} {al : Bool}, ((p = .box e t ∨ p = .gho e t) ∧ al = false ∨ (p = .one e t ∨ p = .gone e t) ∧ al = true) → ∃ qt, s.root q = some qt := fun hp => by
      obtain ⟨r, rs', v, l', rfl, rfl, h1, h2⟩ := stBoxes_cons hp h
      rcases List.mem_cons.1 hq with rfl | hq
      · obtain ⟨rt, _, hr, _⟩ := stBox_some h1
        exact ⟨rt, hr⟩
      · exact ih rs' l' h2 q hq
    cases p with
    | val => exact ih rs l h q hq
    | cap => exact ih rs l h q hq
    | capl => exact ih rs l h q hq
    | box e t => exact go (.inl ⟨.inl rfl, rfl⟩)
    | gho e t => exact go (.inl ⟨.inr rfl, rfl⟩)
    | one e t => exact go (.inr ⟨.inl rfl, rfl⟩)
    | gone e t => exact go (.inr ⟨.inr rfl, rfl⟩)
theorem stRoots_cons {G : List (Nat × RT)} {p : PA} {e : Nat} {t : Ty} (hp : p = .box e t ∨ p = .one e t ∨ p = .gone e t) {ps : List PA} {xs : List AV} {rs : List Nat} (h : stRoots G (p :: ps) xs = some rs) :
    ∃ r xs' rs', xs = .ptr r [0] :: xs' ∧ rs = r :: rs' ∧ stRoots G ps xs' = some rs' := by
  have key : ∀ r xs', (match stRoots G ps xs' with | some l => some (r :: l) | none => none) = some rs → ∃ rs', rs = r :: rs' ∧ stRoots G ps xs' = some rs' := fun r xs' h => by
    cases h1 : stRoots G ps xs' with
    | none => rw [h1] at h; simp at h
    | some l => rw [h1] at h; cases h; exact ⟨l, rfl, rfl⟩
  rcases hp with rfl | rfl | rfl
  all_goals
    cases xs with
    | nil => simp [stRoots] at h
    | cons x xs' =>
      match x, h with
      | .ptr r [0], h =>
        simp only [stRoots] at h
        obtain ⟨rs', h1, h2⟩ := key r xs' h
        exact ⟨r, xs', rs', rfl, h1, h2⟩
      | .dat .., h => simp [stRoots] at h
      | .ref .., h => simp [stRoots] at h
      | .sub .., h => simp [stRoots] at h
      | .rptr .., h => simp [stRoots] at h
      | .rpl .., h => simp [stRoots] at h
      | .clo .., h => simp [stRoots] at h
      | .tup .., h => simp [stRoots] at h
      | .agg .., h => simp [stRoots] at h
      | .mp .., h => simp [stRoots] at h
      | .loc .., h => simp [stRoots] at h
      | .one .., h => simp [stRoots] at h
      | .junk, h => simp [stRoots] at h
      | .ptr _ [], h => simp [stRoots] at h
      | .ptr _ ((_ + 1) :: _), h => simp [stRoots] at h
      | .ptr _ (0 :: _ :: _), h => simp [stRoots] at h
theorem stRoots_gho {G : List (Nat × RT)} {e : Nat} {t : Ty} {ps : List PA} {xs : List AV} {rs : List Nat} (h : stRoots G (.gho e t :: ps) xs = some rs) : ∃ r rs', rs = r :: rs' ∧ stRoots G ps xs = some rs' := by
  simp only [stRoots] at h
  split at h
  · rename_i r l _ h2
    cases h
    exact ⟨r, l, rfl, h2⟩
  · cases h
theorem blksOf_get {nm : List (Nat × Nat)} : ∀ {cs bl : List Nat}, blksOf nm cs = some bl → bl.length = cs.length ∧ ∀ (i : Nat) (c b : Nat), cs[i]? = some c → bl[i]? = some b → lk nm c = some b
  | [], bl, h => by
    simp only [blksOf, Option.some.injEq] at h
    subst h
    exact ⟨rfl, fun i c b hc => by simp at hc⟩
  | c :: cs, bl, h => by
    simp only [blksOf] at h
    split at h
    · rename_i b l h1 h2
      cases h
      obtain ⟨g1, g2⟩ := blksOf_get h2
      refine ⟨by simp [g1], fun i c' b' hc hb => ?_⟩
      cases i with
      | zero =>
        simp only [List.getElem?_cons_zero, Option.some.injEq] at hc hb
        subst hc hb
        exact h1
      | succ i => exact g2 i c' b' (by simpa using hc) (by simpa using hb)
    · cases h
theorem lk_zip {rs bl : List Nat} {r b : Nat} (h : lk (rs.zip bl) r = some b) : ∃ i : Nat, rs[i]? = some r ∧ bl[i]? = some b := by
  induction rs generalizing bl with
  | nil => simp [lk] at h
  | cons a rs ih =>
    cases bl with
    | nil => simp [lk] at h
    | cons c bl =>
      simp only [List.zip_cons_cons, lk] at h
      split at h
      · rename_i e
        cases h
        exact ⟨0, by simp [e], by simp⟩
      · obtain ⟨i, h1, h2⟩ := ih h
        exact ⟨i + 1, by simpa using h1, by simpa using h2⟩

theorem oneOf_ok {w0 : World} {S0 : Nat → Prop} {N : Nat} {dr : Bool} {pc : Pins} {s : XS} {a : Act} {w : World} {S : Nat → Prop} {pl : Nat → PL} (R : RelAt w0 S0 N dr pc s a w S pl) {r : Nat} (h : oneOf s r = true) : ∀ rt, s.root r = some rt → ∃ b, hdr (pl r).ct rt.x.length = .slice (some ⟨b, 0, none⟩) 1 1 := by
  unfold oneOf at h
  split at h
  · rename_i i _
    split at h
    · rename_i q hq
      have e : q = r := by simpa using h
      subst e
      intro rt hrt
      obtain ⟨b, hb⟩ := (R.env i _ hq).1 rt hrt
      exact ⟨b, hb⟩
    · cases h
  · cases h

theorem distinctL_cons {r : Nat} {rs : List Nat} (h : distinctL (r :: rs) = true) : r ∉ rs ∧ distinctL rs = true := by
  simp only [distinctL, Bool.and_eq_true, List.all_eq_true] at h
  exact ⟨fun hm => by have := h.1 r hm; simp at this, h.2⟩

theorem cell_node (R : RelAt w0 S0 N dr pc s a w S pl) {r : Nat} {rt : RT} (hr : s.root r = some rt) {x : rt.t.den} (hx : rt.x = [x]) (hh : rt.h = none) (hk : rt.t.lev ≤ rt.k) {T : Nat → Prop} (hT : ∀ n, S n → T n) :
    ∃ b cap kids hv, (pl r).ct = .node b cap kids ∧ Own w T (.list rt.e rt.t) (rt.t.lev + 1) [x] none (.node b cap kids) [hv] (pl r).F := by
  obtain ⟨hv, H⟩ := R.own r rt hr
  rw [hh, hx] at H
  have H2 : Own w T (.list rt.e rt.t) (rt.t.lev + 1) [x] none (pl r).ct [hv] (pl r).F := own_full' hT (by simp only [Ty.lev]; omega) (by simp only [Ty.lev]; omega) H
  rcases own_inv H2 with ⟨_, q, _⟩ | ⟨b, cap, kids, _, _, q1, _⟩
  · cases q
  · exact ⟨b, cap, kids, hv, q1, q1 ▸ H2⟩

theorem own_un1 {w w' : World} {S : Nat → Prop} (hS : ∀ b, S b → w'.heap[b]? = w.heap[b]?) {e e0 k k0 : Nat} {t : Ty} {x y : t.den} {ct ct0 : CT} {cs cs0 : List Value} {F F0 : Nat → Prop} (ht : t.roOK = true) (hk : t.lev ≤ k)
    (H0 : Own w S (.list e0 t) (k0 + 1) [x] none ct0 cs0 F0) (H : Own w' noS (.list e t.er) (t.lev + 1) [erV t y] none ct cs F) (hs : roSame t x y) : Own w' S (.list e t) (k + 1) [y] none ct cs F := by
  rcases own_inv H0 with ⟨_, h, _⟩ | ⟨b0, cap0, kids0, arr0, Fs0, rfl, _, _, _, _, _, _, _, _, g0⟩
  · cases h
  rcases own_inv H with ⟨_, h, _⟩ | ⟨b, cap, kids, arr, Fs, rfl, hv, q2, q3, h4, h5', g1, g2, g3, g4⟩
  · cases h
  · rw [width_er] at h5'
    refine .inr ⟨by simp, hv, q2, q3, arr, h4, h5', Fs, g1, g2, g3, fun i hi => ?_⟩
    have hi0 : i = 0 := by simpa using hi
    subst hi0
    rw [hsub_none]
    have H1 := g4 0 (by simp)
    rw [width_er] at H1
    exact own_un hS (t := t) ht (Nat.le_refl _) hk (g0 0 (by simp)) H1 hs
theorem sameTV_ro {t : Ty} {x y : t.den} (h : sameTV ⟨t, x⟩ ⟨t, y⟩) : roSame t x y := by
  unfold sameTV at h
  split at h
  · rename_i hn
    exact roSame_noRo _ _ hn
  · rw [castV_self] at h
    exact h
theorem stArgs_ok {G : List (Nat × RT)} {nm : List (Nat × Nat)} {rs0 : List Nat} (R : RelAt w0 S0 N dr pc s a w S pl) {T : Nat → Prop} (hS : ∀ n, S n → T n)
    (hT : ∀ r rt n, (killAll rs0 s).root r = some rt → (pl r).F n → T n) (hnm : ∀ r b, lk nm r = some b → ∃ rt, s.root r = some rt ∧ addrOf [0] rt.ty (pl r).ct (0, 0) = (b, 0)) :
    ∀ (pat : List PA) (xs : List AV) (vs : List Value) (rs bl : List Nat) (p : Prop) (vals boxes : List TV), stRoots G pat xs = some rs → AVRs w S s.rts pl s.nxt xs vs → stVals nm (killAll rs0 s) pat xs = some (p, vals) → p → stBoxes s pat rs = some boxes →
      distinctL rs = true → bl.length = rs.length → (∀ (i r b : Nat), rs[i]? = some r → bl[i]? = some b → ∀ rt, s.root r = some rt → addrOf [0] rt.ty (pl r).ct (0, 0) = (b, 0)) → StArgs w T pat bl vals boxes vs (rsF pl rs)
  | [], [], vs, rs, bl, p, vals, boxes, h1, h2, h3, hp, h4, hd, hl, hb => by
    simp only [stRoots, Option.some.injEq] at h1
    subst h1
    simp only [stVals, Option.some.injEq, Prod.mk.injEq] at h3
    obtain ⟨_, rfl⟩ := h3
    simp only [stBoxes, Option.some.injEq] at h4
    subst h4
    cases h2
    obtain rfl : bl = [] := List.eq_nil_of_length_eq_zero hl
    exact .nil
  | [], _ :: _, _, _, _, _, _, _, h1, _, _, _, _, _, _, _ => by simp [stRoots] at h1
  | .val t :: ps, [], _, _, _, _, _, _, h1, _, _, _, _, _, _, _ => by simp [stRoots] at h1
  | .cap t :: ps, [], _, _, _, _, _, _, h1, _, _, _, _, _, _, _ => by simp [stRoots] at h1
  | .capl t :: ps, [], _, _, _, _, _, _, h1, _, _, _, _, _, _, _ => by simp [stRoots] at h1
  | .box e t :: ps, [], _, _, _, _, _, _, h1, _, _, _, _, _, _, _ => by simp [stRoots] at h1
  | .one e t :: ps, [], _, _, _, _, _, _, h1, _, _, _, _, _, _, _ => by simp [stRoots] at h1
  | .gone e t :: ps, [], _, _, _, _, _, _, h1, _, _, _, _, _, _, _ => by simp [stRoots] at h1
  | .gho e t :: ps, xs, vs, rs, bl, p, vals, boxes, h1, h2, h3, hp, h4, hd, hl, hb => by
    obtain ⟨r, rs', rfl, hs⟩ := stRoots_gho h1
    obtain ⟨r2, rs2, bv, l, er, rfl, hbx1, hbx⟩ := stBoxes_cons (e := e) (t := t) (al := false) (by simp) h4
    cases er
    obtain ⟨rt, y, hr, hy, hh, rfl, rfl, hk, hok, hal, rfl⟩ := stBox_some hbx1
    simp only [stVals] at h3
    obtain ⟨hn, hd'⟩ := distinctL_cons hd
    match bl, hl with
    | b :: bl, hl =>
      obtain ⟨b1, cap, kids, hv, e1, H⟩ := cell_node R hr hy hh hk hS
      have hadr := hb 0 r b rfl rfl rt hr
      have : b1 = b := by
        rw [e1] at hadr
        simp only [RT.ty, addrOf, Prod.mk.injEq] at hadr
        exact hadr.1
      subst this
      refine .gho H (fun n hG hF => ?_) (stArgs_ok R hS hT hnm ps xs vs rs' bl p vals l hs h2 h3 hp hbx hd' (by simpa using hl) fun i q c hq hc => hb (i + 1) q c (by simpa using hq) (by simpa using hc))
      obtain ⟨q, hq, hqF⟩ := rsF_mem.1 hF
      obtain ⟨qt, hqt⟩ := stBoxes_root ps rs' l hbx q hq
      have := R.disj r q rt qt n hr hqt hG hqF
      subst this
      exact hn hq
  | .val t :: ps, x :: xs, v :: vs, rs, bl, p, vals, boxes, h1, .cons hx hlt h2, h3, hp, h4, hd, hl, hb => by
    simp only [stRoots] at h1
    simp only [stBoxes] at h4
    simp only [stVals] at h3
    cases ha : argN nm (killAll rs0 s) t x with
    | none => rw [ha] at h3; simp at h3
    | some pv =>
      obtain ⟨p1, tv⟩ := pv
      rw [ha] at h3
      cases hv : stVals nm (killAll rs0 s) ps xs with
      | none => rw [hv] at h3; simp at h3
      | some ql =>
        obtain ⟨q, l⟩ := ql
        rw [hv] at h3
        simp only [Option.some.injEq, Prod.mk.injEq] at h3
        obtain ⟨rfl, rfl⟩ := h3
        have hx' : AVR w S (killAll rs0 s).rts pl x v := hx.frame (n := s.nxt) (fun b hb => ⟨hb, rfl⟩) (fun r _ => by
          cases hr : lk (killAll rs0 s).rts r with
          | none => exact .inl rfl
          | some rt => exact .inr ⟨((killAll_root.1 hr).2).symm ▸ rfl, rfl⟩) hlt
        have key : argAV (killAll rs0 s) t x = some (p1, tv) → StArgs w T (.val t :: ps) bl (tv :: l) boxes (v :: vs) (rsF pl rs) := fun ha => by
          obtain ⟨y, u, rfl, e1, e2⟩ := argAV_S (R.killAll rs0) hS hT hx' ha hp.1
          rw [e1]
          exact .val e2 (stArgs_ok R hS hT hnm ps xs vs rs bl q l boxes h1 h2 hv hp.2 h4 hd hl hb)
        unfold argN at ha
        split at ha
        · rename_i f cs
          split at ha
          · rename_i bl' hbl
            cases ha
            obtain ⟨g1, g2⟩ := blksOf_get hbl
            obtain ⟨us, rfl, q1, q2⟩ := hx
            have hvs : us = bl'.map fun b => Value.pointer (some ⟨b, 0, none⟩) := by
              apply List.ext_getElem?
              intro j
              by_cases hj : j < cs.length
              · have hj1 : j < us.length := by omega
                have hj2 : j < bl'.length := by omega
                obtain ⟨qt, hqt, g3⟩ := hnm _ _ (g2 j cs[j] bl'[j] (List.getElem?_eq_getElem hj) (List.getElem?_eq_getElem hj2))
                have g4 := q2 j cs[j] qt us[j] (List.getElem?_eq_getElem hj) hqt (List.getElem?_eq_getElem hj1)
                rw [List.getElem?_eq_getElem hj1, List.getElem?_map, List.getElem?_eq_getElem hj2, g4]
                simp only [addrP, g3, Option.map_some]
              · rw [List.getElem?_eq_none (by omega), List.getElem?_eq_none (by simp; omega)]
            subst hvs
            exact .val (t := .func) (x := some (f, bl')) (u := [.func (.func f) #[] (bl'.map fun b => Value.pointer (some ⟨b, 0, none⟩)).toArray]) rfl (stArgs_ok R hS hT hnm ps xs vs rs bl q l boxes h1 h2 hv hp.2 h4 hd hl hb)
          · cases ha
        · exact key ha
  | .capl t :: ps, x :: xs, v :: vs, rs, bl, p, vals, boxes, h1, .cons hx hlt h2, h3, hp, h4, hd, hl, hb => by
    simp only [stRoots] at h1
    simp only [stBoxes] at h4
    simp only [stVals] at h3
    cases ha : caplAV (killAll rs0 s) t x with
    | none => rw [ha] at h3; simp at h3
    | some tvb =>
      obtain ⟨tv, b0⟩ := tvb
      rw [ha] at h3
      cases hv : stVals nm (killAll rs0 s) ps xs with
      | none => rw [hv] at h3; simp at h3
      | some ql =>
        obtain ⟨q, l⟩ := ql
        rw [hv] at h3
        simp only [Option.some.injEq, Prod.mk.injEq] at h3
        obtain ⟨rfl, rfl⟩ := h3
        have ih := stArgs_ok R hS hT hnm ps xs vs rs bl _ l boxes h1 h2 hv hp h4 hd hl hb
        unfold caplAV at ha
        split at ha
        · rename_i r
          split at ha
          · rename_i v' b' hcap hloc
            simp only [Option.some.injEq, Prod.mk.injEq] at ha
            obtain ⟨rfl, rfl⟩ := ha
            simp only [capAV] at hcap
            split at hcap
            · rename_i rt hr
              split at hcap
              · rename_i y hy hh
                split at hcap
                · rename_i et
                  cases hcap
                  have hr2 := (killAll_root.1 hr).2
                  have hadr := locOf_ok (R.killAll rs0) hloc rt hr
                  obtain ⟨b, o, cs', F', h', e1, e2, e3, e4, _, e6, e7⟩ := (R.killAll rs0).place hr (i := 0) (p := []) (by simp [RT.ty, okS, hy]) (by rw [hh]; rfl)
                  have hat : rt.at [0] = ⟨rt.t, y⟩ := by simp [RT.at, RT.ty, getS, hy]
                  have hhn := e6 hh
                  subst hhn
                  rw [hat] at e3
                  have hro : RO w T rt.t y cs' := e3.freeze (fun b hb => hS b hb) fun b hb => hT r rt b hr (e4 b hb)
                  have e1' := e1
                  simp only [addrP, hadr, Value.pointer.injEq, Option.some.injEq, Addr.mk.injEq, and_true] at e1'
                  obtain ⟨rfl, rfl⟩ := e1'
                  obtain ⟨arr, E, q1, q2, q3⟩ := e2
                  have hlen : cs'.length = rt.t.width := hro.length
                  have hve := (hx rt hr2).trans e1
                  subst hve
                  subst et
                  rw [hlen] at q2 q3
                  exact .capl (hT r rt _ hr e7) q1 (by rw [Nat.zero_add] at q2; exact q2) (by rw [q3]; exact hro) ih
                · cases hcap
              · cases hcap
            · cases hcap
          · cases ha
        · rename_i b t' y
          split at ha
          · rename_i et
            simp only [Option.some.injEq, Prod.mk.injEq] at ha
            obtain ⟨rfl, rfl⟩ := ha
            subst et
            obtain ⟨rfl, arr, E, fr, g2, g3, g4, g5⟩ := hx
            exact .capl (hS _ g2) g3 g4 (g5.frame fun b hb => ⟨hS b hb, rfl⟩) ih
          · cases ha
        · cases ha
  | .cap t :: ps, x :: xs, v :: vs, rs, bl, p, vals, boxes, h1, .cons hx hlt h2, h3, hp, h4, hd, hl, hb => by
    simp only [stRoots] at h1
    simp only [stBoxes] at h4
    simp only [stVals] at h3
    cases ha : capAV (killAll rs0 s) t x with
    | none => rw [ha] at h3; simp at h3
    | some tv =>
      rw [ha] at h3
      cases hv : stVals nm (killAll rs0 s) ps xs with
      | none => rw [hv] at h3; simp at h3
      | some ql =>
        obtain ⟨q, l⟩ := ql
        rw [hv] at h3
        simp only [Option.some.injEq, Prod.mk.injEq] at h3
        obtain ⟨rfl, rfl⟩ := h3
        have ih := stArgs_ok R hS hT hnm ps xs vs rs bl _ l boxes h1 h2 hv hp h4 hd hl hb
        unfold capAV at ha
        split at ha
        · rename_i r
          split at ha
          · rename_i rt hr
            split at ha
            · rename_i y hy hh
              split at ha
              · rename_i et
                cases ha
                have hr2 := (killAll_root.1 hr).2
                obtain ⟨b, o, cs', F', h', e1, e2, e3, e4, _, e6, e7⟩ := (R.killAll rs0).place hr (i := 0) (p := []) (by simp [RT.ty, okS, hy]) (by rw [hh]; rfl)
                have hat : rt.at [0] = ⟨rt.t, y⟩ := by simp [RT.at, RT.ty, getS, hy]
                have hhn := e6 hh
                subst hhn
                rw [hat] at e3
                have hro : RO w T rt.t y cs' := e3.freeze (fun b hb => hS b hb) fun b hb => hT r rt b hr (e4 b hb)
                obtain ⟨arr, E, q1, q2, q3⟩ := e2
                have hlen : cs'.length = rt.t.width := hro.length
                have hve : v = .pointer (some ⟨b, o, none⟩) := (hx rt hr2).trans e1
                subst hve
                subst et
                rw [hlen] at q2 q3
                exact .cap (hT r rt b hr e7) q1 q2 (by rw [q3]; exact hro) ih
              · cases ha
            · cases ha
          · cases ha
        · rename_i t' y
          split at ha
          · rename_i et
            subst et
            cases ha
            obtain ⟨b, o, arr, E, fr, rfl, g2, g3, g4, g5⟩ := hx
            exact .cap (hS b g2) g3 g4 (g5.frame fun b hb => ⟨hS b hb, rfl⟩) ih
          · cases ha
        · cases ha
  | .box e t :: ps, x :: xs, v :: vs, rs, bl, p, vals, boxes, h1, .cons hx hlt h2, h3, hp, h4, hd, hl, hb => by
    obtain ⟨r, xs', rs', ex, rfl, hs⟩ := stRoots_cons (e := e) (t := t) (by simp) h1
    cases ex
    obtain ⟨r2, rs2, bv, l, er, rfl, hbx1, hbx⟩ := stBoxes_cons (e := e) (t := t) (al := false) (by simp) h4
    cases er
    obtain ⟨rt, y, hr, hy, hh, rfl, rfl, hk, hok, hal, rfl⟩ := stBox_some hbx1
    simp only [stVals] at h3
    obtain ⟨hn, hd'⟩ := distinctL_cons hd
    match bl, hl with
    | b :: bl, hl =>
      obtain ⟨b1, cap, kids, hv, e1, H⟩ := cell_node R hr hy hh hk hS
      have hadr := hb 0 r b rfl rfl rt hr
      have hv0 := hx rt hr
      have : b1 = b := by
        rw [e1] at hadr
        simp only [RT.ty, addrOf, Prod.mk.injEq] at hadr
        exact hadr.1
      subst this
      have hve : v = .pointer (some ⟨b1, 0, none⟩) := by
        rw [hv0]; unfold addrP; rw [hadr]
      subst hve
      refine .box H (fun n hG hF => ?_) (stArgs_ok R hS hT hnm ps xs vs rs' bl p vals l hs h2 h3 hp hbx hd' (by simpa using hl) fun i q c hq hc => hb (i + 1) q c (by simpa using hq) (by simpa using hc))
      obtain ⟨q, hq, hqF⟩ := rsF_mem.1 hF
      obtain ⟨qt, hqt⟩ := stBoxes_root ps rs' l hbx q hq
      have := R.disj r q rt qt n hr hqt hG hqF
      subst this
      exact hn hq
  | .one e t :: ps, x :: xs, v :: vs, rs, bl, p, vals, boxes, h1, .cons hx hlt h2, h3, hp, h4, hd, hl, hb => by
    obtain ⟨r, xs', rs', ex, rfl, hs⟩ := stRoots_cons (e := e) (t := t) (by simp) h1
    cases ex
    obtain ⟨r2, rs2, bv, l, er, rfl, hbx1, hbx⟩ := stBoxes_cons (e := e) (t := t) (al := true) (by simp) h4
    cases er
    obtain ⟨rt, y, hr, hy, hh, rfl, rfl, hk, hok, hal, rfl⟩ := stBox_some hbx1
    simp only [stVals] at h3
    obtain ⟨hn, hd'⟩ := distinctL_cons hd
    match bl, hl with
    | b :: bl, hl =>
      obtain ⟨b1, cap, kids, hv, e1, H⟩ := cell_node R hr hy hh hk hS
      have hadr := hb 0 r b rfl rfl rt hr
      have hv0 := hx rt hr
      have : b1 = b := by
        rw [e1] at hadr
        simp only [RT.ty, addrOf, Prod.mk.injEq] at hadr
        exact hadr.1
      subst this
      have hve : v = .pointer (some ⟨b1, 0, none⟩) := by
        rw [hv0]; unfold addrP; rw [hadr]
      subst hve
      have : cap = 1 := by
        obtain ⟨b', hb'⟩ := oneOf_ok R (hal rfl) rt hr
        rw [e1] at hb'
        simp only [hdr, Value.slice.injEq] at hb'
        exact hb'.2.2
      subst this
      refine .one H (fun n hG hF => ?_) (stArgs_ok R hS hT hnm ps xs vs rs' bl p vals l hs h2 h3 hp hbx hd' (by simpa using hl) fun i q c hq hc => hb (i + 1) q c (by simpa using hq) (by simpa using hc))
      obtain ⟨q, hq, hqF⟩ := rsF_mem.1 hF
      obtain ⟨qt, hqt⟩ := stBoxes_root ps rs' l hbx q hq
      have := R.disj r q rt qt n hr hqt hG hqF
      subst this
      exact hn hq
  | .gone e t :: ps, x :: xs, v :: vs, rs, bl, p, vals, boxes, h1, .cons hx hlt h2, h3, hp, h4, hd, hl, hb => by
    obtain ⟨r, xs', rs', ex, rfl, hs⟩ := stRoots_cons (e := e) (t := t) (by simp) h1
    cases ex
    obtain ⟨r2, rs2, bv, l, er, rfl, hbx1, hbx⟩ := stBoxes_cons (e := e) (t := t) (al := true) (by simp) h4
    cases er
    obtain ⟨rt, y, hr, hy, hh, rfl, rfl, hk, hok, hal, rfl⟩ := stBox_some hbx1
    simp only [stVals] at h3
    obtain ⟨hn, hd'⟩ := distinctL_cons hd
    match bl, hl with
    | b :: bl, hl =>
      obtain ⟨b1, cap, kids, hv, e1, H⟩ := cell_node R hr hy hh hk hS
      have hadr := hb 0 r b rfl rfl rt hr
      have hv0 := hx rt hr
      have : b1 = b := by
        rw [e1] at hadr
        simp only [RT.ty, addrOf, Prod.mk.injEq] at hadr
        exact hadr.1
      subst this
      have hve : v = .pointer (some ⟨b1, 0, none⟩) := by
        rw [hv0]; unfold addrP; rw [hadr]
      subst hve
      have : cap = 1 := by
        obtain ⟨b', hb'⟩ := oneOf_ok R (hal rfl) rt hr
        rw [e1] at hb'
        simp only [hdr, Value.slice.injEq] at hb'
        exact hb'.2.2
      subst this
      refine .gone H (fun n hG hF => ?_) (stArgs_ok R hS hT hnm ps xs vs rs' bl p vals l hs h2 h3 hp hbx hd' (by simpa using hl) fun i q c hq hc => hb (i + 1) q c (by simpa using hq) (by simpa using hc))
      obtain ⟨q, hq, hqF⟩ := rsF_mem.1 hF
      obtain ⟨qt, hqt⟩ := stBoxes_root ps rs' l hbx q hq
      have := R.disj r q rt qt n hr hqt hG hqF
      subst this
      exact hn hq
  termination_by pat _ _ _ _ _ _ _ => pat.length

theorem BVR.readd {rts rtsK : List (Nat × RT)} {plK : Nat → PL} {r : Nat} {rt rt' : RT} {L : PL} (hr : lk rts r = some rt) (hadr : addrOf [0] rt'.ty L.ct (0, 0) = addrOf [0] rt.ty (pl r).ct (0, 0))
    {av : AV} {v : Value} (hsh : shB r noP isBoxP av = true) (h : BVR w S rts pl av v) (hK : BVR w' S rtsK plK av v) : BVR w' S ((r, rt') :: rtsK) (fun q => if q = r then L else plK q) av v := by
  have look : ∀ q rt1, lk ((r, rt') :: rtsK) q = some rt1 → (q = r ∧ rt1 = rt') ∨ (q ≠ r ∧ lk rtsK q = some rt1) := fun q rt1 hq => by
    simp only [lk] at hq
    by_cases e : r = q
    · rw [if_pos e] at hq; cases hq; exact .inl ⟨e.symm, rfl⟩
    · rw [if_neg e] at hq; exact .inr ⟨fun e' => e e'.symm, hq⟩
  cases av with
  | dat t x => exact hK
  | rptr t x => exact hK
  | rpl b t x => exact hK
  | junk => trivial
  | tup l => exact h.elim
  | agg l => exact h.elim
  | mp b f => exact h.elim
  | ref q p =>
    intro rt1 hq
    rcases look q rt1 hq with ⟨rfl, rfl⟩ | ⟨hne, hq⟩
    · simp [shB, noP] at hsh
    · simp only [if_neg hne]; exact hK rt1 hq
  | sub q p lo hi =>
    intro rt1 hq
    rcases look q rt1 hq with ⟨rfl, rfl⟩ | ⟨hne, hq⟩
    · simp [shB, noP] at hsh
    · simp only [if_neg hne]; exact hK rt1 hq
  | ptr q p =>
    intro rt1 hq
    rcases look q rt1 hq with ⟨rfl, rfl⟩ | ⟨hne, hq⟩
    · simp [shB] at hsh
      have h1 := h rt hr
      simp only [if_true]
      match p, hsh with
      | [], _ => exact h1
      | [0], _ =>
        unfold addrP at *
        rw [hadr]; exact h1
    · simp only [if_neg hne]; exact hK rt1 hq
  | clo f caps =>
    obtain ⟨vs, h1, h2, h3⟩ := h
    obtain ⟨us, g1, g2, g3⟩ := hK
    have : vs = us := by
      rw [h1] at g1
      simpa using g1
    subst this
    refine ⟨vs, h1, h2, fun i c rt1 u hc hq hu => ?_⟩
    rcases look c rt1 hq with ⟨rfl, rfl⟩ | ⟨hne, hq⟩
    · simp only [if_true]
      have := h3 i c rt u hc hr hu
      unfold addrP at *
      rw [hadr]; exact this
    · simp only [if_neg hne]; exact g3 i c rt1 u hc hq hu
  | loc q b =>
    intro rt1 hq
    rcases look q rt1 hq with ⟨rfl, rfl⟩ | ⟨hne, hq⟩
    · simp only [if_true]
      rw [hadr]; exact h rt hr
    · simp only [if_neg hne]; exact hK rt1 hq
  | one q =>
    intro rt1 hq
    rcases look q rt1 hq with ⟨rfl, rfl⟩ | ⟨hne, hq⟩
    · simp [shB, noP] at hsh
    · simp only [if_neg hne]; exact hK rt1 hq

theorem BVRs.readd {rts rtsK : List (Nat × RT)} {plK : Nat → PL} {r : Nat} {rt rt' : RT} {L : PL} (hr : lk rts r = some rt) (hadr : addrOf [0] rt'.ty L.ct (0, 0) = addrOf [0] rt.ty (pl r).ct (0, 0))
    {l : List AV} {vs : List Value} (hsh : l.all (shB r noP isBoxP) = true) (h : BVRs w S rts pl l vs) (hK : BVRs w' S rtsK plK l vs) : BVRs w' S ((r, rt') :: rtsK) (fun q => if q = r then L else plK q) l vs := by
  induction h with
  | nil => exact .nil
  | cons h1 t ih =>
    cases hK with
    | cons g1 gt =>
      simp only [List.all_cons, Bool.and_eq_true] at hsh
      exact .cons (h1.readd hr hadr hsh.1 g1) (ih hsh.2 gt)
theorem BVR.apart {rtsK : List (Nat × RT)} {plK : Nat → PL} {r : Nat} {rt' : RT} {L : PL} {av : AV} {v : Value} (hn : av.ids.contains r = false) (h : BVR w S rtsK plK av v) : BVR w S ((r, rt') :: rtsK) (fun q => if q = r then L else plK q) av v := by
  have look : ∀ q rt1, q ≠ r → lk ((r, rt') :: rtsK) q = some rt1 → lk rtsK q = some rt1 := fun q rt1 hne hq => by
    simp only [lk] at hq
    rwa [if_neg (fun e => hne e.symm)] at hq
  cases av with
  | dat t x => exact h
  | rptr t x => exact h
  | rpl b t x => exact h
  | junk => trivial
  | tup l => exact h.elim
  | agg l => exact h.elim
  | mp b f => exact h.elim
  | ref q p =>
    have hne : q ≠ r := fun e => by simp [AV.ids, e] at hn
    intro rt1 hq
    simp only [if_neg hne]; exact h rt1 (look q rt1 hne hq)
  | sub q p lo hi =>
    have hne : q ≠ r := fun e => by simp [AV.ids, e] at hn
    intro rt1 hq
    simp only [if_neg hne]; exact h rt1 (look q rt1 hne hq)
  | ptr q p =>
    have hne : q ≠ r := fun e => by simp [AV.ids, e] at hn
    intro rt1 hq
    simp only [if_neg hne]; exact h rt1 (look q rt1 hne hq)
  | loc q b =>
    have hne : q ≠ r := fun e => by simp [AV.ids, e] at hn
    intro rt1 hq
    simp only [if_neg hne]; exact h rt1 (look q rt1 hne hq)
  | one q =>
    have hne : q ≠ r := fun e => by simp [AV.ids, e] at hn
    intro rt1 hq
    simp only [if_neg hne]; exact h rt1 (look q rt1 hne hq)
  | clo f caps =>
    obtain ⟨vs, h1, h2, h3⟩ := h
    refine ⟨vs, h1, h2, fun i c rt1 u hc hq hu => ?_⟩
    have hne : c ≠ r := fun e => by
      subst e
      have : c ∈ caps := List.mem_of_getElem? hc
      simp [AV.ids, this] at hn
    simp only [if_neg hne]; exact h3 i c rt1 u hc (look c rt1 hne hq) hu
theorem AVR.readd {rts rtsK : List (Nat × RT)} {plK : Nat → PL} {r : Nat} {rt rt' : RT} {L : PL} (hr : lk rts r = some rt) (hadr : addrOf [0] rt'.ty L.ct (0, 0) = addrOf [0] rt.ty (pl r).ct (0, 0))
    {av : AV} {v : Value} (hsh : stKeep r av = true) (h : AVR w S rts pl av v) (hK : AVR w' S rtsK plK av v) : AVR w' S ((r, rt') :: rtsK) (fun q => if q = r then L else plK q) av v := by
  cases av with
  | tup l =>
    obtain ⟨vs, h1, h2⟩ := h
    obtain ⟨us, g1, g2⟩ := hK
    have : vs = us := by rw [h1] at g1; simpa using g1
    subst this
    exact ⟨vs, h1, h2.readd hr hadr hsh g2⟩
  | agg l =>
    obtain ⟨us, g1, g2⟩ := hK
    refine ⟨us, g1, ?_⟩
    have hsh' : ∀ a ∈ l, a.ids.contains r = false := fun a ha => by
      have := List.all_eq_true.1 hsh a ha
      simpa using this
    clear h hsh g1
    induction g2 with
    | nil => exact .nil
    | cons q1 _ ih => exact .cons (q1.apart (hsh' _ (by simp))) (ih fun a ha => hsh' a (by simp [ha]))
  | mp b f => exact hK
  | junk => trivial
  | dat t x => exact BVR.readd (w := w) (w' := w') (S := S) (rtsK := rtsK) (plK := plK) (av := .dat t x) hr hadr hsh h hK
  | rptr t x => exact BVR.readd (w := w) (w' := w') (S := S) (rtsK := rtsK) (plK := plK) (av := .rptr t x) hr hadr hsh h hK
  | rpl b t x => exact BVR.readd (w := w) (w' := w') (S := S) (rtsK := rtsK) (plK := plK) (av := .rpl b t x) hr hadr hsh h hK
  | clo f c => exact BVR.readd (w := w) (w' := w') (S := S) (rtsK := rtsK) (plK := plK) (av := .clo f c) hr hadr hsh h hK
  | loc q b => exact BVR.readd (w := w) (w' := w') (S := S) (rtsK := rtsK) (plK := plK) (av := .loc q b) (v := v) hr hadr hsh h hK
  | one q => exact BVR.readd (w := w) (w' := w') (S := S) (rtsK := rtsK) (plK := plK) (av := .one q) (v := v) hr hadr hsh h hK
  | ref q p => exact BVR.readd (w := w) (w' := w') (S := S) (rtsK := rtsK) (plK := plK) (av := .ref q p) hr hadr hsh h hK
  | sub q p lo hi => exact BVR.readd (w := w) (w' := w') (S := S) (rtsK := rtsK) (plK := plK) (av := .sub q p lo hi) hr hadr hsh h hK
  | ptr q p => exact BVR.readd (w := w) (w' := w') (S := S) (rtsK := rtsK) (plK := plK) (av := .ptr q p) hr hadr hsh h hK

theorem lk_stCut {r i : Nat} {av : AV} : ∀ {l : List (Nat × AV)}, lk (stCut r l) i = some av → av = .junk ∨ (lk l i = some av ∧ stKeep r av = true)
  | [], h => by cases h
  | (j, u) :: l, h => by
    simp only [stCut, lk] at h ⊢
    by_cases e : j = i
    · rw [if_pos e] at h ⊢
      split at h
      · rename_i hk
        cases h
        exact .inr ⟨rfl, hk⟩
      · cases h; exact .inl rfl
    · rw [if_neg e] at h ⊢
      exact lk_stCut h

theorem RelAt.readd (R : RelAt w0 S0 N dr pc s a w S pl) {r : Nat} {rt : RT} (hr : s.root r = some rt) {sK : XS} {plK : Nat → PL} (RK : RelAt w0 S0 N dr pc sK a w' S plK) (hnx : sK.nxt = s.nxt)
    (henv : ∀ i av, sK.get i = some av → av = .junk ∨ s.get i = some av ∨ ∃ q, q ≠ r ∧ av = .one q) {rt' : RT} {ct' : CT} {F' : Nat → Prop} {hv : Value} (H : Own w' S rt'.ty (rt'.k + 1) rt'.x rt'.h ct' [hv] F')
    (hF : ∀ b, F' b → b < w'.heap.size ∧ ¬ S b ∧ (∀ r2 rt2, sK.root r2 = some rt2 → ¬ (plK r2).F b) ∧ (dr = true → ∀ i, ¬ pc i b))
    (hadr : addrOf [0] rt'.ty ct' (0, 0) = addrOf [0] rt.ty (pl r).ct (0, 0)) :
    RelAt w0 S0 N dr pc { sK with rts := (r, rt') :: sK.rts, env := stCut r sK.env } a w' S (fun q => if q = r then ⟨ct', F'⟩ else plK q) := by
  have look : ∀ q rt1, lk ((r, rt') :: sK.rts) q = some rt1 → (q = r ∧ rt1 = rt') ∨ (q ≠ r ∧ sK.root q = some rt1) := fun q rt1 hq => by
    simp only [lk] at hq
    by_cases e : r = q
    · rw [if_pos e] at hq; cases hq; exact .inl ⟨e.symm, rfl⟩
    · rw [if_neg e] at hq; exact .inr ⟨fun e' => e e'.symm, hq⟩
  refine { defers := RK.defers, size := RK.size, os := RK.os, tape := RK.tape, output := RK.output, grow := RK.grow, stay := RK.stay, base := RK.base, lt := RK.lt, own := ?_, Flt := ?_, disj := ?_, ids := ?_, env := ?_, pins := ?_, news := fun i b f h => (lk_stCut h).elim (fun e => by cases e) fun e => RK.news i b f e.1 }
  · intro q rt1 h
    rcases look q rt1 h with ⟨rfl, rfl⟩ | ⟨hne, h⟩
    · simp only [if_true]; exact ⟨hv, H⟩
    · simp only [if_neg hne]; exact RK.own q rt1 h
  · intro q rt1 b h hb
    rcases look q rt1 h with ⟨rfl, rfl⟩ | ⟨hne, h⟩
    · simp only [if_true] at hb; exact ⟨(hF b hb).1, (hF b hb).2.1⟩
    · simp only [if_neg hne] at hb; exact RK.Flt q rt1 b h hb
  · intro q q' rt1 rt2 b h h' hb hb'
    rcases look q rt1 h with ⟨rfl, rfl⟩ | ⟨hne, hq⟩ <;> rcases look q' rt2 h' with ⟨e, e2⟩ | ⟨hne', hq'⟩
    · exact e.symm
    · simp only [if_true] at hb; simp only [if_neg hne'] at hb'; exact absurd hb' ((hF b hb).2.2.1 q' rt2 hq')
    · subst e; simp only [if_true] at hb'; simp only [if_neg hne] at hb; exact absurd hb ((hF b hb').2.2.1 q rt1 hq)
    · simp only [if_neg hne] at hb; simp only [if_neg hne'] at hb'; exact RK.disj q q' rt1 rt2 b hq hq' hb hb'
  · intro q rt1 h
    rcases look q rt1 h with ⟨rfl, rfl⟩ | ⟨hne, h⟩
    · show q < sK.nxt; rw [hnx]; exact R.ids q rt hr
    · exact RK.ids q rt1 h
  · intro i av h
    rcases lk_stCut h with rfl | ⟨h1, h2⟩
    · exact ⟨trivial, fun q hq => by simp [AV.ids] at hq⟩
    · rcases henv i av h1 with rfl | h3 | ⟨q, hq, rfl⟩
      · exact ⟨trivial, fun q hq => by simp [AV.ids] at hq⟩
      · obtain ⟨q1, q2⟩ := RK.env i av h1
        exact ⟨AVR.readd (rts := s.rts) (pl := pl) (L := ⟨ct', F'⟩) hr hadr h2 (R.env i av h3).1 q1, q2⟩
      · obtain ⟨q1, q2⟩ := RK.env i _ h1
        exact ⟨BVR.apart (w := w') (S := S) (av := .one q) (v := a.tmps.getD i undef) (by simp [AV.ids, Ne.symm hq]) q1, q2⟩
  · intro hd i b hp
    obtain ⟨q, h1, h2, h3⟩ := RK.pins hd i b hp
    refine ⟨q, h1, h2, fun q' rt1 h hb => ?_⟩
    rcases look q' rt1 h with ⟨rfl, rfl⟩ | ⟨hne, h⟩
    · simp only [if_true] at hb; exact absurd hp ((hF b hb).2.2.2 hd i)
    · simp only [if_neg hne] at hb; exact h3 q' rt1 h hb

theorem RelAt.own_at (R : RelAt w0 S0 N dr pc s a w S pl) {r : Nat} {rt : RT} (hr : s.root r = some rt) (hh : rt.h = none) {y : rt.t.den} (hy : rt.x = [y]) : ∃ hv, Own w S (.list rt.e rt.t) (rt.k + 1) [y] none (pl r).ct [hv] (pl r).F := by
  obtain ⟨hv0, H0⟩ := R.own r rt hr
  rw [hh, hy] at H0
  exact ⟨hv0, H0⟩

theorem stAdd_ok {G0 : List (Nat × RT)} {T : Nat → Prop} (R : RelAt w0 S0 N dr pc s a w S pl) (hST : ∀ n, S n → T n) (hSw : ∀ n, S n → w'.heap[n]? = w.heap[n]?) (hpT : dr = true → ∀ i n, pc i n → T n) :
    ∀ (pat : List PA) (xs : List AV) (rs bl : List Nat) (boxes bx : List TV) (H : Nat → Prop) (sK : XS) (plK : Nat → PL), stRoots G0 pat xs = some rs → stBoxes s pat rs = some boxes → stSame pat boxes bx → StOut w' T pat bl bx H →
      (∀ (i r b : Nat), rs[i]? = some r → bl[i]? = some b → ∀ rt, s.root r = some rt → addrOf [0] rt.ty (pl r).ct (0, 0) = (b, 0)) →
      RelAt w0 S0 N dr pc sK a w' S plK → sK.nxt = s.nxt → distinctL rs = true → (∀ i av, sK.get i = some av → av = .junk ∨ s.get i = some av ∨ ∃ q, q ∉ rs ∧ av = .one q) → (∀ r rt n, sK.root r = some rt → (plK r).F n → ¬ H n) →
      ∃ pl2, RelAt w0 S0 N dr pc (stAdd s pat rs bx sK) a w' S pl2 ∧ ∀ r rt n, (stAdd s pat rs bx sK).root r = some rt → (pl2 r).F n → (∃ rt', sK.root r = some rt' ∧ (plK r).F n) ∨ H n
  | [], [], rs, bl, boxes, bx, H, sK, plK, h1, h2, hsm, h3, h4, RK, h5, hds, h6, h7 => by
    simp only [stRoots, Option.some.injEq] at h1
    subst h1
    cases h3
    exact ⟨plK, RK, fun r rt n hr hn => .inl ⟨rt, hr, hn⟩⟩
  | [], _ :: _, _, _, _, _, _, _, _, h1, _, _, _, _, _, _, _, _, _ => by simp [stRoots] at h1
  | .val t :: ps, [], _, _, _, _, _, _, _, h1, _, _, _, _, _, _, _, _, _ => by simp [stRoots] at h1
  | .cap t :: ps, [], _, _, _, _, _, _, _, h1, _, _, _, _, _, _, _, _, _ => by simp [stRoots] at h1
  | .capl t :: ps, [], _, _, _, _, _, _, _, h1, _, _, _, _, _, _, _, _, _ => by simp [stRoots] at h1
  | .box e t :: ps, [], _, _, _, _, _, _, _, h1, _, _, _, _, _, _, _, _, _ => by simp [stRoots] at h1
  | .one e t :: ps, [], _, _, _, _, _, _, _, h1, _, _, _, _, _, _, _, _, _ => by simp [stRoots] at h1
  | .gone e t :: ps, [], _, _, _, _, _, _, _, h1, _, _, _, _, _, _, _, _, _ => by simp [stRoots] at h1
  | .gho e t :: ps, xs, rs, bl, boxes, bx, H, sK, plK, h1, h2, hsm, h3, h4, RK, h5, hds, h6, h7 => by
    obtain ⟨r, rs', rfl, hs⟩ := stRoots_gho h1
    obtain ⟨r2, rs2, bv, l, er, rfl, hbx1, hbx⟩ := stBoxes_cons (e := e) (t := t) (al := false) (by simp) h2
    cases er
    obtain ⟨rt, y, hr, hy, hh, rfl, rfl, hk, hok, hal, rfl⟩ := stBox_some hbx1
    cases h3 with
    | @gho _ _ x' _ bl' bx' H' G b cap kids hv HO hn hd hl =>
      have hadr := h4 0 r b rfl rfl rt hr
      have R1 := R.readd hr RK h5 (fun i av h => (h6 i av h).imp_right fun h => h.imp_right fun ⟨q, hq, e⟩ => ⟨q, fun e => hq (e ▸ List.mem_cons_self ..), e⟩) (rt' := ⟨rt.e, rt.t, rt.k, [x'], none⟩) (ct' := .node b cap kids) (F' := G) (hv := hv) (own_un1 (t := rt.t) (x := y) (e0 := rt.e) (k0 := rt.k) hSw hok hk (R.own_at hr hh hy).choose_spec HO (sameTV_ro hsm.1))
        (fun n hG => ⟨(hn n hG).2, fun hS => (hn n hG).1 (hST n hS), fun r2 rt2 hr2 hF => h7 r2 rt2 n hr2 hF (.inl hG), fun hdr i hp => (hn n hG).1 (hpT hdr i n hp)⟩)
        (by rw [hadr]; simp [RT.ty, addrOf])
      have R2 := R1
      obtain ⟨pl2, g1, g2⟩ := stAdd_ok R hST hSw hpT ps xs rs' bl' l bx' H' _ _ hs hbx hsm.2 hl (fun i q c hq hc => h4 (i + 1) q c (by simpa using hq) (by simpa using hc)) R2 h5 (distinctL_cons hds).2
        (fun i av h => by
          rcases lk_stCut h with rfl | ⟨g1, _⟩
          · exact .inl rfl
          · exact (h6 i av g1).imp_right fun h => h.imp_right fun ⟨q, hq, e⟩ => ⟨q, fun hm => hq (List.mem_cons_of_mem _ hm), e⟩)
        (fun q rt1 n hq hF => by
          simp only [XS.root, lk] at hq
          by_cases e : r = q
          · subst e
            simp only [if_true] at hF
            exact hd n hF
          · rw [if_neg e] at hq
            simp only [if_neg (Ne.symm e)] at hF
            exact fun hH => h7 q rt1 n hq hF (.inr hH))
      refine ⟨pl2, ?_, ?_⟩
      · simp only [stAdd, hr]; exact g1
      · simp only [stAdd, hr]
        intro q rt1 n hq hF
        rcases g2 q rt1 n hq hF with ⟨rt', hq', hF'⟩ | hH
        · simp only [XS.root, lk] at hq'
          by_cases e : r = q
          · subst e
            simp only [if_true] at hF'
            exact .inr (.inl hF')
          · rw [if_neg e] at hq'
            simp only [if_neg (Ne.symm e)] at hF'
            exact .inl ⟨rt', hq', hF'⟩
        · exact .inr (.inr hH)
  | .val t :: ps, x :: xs, rs, bl, boxes, bx, H, sK, plK, h1, h2, hsm, h3, h4, RK, h5, hds, h6, h7 => by
    cases h3 with
    | val h3 => exact (by simpa only [stAdd] using stAdd_ok R hST hSw hpT ps xs rs bl boxes bx H sK plK (by simpa only [stRoots] using h1) (by simpa only [stBoxes] using h2) (by simpa only [stSame] using hsm) h3 h4 RK h5 hds h6 h7)
  | .cap t :: ps, x :: xs, rs, bl, boxes, bx, H, sK, plK, h1, h2, hsm, h3, h4, RK, h5, hds, h6, h7 => by
    cases h3 with
    | cap h3 => exact (by simpa only [stAdd] using stAdd_ok R hST hSw hpT ps xs rs bl boxes bx H sK plK (by simpa only [stRoots] using h1) (by simpa only [stBoxes] using h2) (by simpa only [stSame] using hsm) h3 h4 RK h5 hds h6 h7)
  | .capl t :: ps, x :: xs, rs, bl, boxes, bx, H, sK, plK, h1, h2, hsm, h3, h4, RK, h5, hds, h6, h7 => by
    cases h3 with
    | capl h3 => exact (by simpa only [stAdd] using stAdd_ok R hST hSw hpT ps xs rs bl boxes bx H sK plK (by simpa only [stRoots] using h1) (by simpa only [stBoxes] using h2) (by simpa only [stSame] using hsm) h3 h4 RK h5 hds h6 h7)
  | .box e t :: ps, x :: xs, rs, bl, boxes, bx, H, sK, plK, h1, h2, hsm, h3, h4, RK, h5, hds, h6, h7 => by
    obtain ⟨r, xs', rs', ex, rfl, hs⟩ := stRoots_cons (e := e) (t := t) (by simp) h1
    cases ex
    obtain ⟨r2, rs2, bv, l, er, rfl, hbx1, hbx⟩ := stBoxes_cons (e := e) (t := t) (al := false) (by simp) h2
    cases er
    obtain ⟨rt, y, hr, hy, hh, rfl, rfl, hk, hok, hal, rfl⟩ := stBox_some hbx1
    cases h3 with
    | @box _ _ x' _ bl' bx' H' G b cap kids hv HO hn hd hl =>
      have hadr := h4 0 r b rfl rfl rt hr
      have R1 := R.readd hr RK h5 (fun i av h => (h6 i av h).imp_right fun h => h.imp_right fun ⟨q, hq, e⟩ => ⟨q, fun e => hq (e ▸ List.mem_cons_self ..), e⟩) (rt' := ⟨rt.e, rt.t, rt.k, [x'], none⟩) (ct' := .node b cap kids) (F' := G) (hv := hv) (own_un1 (t := rt.t) (x := y) (e0 := rt.e) (k0 := rt.k) hSw hok hk (R.own_at hr hh hy).choose_spec HO (sameTV_ro hsm.1))
        (fun n hG => ⟨(hn n hG).2, fun hS => (hn n hG).1 (hST n hS), fun r2 rt2 hr2 hF => h7 r2 rt2 n hr2 hF (.inl hG), fun hdr i hp => (hn n hG).1 (hpT hdr i n hp)⟩)
        (by rw [hadr]; simp [RT.ty, addrOf])
      have R2 := R1
      obtain ⟨pl2, g1, g2⟩ := stAdd_ok R hST hSw hpT ps xs rs' bl' l bx' H' _ _ hs hbx hsm.2 hl (fun i q c hq hc => h4 (i + 1) q c (by simpa using hq) (by simpa using hc)) R2 h5 (distinctL_cons hds).2
        (fun i av h => by
          rcases lk_stCut h with rfl | ⟨g1, _⟩
          · exact .inl rfl
          · exact (h6 i av g1).imp_right fun h => h.imp_right fun ⟨q, hq, e⟩ => ⟨q, fun hm => hq (List.mem_cons_of_mem _ hm), e⟩)
        (fun q rt1 n hq hF => by
          simp only [XS.root, lk] at hq
          by_cases e : r = q
          · subst e
            simp only [if_true] at hF
            exact hd n hF
          · rw [if_neg e] at hq
            simp only [if_neg (Ne.symm e)] at hF
            exact fun hH => h7 q rt1 n hq hF (.inr hH))
      refine ⟨pl2, ?_, ?_⟩
      · simp only [stAdd, hr]; exact g1
      · simp only [stAdd, hr]
        intro q rt1 n hq hF
        rcases g2 q rt1 n hq hF with ⟨rt', hq', hF'⟩ | hH
        · simp only [XS.root, lk] at hq'
          by_cases e : r = q
          · subst e
            simp only [if_true] at hF'
            exact .inr (.inl hF')
          · rw [if_neg e] at hq'
            simp only [if_neg (Ne.symm e)] at hF'
            exact .inl ⟨rt', hq', hF'⟩
        · exact .inr (.inr hH)
  | .one e t :: ps, x :: xs, rs, bl, boxes, bx, H, sK, plK, h1, h2, hsm, h3, h4, RK, h5, hds, h6, h7 => by
    obtain ⟨r, xs', rs', ex, rfl, hs⟩ := stRoots_cons (e := e) (t := t) (by simp) h1
    cases ex
    obtain ⟨r2, rs2, bv, l, er, rfl, hbx1, hbx⟩ := stBoxes_cons (e := e) (t := t) (al := true) (by simp) h2
    cases er
    obtain ⟨rt, y, hr, hy, hh, rfl, rfl, hk, hok, hal, rfl⟩ := stBox_some hbx1
    cases h3 with
    | @one _ _ x' _ bl' bx' H' G b kids hv HO hn hd hl =>
      have hadr := h4 0 r b rfl rfl rt hr
      have R1 := R.readd hr RK h5 (fun i av h => (h6 i av h).imp_right fun h => h.imp_right fun ⟨q, hq, e⟩ => ⟨q, fun e => hq (e ▸ List.mem_cons_self ..), e⟩) (rt' := ⟨rt.e, rt.t, rt.k, [x'], none⟩) (ct' := .node b 1 kids) (F' := G) (hv := hv) (own_un1 (t := rt.t) (x := y) (e0 := rt.e) (k0 := rt.k) hSw hok hk (R.own_at hr hh hy).choose_spec HO (sameTV_ro hsm.1))
        (fun n hG => ⟨(hn n hG).2, fun hS => (hn n hG).1 (hST n hS), fun r2 rt2 hr2 hF => h7 r2 rt2 n hr2 hF (.inl hG), fun hdr i hp => (hn n hG).1 (hpT hdr i n hp)⟩)
        (by rw [hadr]; simp [RT.ty, addrOf])
      have R2 := R1.fact (n := 100000 + r) (av := .one r) (fun _ rt1 hrt1 => by
        simp only [lk, if_true, Option.some.injEq] at hrt1
        subst hrt1
        exact ⟨b, by simp [RT.ty, RT.at, getS, TV.len, atCT, hdr]⟩) (fun q hq => by simp only [AV.ids, List.mem_singleton] at hq; subst hq; show _ < sK.nxt; rw [h5]; exact R.ids _ rt hr) rfl
      obtain ⟨pl2, g1, g2⟩ := stAdd_ok R hST hSw hpT ps xs rs' bl' l bx' H' _ _ hs hbx hsm.2 hl (fun i q c hq hc => h4 (i + 1) q c (by simpa using hq) (by simpa using hc)) R2 h5 (distinctL_cons hds).2
        (fun i av h => by
          simp only [XS.get, lk] at h
          split at h
          · cases h
            exact .inr (.inr ⟨r, (distinctL_cons hds).1, rfl⟩)
          rcases lk_stCut h with rfl | ⟨g1, _⟩
          · exact .inl rfl
          · exact (h6 i av g1).imp_right fun h => h.imp_right fun ⟨q, hq, e⟩ => ⟨q, fun hm => hq (List.mem_cons_of_mem _ hm), e⟩)
        (fun q rt1 n hq hF => by
          simp only [XS.root, lk] at hq
          by_cases e : r = q
          · subst e
            simp only [if_true] at hF
            exact hd n hF
          · rw [if_neg e] at hq
            simp only [if_neg (Ne.symm e)] at hF
            exact fun hH => h7 q rt1 n hq hF (.inr hH))
      refine ⟨pl2, ?_, ?_⟩
      · simp only [stAdd, hr]; exact g1
      · simp only [stAdd, hr]
        intro q rt1 n hq hF
        rcases g2 q rt1 n hq hF with ⟨rt', hq', hF'⟩ | hH
        · simp only [XS.root, lk] at hq'
          by_cases e : r = q
          · subst e
            simp only [if_true] at hF'
            exact .inr (.inl hF')
          · rw [if_neg e] at hq'
            simp only [if_neg (Ne.symm e)] at hF'
            exact .inl ⟨rt', hq', hF'⟩
        · exact .inr (.inr hH)
  | .gone e t :: ps, x :: xs, rs, bl, boxes, bx, H, sK, plK, h1, h2, hsm, h3, h4, RK, h5, hds, h6, h7 => by
    obtain ⟨r, xs', rs', ex, rfl, hs⟩ := stRoots_cons (e := e) (t := t) (by simp) h1
    cases ex
    obtain ⟨r2, rs2, bv, l, er, rfl, hbx1, hbx⟩ := stBoxes_cons (e := e) (t := t) (al := true) (by simp) h2
    cases er
    cases h3 with
    | @gone _ _ _ b bl' _ _ hl =>
      obtain ⟨pl2, g1, g2⟩ := stAdd_ok R hST hSw hpT ps xs rs' bl' l bx H sK plK hs hbx (by simpa only [stSame] using hsm) hl (fun i q c hq hc => h4 (i + 1) q c (by simpa using hq) (by simpa using hc)) RK h5 (distinctL_cons hds).2 (fun i av h => (h6 i av h).imp_right fun h => h.imp_right fun ⟨q, hq, e⟩ => ⟨q, fun hm => hq (List.mem_cons_of_mem _ hm), e⟩) h7
      exact ⟨pl2, by simpa only [stAdd] using g1, by simpa only [stAdd] using g2⟩
  termination_by pat _ _ _ _ _ _ _ _ => pat.length

theorem evs_ok (R : RelAt w0 S0 N dr pc s a w S pl) : ∀ (l : List Operand) (xs : List AV), evs s l = some xs → AVRs w S s.rts pl s.nxt xs (l.map a.eval)
  | [], xs, h => by
    simp only [evs, Option.some.injEq] at h
    subst h
    exact .nil
  | x :: l, xs, h => by
    simp only [evs] at h
    cases hx : s.ev x with
    | none => rw [hx] at h; simp at h
    | some v =>
      rw [hx] at h
      cases hl : evs s l with
      | none => rw [hl] at h; simp at h
      | some l' =>
        rw [hl] at h
        cases h
        exact .cons (R.ev hx).1 (R.ev hx).2 (evs_ok R l l' hl)

theorem xst_ok (hC : CtxOK P C w0 S0) (R : RelAt w0 S0 N dr pc s a w S pl) {o : Oper} {i f n : Nat} {K : XS → Prop} (hd : ∀ t, o.dst = some t → t < N) (hk2 : okind o.op = 2) {sp : SpecS} (hs : C.st f = some sp) {xs : List AV} {vs : List Value}
    (hrun : (∃ fn, P.funcs[f]? = some fn ∧ (fn.name == "runtime.NumGoroutine") = false ∧ fn.body.isNone = false) → (execOp a.eval o).run P w = .ok (.enter f vs.toArray) w) (hx : AVRs w S s.rts pl s.nxt xs vs) (h : stCall n dr sp (some xs) o.dst K s) :
    Out P dr o i pc a w (fun pc' a' w' => ∃ s', K s' ∧ Rel w0 S0 N dr pc' s' a' w') := by
  obtain ⟨hfn, hcall⟩ := hC.2.2.2.2.2.1 f sp hs
  simp only [stCall] at h
  split at h
  rotate_left
  · exact h.elim
  rename_i rs hrs
  obtain ⟨hdis, hnp, h⟩ := h
  obtain ⟨bl, s1, h, R1, e1, e2, e3, e4, hb⟩ := named_ok rs R h
  split at h
  rotate_left
  · exact h.elim
  rename_i p vals boxes hv hbx
  obtain ⟨hp, hK⟩ := h
  have hroot : ∀ r, s1.root r = s.root r := fun r => by show lk s1.rts r = lk s.rts r; rw [e1]
  have hF : ∀ n, rsF pl rs n → n < w.heap.size := fun n hn => by
    obtain ⟨r, hr, hn⟩ := rsF_mem.1 hn
    obtain ⟨rt, hrt⟩ := stBoxes_root _ _ _ hbx r hr
    exact (R1.Flt r rt n hrt hn).1
  have hS : ∀ n, S n → butF w (rsF pl rs) n := fun n hn => ⟨R1.lt n hn, fun h => by
    obtain ⟨r, hr, hn'⟩ := rsF_mem.1 h
    have := hF n h
    cases hq : s1.root r with
    | none =>
      (obtain ⟨_, h0⟩ := stBoxes_root _ _ _ hbx r hr; rw [hq] at h0; cases h0)
    | some rt => exact (R1.Flt r rt n hq hn').2 hn⟩
  have hT : ∀ r rt n, (Fer.killAll rs s1).root r = some rt → (pl r).F n → butF w (rsF pl rs) n := fun r rt n h1 h2 => by
    obtain ⟨g1, g2⟩ := killAll_root.1 h1
    refine ⟨(R1.Flt r rt n g2 h2).1, fun h => ?_⟩
    obtain ⟨q, hq, hqF⟩ := rsF_mem.1 h
    cases hqr : s1.root q with
    | none =>
      have hlt := hF n h
      (obtain ⟨_, h0⟩ := stBoxes_root _ _ _ hbx q hq; rw [hqr] at h0; cases h0)
    | some qt =>
      have := R1.disj r q rt qt n g2 hqr h2 hqF
      subst this
      exact g1 hq
  have hpin : dr = true → ∀ i n, pc i n → butF w (rsF pl rs) n := fun hdr i n hn => by
    obtain ⟨q, h1, h2, h3⟩ := R.pins hdr i n hn
    refine ⟨h2, fun hF' => ?_⟩
    obtain ⟨r, hr, hrF⟩ := rsF_mem.1 hF'
    cases hq : s.root r with
    | none =>
      have hlt := hF n hF'
      have hs1 : s1.root r = none := (hroot r).trans hq
      (obtain ⟨_, h0⟩ := stBoxes_root _ _ _ hbx r hr; rw [hs1] at h0; cases h0)
    | some rt =>
      have hqr := h3 r rt hq hrF
      subst hqr
      have := List.all_eq_true.1 hnp r hr
      simp only [noPin, hdr, Bool.not_true, Bool.false_or, List.all_eq_true] at this
      have := this _ h1
      simp at this
  have hx1 : AVRs w S s1.rts pl s1.nxt xs vs := by rw [e1, e2]; exact hx
  have hnm : ∀ r b, lk (rs.zip bl) r = some b → ∃ rt, s1.root r = some rt ∧ addrOf [0] rt.ty (pl r).ct (0, 0) = (b, 0) := fun r b h => by
    obtain ⟨i, h1, h2⟩ := lk_zip h
    obtain ⟨rt, hrt⟩ := stBoxes_root _ _ _ hbx r (List.mem_of_getElem? h1)
    exact ⟨rt, hrt, hb i r b h1 h2 rt ((hroot r).symm.trans hrt)⟩
  have hA := stArgs_ok R1 hS hT hnm sp.pat xs vs rs bl p vals boxes hrs hx1 hv hp hbx hdis e4 (fun i r b h1 h2 rt hrt => hb i r b h1 h2 rt ((hroot r).symm.trans hrt))
  have main : o.wp P a w (fun a' w' => (dr = true → kept o pc w w') ∧ ∃ s', K s' ∧ Rel w0 S0 N dr pc s' a' w') noQ := by
    unfold Oper.wp
    rw [hrun hfn]
    refine Calls.mono (hcall bl vals boxes _ hK w _ _ hA hF) fun e w' h => ?_
    cases e with
    | returned v =>
      obtain ⟨g, outs, bx, us, G, H, ⟨hsm, h1⟩, rfl, h2, h3⟩ := h
      have RK := R1.killAll rs
      have RK2 : RelAt w0 S0 N dr pc (Fer.killAll rs s1) a w' S pl := RK.moved g.os g.tape (g.output.mono fun n hn => hS n (R1.base n hn)) g.size fun n hn h => g.old n (by
        rcases h with h | ⟨r2, rt2, h3, h4⟩
        · exact hS n h
        · exact hT r2 rt2 n h3 h4)
      have hout : ∀ {ps bl bx H}, StOut w' (butF w (rsF pl rs)) ps bl bx H → ∀ n, H n → ¬ butF w (rsF pl rs) n := by
        intro ps bl bx H h
        induction h with
        | nil => intro n hn; exact hn.elim
        | val _ ih => exact ih
        | cap _ ih => exact ih
        | capl _ ih => exact ih
        | box _ hn _ _ ih => exact fun n h => h.elim (fun h => (hn n h).1) (ih n)
        | gho _ hn _ _ ih => exact fun n h => h.elim (fun h => (hn n h).1) (ih n)
        | one _ hn _ _ ih => exact fun n h => h.elim (fun h => (hn n h).1) (ih n)
        | gone _ ih => exact ih
      obtain ⟨k1, k2, k3⟩ := killAll_same (rs := rs) (s := s1)
      obtain ⟨pl2, R2, hF2⟩ := stAdd_ok R1 hS (fun n hn => g.old n (hS n hn)) hpin sp.pat xs rs bl boxes bx H (Fer.killAll rs s1) pl hrs hbx hsm h2 (fun i r b h1 h2 rt hrt => hb i r b h1 h2 rt ((hroot r).symm.trans hrt)) RK2 k2 hdis (fun i av h => .inr (.inl (by unfold XS.get at h ⊢; rw [k1] at h; exact h)))
        (fun r rt n hr hn hH => hout h2 n hH (hT r rt n hr hn))
      exact ⟨fun hdr i b hb _ => g.old b (hpin hdr i b hb), _, h1, retsPut_at R2 (T := fun n => butF w (rsF pl rs) n ∨ H n) (fun n hn => .inl (hS n hn)) (fun r rt n hr hn => (hF2 r rt n hr hn).elim (fun ⟨rt', q1, q2⟩ => .inl (hT r rt' n q1 q2)) .inr) (fun hdr i n hn => .inl (hpin hdr i n hn)) h3 hd⟩
    | panicked => exact h.elim
    | outgrown => exact h.elim
  refine .inl ?_
  unfold Out0
  rw [hk2]
  exact main
end
end Fer

namespace Fer
open Go

section
variable {P : Program} {C : Ctx} {tt : List (Nat × TE)} {w0 : World} {S0 : Nat → Prop} {N : Nat} {dr : Bool} {pc : Pins} {s : XS} {a : Act} {w w' : World} {S : Nat → Prop} {pl : Nat → PL}

theorem castL_some {t t' : Ty} {l : List t.den} {l' : List t'.den} (h : castL t t' l = some l') : ∃ e : t = t', e ▸ l = l' := by
  unfold castL at h
  split at h
  · rename_i e
    exact ⟨e, Option.some.inj h⟩
  · cases h

theorem store_gen (htt : ttB P tt = true) (R : RelAt w0 S0 N dr pc s a w S pl) {T r i : Nat} {p : List Nat} {rt : RT} {t' : Ty} {vx vy : Value} (hte : (lk tt T).bind TE.ty = some t') (hr : s.root r = some rt) (hvx : vx = addrP (pl r) rt (i :: p))
    (hh : rt.h = none ∨ rt.h = some (i :: p)) {y : TV} {ct' : CT} {cs' : List Value} {F' : Nat → Prop} (hok : okS (i :: p) rt.ty rt.x (rt.k + 1)) (Hy : Own w S y.t (dep (i :: p) rt.ty (rt.k + 1)) y.x none ct' cs' F') (hyt : y.t = (rt.at (i :: p)).t) (hw : y.t.width = t'.width)
    (hcells : vy.cells.toList = cs') (hone : ∀ u ∈ cs', u.oneCell' = true) (hF' : ∀ b, F' b → b < w.heap.size ∧ ¬ S b ∧ (∀ r2 rt2, s.root r2 = some rt2 → ¬ (pl r2).F b) ∧ (dr = true → ∀ i, pc i b → (i, some r) ∈ s.pins)) :
    ∃ w' pl', (match (Instr.storeAt T vx vy).run P w with | .ok _ w' => (.ok undef w' : Result Value) | .halt e w' => .halt e w') = .ok undef w' ∧ RelAt w0 S0 N dr pc (s.wrote r rt (i :: p) y) a w' S pl' ∧ ∀ n, ¬ (pl r).F n → w'.heap[n]? = w.heap[n]? := by
  have hT := tt_ok htt hte
  obtain ⟨b, o, arr, E, q1, q2, q3, q4, pl', R2⟩ := R.write hr hh hok Hy hyt hF'
  have hrun : (Instr.storeAt T vx vy).run P w = .ok () (w.setRow b (spl arr o cs')) := by
    rw [hvx, q1]
    exact run_store_at hT q2 hcells (by rw [Hy.length, hw]) q3 hone
  rw [hrun]
  refine ⟨_, pl', rfl, R2, fun n hn => setRow_other w b n _ fun e => ?_⟩
  subst e
  exact hn q4

theorem roSt_ok (htt : ttB P tt = true) (R : RelAt w0 S0 N dr pc s a w S pl) {T : Nat} {x y : Option AV} {vx vy : Value} (hx : ∀ u, x = some u → AVR w S s.rts pl u vx) (hy : ∀ u, y = some u → AVR w S s.rts pl u vy) {q : RoSt} (h : roSt tt s T x y = some q) (hpre : q.pre) :
    ∃ v, MFok w0 S0 N dr pc s a w pl ⟨q.pre, True, .junk, q.st v, [q.r]⟩ (match (Instr.storeAt T vx vy).run P w with | .ok _ w' => .ok undef w' | .halt e w' => .halt e w') := by
  unfold roSt at h
  split at h
  · rename_i r i p y'
    split at h
    · rename_i rt hr
      have hvx : vx = addrP (pl r) rt (i :: p) := hx _ rfl rt hr
      split at h
      · rename_i e t x0 hat
        have hatt : (rt.at (i :: p)).t = .ro e t := by rw [hat]
        split at h
        · rename_i hc
          obtain ⟨hte, hh⟩ := hc
          split at h
          · rename_i e' t' l
            split at h
            · rename_i l' hl
              split at h
              · rename_i he
                subst he
                cases h
                obtain ⟨et, hl⟩ := castL_some hl
                subst et
                cases hl
                obtain ⟨cs, rfl, hro⟩ := hy _ rfl
                have hro0 := hro
                obtain ⟨ad, cap, rfl, e2, e3, e4⟩ := hro
                obtain ⟨w', pl', g1, g2, g3⟩ := store_gen htt R hte hr hvx (.inl hh) (vy := pack (.list e' t') [Value.slice ad (List.length l) cap]) (y := ⟨.ro e' t', ((.slice ad (List.length l) cap : Value), l)⟩) (ct' := .leaf) (cs' := [.slice ad (List.length l) cap]) (F' := noF) hpre
                  ⟨fun _ h => h, .inr ⟨rfl, rfl, ad, cap, rfl, e2, e3, e4⟩⟩ hatt.symm rfl rfl (by simp [Value.oneCell']) fun _ h => h.elim
                exact ⟨_, undef, w', S, pl', g1, g2, trivial, fun q hq => by simp [AV.ids] at hq, trivial, fun n hn h => g3 n (h r rt (by simp) hr)⟩
              · cases h
            · cases h
          · rename_i q
            split at h
            · cases h
            · rename_i hqr
              split at h
              · rename_i qt hq
                split at h
                · rename_i l' hl
                  split at h
                  · rename_i hd
                    obtain ⟨hqh, he⟩ := hd
                    subst he
                    cases h
                    obtain ⟨qe, qty, qk, qx, qh⟩ := qt
                    obtain ⟨et, hl⟩ := castL_some hl
                    simp only at et hqh
                    subst et hqh
                    have hl : qx = l' := hl
                    subst hl
                    obtain ⟨hv, H⟩ := R.own q _ hq
                    have hvv : vy = hv := by
                      have h1 : vy = hdr (atCT [] (.list qe qty) (pl q).ct) (RT.at ⟨qe, qty, qk, qx, none⟩ []).len := hy _ rfl _ hq
                      rw [h1]; exact (H.hdr (by simp)).1.symm
                    subst hvv
                    have hk : ∀ r2 rt2, (s.kill q).root r2 = some rt2 → r2 ≠ q ∧ s.root r2 = some rt2 := fun r2 rt2 h => lk_rm_some h
                    have hro := H.freeze (S' := fun n => S n ∨ (pl q).F n) (fun b hb => .inl hb) fun b hb => .inr hb
                    have R1 := (R.kill q).widen (S' := fun n => S n ∨ (pl q).F n) (fun b hb => .inl hb) (fun b hb => hb.elim (R.lt b) fun h => (R.Flt q _ b hq h).1)
                      (fun r2 rt2 b h2 hb hS => hS.elim (R.Flt r2 rt2 b (hk r2 rt2 h2).2 hb).2 fun hF => (hk r2 rt2 h2).1 (R.disj r2 q rt2 _ b (hk r2 rt2 h2).2 hq hb hF))
                    obtain ⟨ad, cap, e1, e2, e3, e4⟩ := hro
                    simp only [List.cons.injEq, and_true] at e1
                    subst e1
                    have hr1 : (s.kill q).root r = some rt := by simp only [XS.root, XS.kill]; rw [lk_rm_ne (fun e => hqr e.symm)]; exact hr
                    obtain ⟨w', pl', g1, g2, g3⟩ := store_gen htt R1 hte hr1 hvx (.inl hh) (vy := Value.slice ad (List.length qx) cap) (y := ⟨.ro qe qty, ((.slice ad (List.length qx) cap : Value), qx)⟩) (ct' := .leaf) (cs' := [.slice ad (List.length qx) cap]) (F' := noF) hpre
                      ⟨fun _ h => h, .inr ⟨rfl, rfl, ad, cap, rfl, e2, e3, e4⟩⟩ hatt.symm rfl rfl (by simp [Value.oneCell']) fun _ h => h.elim
                    exact ⟨_, undef, w', _, pl', g1, g2, trivial, fun q hq => by simp [AV.ids] at hq, trivial, fun n hn h => g3 n (h r rt (by simp) hr)⟩
                  · cases h
                · cases h
              · cases h
          · cases h
        · cases h
      · cases h
    · cases h
  · cases h

theorem fnSt_ok (htt : ttB P tt = true) {s1 : XS} (R : RelAt w0 S0 N dr pc s a w S pl) (R1 : RelAt w0 S0 N dr pc s1 a w S pl) (e1 : s1.rts = s.rts) {T : Nat} {x y : Option AV} {vx vy : Value} (hx : ∀ u, x = some u → AVR w S s.rts pl u vx) (hy : ∀ u, y = some u → AVR w S s.rts pl u vy)
    {p : Prop} {r : Nat} {cs bl : List Nat} {st : List Nat → XS → XS} (h : fnSt tt s T x y = some (p, r, cs, st)) (hpre : p) (hl : bl.length = cs.length) (hb : ∀ (i r b : Nat), cs[i]? = some r → bl[i]? = some b → ∀ rt, s.root r = some rt → addrOf [0] rt.ty (pl r).ct (0, 0) = (b, 0)) :
    MFok w0 S0 N dr pc s1 a w pl ⟨True, True, .junk, st bl s1, [r]⟩ (match (Instr.storeAt T vx vy).run P w with | .ok _ w' => .ok undef w' | .halt e w' => .halt e w') := by
  unfold fnSt at h
  split at h
  · rename_i r' i p' f cs'
    split at h
    · rename_i rt hr
      split at h
      · rename_i hc
        obtain ⟨hatt, hte, hh, hall⟩ := hc
        simp only [Option.some.injEq, Prod.mk.injEq] at h
        obtain ⟨rfl, rfl, rfl, rfl⟩ := h
        have hvx : vx = addrP (pl r') rt (i :: p') := hx _ rfl rt hr
        obtain ⟨vs, rfl, h1, h2⟩ := hy _ rfl
        have hvs : vs = bl.map fun b => Value.pointer (some ⟨b, 0, none⟩) := by
          apply List.ext_getElem?
          intro j
          by_cases hj : j < cs'.length
          · have hj1 : j < vs.length := by omega
            have hj2 : j < bl.length := by omega
            have hroot := List.all_eq_true.1 hall cs'[j] (List.getElem_mem hj)
            obtain ⟨qt, hqt⟩ := Option.isSome_iff_exists.1 hroot
            have g1 := h2 j cs'[j] qt vs[j] (List.getElem?_eq_getElem hj) hqt (List.getElem?_eq_getElem hj1)
            have g2 := hb j cs'[j] bl[j] (List.getElem?_eq_getElem hj) (List.getElem?_eq_getElem hj2) qt hqt
            rw [List.getElem?_eq_getElem hj1, List.getElem?_map, List.getElem?_eq_getElem hj2, g1]
            simp only [addrP, g2, Option.map_some]
          · rw [List.getElem?_eq_none (by omega), List.getElem?_eq_none (by simp; omega)]
        subst hvs
        have hr1 : s1.root r' = some rt := by show lk s1.rts r' = some rt; rw [e1]; exact hr
        obtain ⟨w', pl', g1, g2, g3⟩ := store_gen htt R1 hte hr1 hvx (.inl hh) (vy := .func (.func f) #[] (bl.map fun b => Value.pointer (some ⟨b, 0, none⟩)).toArray) (y := ⟨.func, some (f, bl)⟩) (ct' := .leaf) (cs' := [.func (.func f) #[] (bl.map fun b => Value.pointer (some ⟨b, 0, none⟩)).toArray]) (F' := noF) hpre
          ⟨fun _ h => h, .inr ⟨rfl, rfl⟩⟩ hatt.symm rfl rfl (by simp [Value.oneCell']) fun _ h => h.elim
        exact ⟨undef, w', S, pl', g1, g2, trivial, fun q hq => by simp [AV.ids] at hq, trivial, fun n hn h => g3 n (h r' rt (by simp) hr1)⟩
      · cases h
    · cases h
  · cases h

theorem locsB_ok (R : RelAt w0 S0 N dr pc s a w S pl) : ∀ (xs : List AV) (bl : List Nat) {vs : List Value}, locsB s xs bl → (∀ b t x, AV.rpl b t x ∈ xs → ∃ v, AVR w S s.rts pl (.rpl b t x) v) →
    AVRs w S s.rts pl s.nxt xs (bl.map fun b => Value.pointer (some ⟨b, 0, none⟩))
  | [], [], _, _, _ => .nil
  | [], _ :: _, _, h, _ => h.elim
  | .ptr r [0] :: xs, b :: bl, vs, h, hm => by
    obtain ⟨h1, h2, h3⟩ := h
    obtain ⟨rt0, hr0⟩ := Option.isSome_iff_exists.1 h2
    cases hl : locOf s r with
    | none => rw [hl] at h1; exact h1.elim
    | some b' =>
      rw [hl] at h1
      have h1 : b' = b := h1
      subst h1
      refine .cons (fun rt hr => ?_) (fun q hq => ?_) (locsB_ok R xs bl (vs := vs) h3 fun b t x hx => hm b t x (List.mem_cons_of_mem _ hx))
      · have := locOf_ok R hl rt hr
        simp only [addrP, this]
      · simp only [AV.ids, List.mem_singleton] at hq
        subst hq
        exact R.ids _ rt0 hr0
  | .rpl b' t x :: xs, b :: bl, vs, h, hm => by
    obtain ⟨rfl, h3⟩ := h
    obtain ⟨v, hv⟩ := hm b' t x List.mem_cons_self
    have hv0 : v = .pointer (some ⟨b', 0, none⟩) := hv.1
    subst hv0
    exact .cons hv (fun q hq => by simp [AV.ids] at hq) (locsB_ok R xs bl (vs := vs) h3 fun b t x hx => hm b t x (List.mem_cons_of_mem _ hx))

theorem parAVs_mem (R : RelAt w0 S0 N dr pc s a w S pl) {b : Nat} {t : Ty} {x : t.den} : ∀ (n i : Nat), AV.rpl b t x ∈ parAVs s i n → ∃ v, AVR w S s.rts pl (.rpl b t x) v
  | 0, _, h => by simp [parAVs] at h
  | n + 1, i, h => by
    simp only [parAVs, List.mem_cons] at h
    rcases h with h | h
    · split at h
      · rename_i av hav
        subst h
        exact ⟨_, (R.env i _ hav).1⟩
      · cases h
    · exact parAVs_mem R n (i + 1) h
theorem typAVs_mem {s : XS} {b : Nat} {t : Ty} {x : t.den} : ∀ (ps : List PA), AV.rpl b t x ∈ typAVs s ps → False
  | [], h => by simp [typAVs] at h
  | .box e u :: ps, h => by
    simp only [typAVs, List.mem_cons] at h
    rcases h with h | h
    · split at h <;> cases h
    · exact typAVs_mem ps h
  | .val _ :: ps, h | .one _ _ :: ps, h | .gone _ _ :: ps, h | .cap _ :: ps, h | .capl _ :: ps, h | .gho _ _ :: ps, h => by
    simp only [typAVs, List.mem_cons] at h
    rcases h with h | h
    · cases h
    · exact typAVs_mem ps h
theorem cloAVs_mem (R : RelAt w0 S0 N dr pc s a w S pl) {f nargs n b : Nat} {pat : List PA} {t : Ty} {x : t.den} (h : AV.rpl b t x ∈ cloAVs s f nargs n pat) : ∃ v, AVR w S s.rts pl (.rpl b t x) v := by
  unfold cloAVs at h
  split at h
  · simp at h
  · split at h
    · exact parAVs_mem R _ _ h
    · exact (typAVs_mem _ h).elim

inductive FldO (w : World) (S : Nat → Prop) (k : Nat) : List Ty → List TV → List Value → (Nat → Prop) → Prop
  | nil : FldO w S k [] [] [] noF
  | cons {t : Ty} {x : t.den} {ts tvs u vs ct F G} (h : Own w S t k x none ct u.cells.toList F) (hl : FldO w S k ts tvs vs G) (hd : ∀ b, F b → ¬ G b) : FldO w S k (t :: ts) (⟨t, x⟩ :: tvs) (u :: vs) (fun b => F b ∨ G b)

theorem castV_some {t t' : Ty} {x : t.den} {y : t'.den} (h : castV t t' x = some y) : ∃ e : t = t', e ▸ x = y := by
  unfold castV at h
  split at h
  · rename_i e
    exact ⟨e, Option.some.inj h⟩
  · cases h

theorem lev_prodOf : ∀ (ts : List Ty) (t : Ty), t ∈ ts → t.lev ≤ (prodOf ts).lev
  | [], _, h => by cases h
  | [u], t, h => by
    simp only [List.mem_singleton] at h
    subst h
    exact Nat.le_refl _
  | u :: u' :: ts, t, h => by
    simp only [prodOf, Ty.lev]
    rcases List.mem_cons.1 h with rfl | h
    · omega
    · have := lev_prodOf (u' :: ts) t h
      omega

theorem FldO.prod {k : Nat} (ts : List Ty) : ∀ {tvs : List TV} {vs : List Value} {G : Nat → Prop}, FldO w S k ts tvs vs G → ts ≠ [] → (prodTV tvs).t = prodOf ts ∧ ∃ ct G', (∀ n, G' n ↔ G n) ∧ Own w S (prodTV tvs).t k (prodTV tvs).x none ct (vs.flatMap fun u => u.cells.toList) G' := by
  induction ts with
  | nil => intro _ _ _ _ h; exact absurd rfl h
  | cons t ts ih =>
    intro tvs vs G hf _
    cases hf with
    | @cons _ x _ tvs' u vs' ct F G' h hl hd =>
      cases ts with
      | nil =>
        cases hl
        have e2 : (List.flatMap (fun u : Value => u.cells.toList) [u]) = u.cells.toList := by simp
        refine ⟨rfl, ct, F, fun n => ⟨fun h => .inl h, fun h => h.elim id fun h => h.elim⟩, ?_⟩
        rw [e2]
        exact h
      | cons t' ts =>
        cases hl with
        | @cons _ x' _ tvs'' u' vs'' ct0 F0 G0 h' hl' hd' =>
          obtain ⟨h0, ct', G2, h1, h2⟩ := ih (.cons h' hl' hd') (by simp)
          refine ⟨?_, .pair ct ct', fun n => F n ∨ G2 n, fun n => or_congr Iff.rfl (h1 n), .inr ⟨by simp, u.cells.toList, (u' :: vs'').flatMap fun u => u.cells.toList, F, G2, List.flatMap_cons, fun n => Iff.rfl, fun n h3 h4 => hd n h3 ((h1 n).1 h4), ?_, ?_⟩⟩
          · show Ty.prod t (prodTV (⟨t', x'⟩ :: tvs'')).t = _
            rw [h0]; rfl
          · rw [hsub_none]; exact h
          · rw [hsub_none]; exact h2

theorem bxFs_ok {n k : Nat} : ∀ (ts : List Ty) (l : List AV) {vs : List Value} {K : List TV → XS → Prop} {s : XS} {S : Nat → Prop}, RelAt w0 S0 N dr pc s a w S pl → s.nxt = n → (∀ t ∈ ts, t.lev ≤ k) → BVRs w S s.rts pl l vs → (∀ av ∈ l, ∀ r ∈ av.ids, r < s.nxt) → bxFs n ts l K s →
    ∃ s' S' tvs G, K tvs s' ∧ RelAt w0 S0 N dr pc s' a w S' pl ∧ s'.nxt = n ∧ (∀ b, S b → S' b) ∧ FldO w S' k ts tvs vs G ∧ (∀ b, S' b → S b ∨ ∃ r rt, s.root r = some rt ∧ (pl r).F b) ∧ (∀ b, G b → ∃ r rt, s.root r = some rt ∧ (pl r).F b) ∧
      (∀ b, G b → ¬ S' b ∧ (∀ r2 rt2, s'.root r2 = some rt2 → ¬ (pl r2).F b) ∧ (dr = true → ∀ i, pc i b → (i, some n) ∈ s'.pins)) ∧ (∀ x ∈ s.pins, x ∈ s'.pins) ∧ (∀ r rt, s'.root r = some rt → s.root r = some rt)
  | [], [], vs, K, s, S, R, hn, _, hv, _, h => by
    cases hv
    exact ⟨s, S, [], noF, h, R, hn, fun _ h => h, .nil, fun b h => .inl h, fun _ h => h.elim, fun _ h => h.elim, fun _ h => h, fun _ _ h => h⟩
  | [], _ :: _, _, _, _, _, _, _, _, _, _, h => by simp [bxFs] at h
  | _ :: _, [], _, _, _, _, _, _, _, _, _, h => by simp [bxFs] at h
  | t :: ts, av :: l, _, K, s, S, R, hn, hk, .cons (v := v) (vs := vs) hv hvs, hid, h => by
    simp only [bxFs] at h
    have hk0 := hk t List.mem_cons_self
    have hk1 : ∀ u ∈ ts, u.lev ≤ k := fun u hu => hk u (List.mem_cons_of_mem _ hu)
    have hid1 : ∀ av ∈ l, ∀ r ∈ av.ids, r < s.nxt := fun u hu => hid u (List.mem_cons_of_mem _ hu)
    have leaf : ∀ (x : t.den) (ct : CT), (∀ S' : Nat → Prop, (∀ b, S b → S' b) → Own w S' t k x none ct v.cells.toList noF) → bxFs n ts l (fun tvs s' => K (⟨t, x⟩ :: tvs) s') s → 
        ∃ s' S' tvs G, K tvs s' ∧ RelAt w0 S0 N dr pc s' a w S' pl ∧ s'.nxt = n ∧ (∀ b, S b → S' b) ∧ FldO w S' k (t :: ts) tvs (v :: vs) G ∧ (∀ b, S' b → S b ∨ ∃ r rt, s.root r = some rt ∧ (pl r).F b) ∧ (∀ b, G b → ∃ r rt, s.root r = some rt ∧ (pl r).F b) ∧
          (∀ b, G b → ¬ S' b ∧ (∀ r2 rt2, s'.root r2 = some rt2 → ¬ (pl r2).F b) ∧ (dr = true → ∀ i, pc i b → (i, some n) ∈ s'.pins)) ∧ (∀ x ∈ s.pins, x ∈ s'.pins) ∧ (∀ r rt, s'.root r = some rt → s.root r = some rt) := fun x ct hO h => by
      obtain ⟨s', S', tvs, G, g1, g2, g3, g4, g5, g6, g7, g8, g9, g10⟩ := bxFs_ok ts l R hn hk1 hvs hid1 h
      exact ⟨s', S', _, _, g1, g2, g3, g4, .cons (hO S' g4) g5 (fun _ h => h.elim), g6, fun b hb => hb.elim (fun h => h.elim) (g7 b), fun b hb => hb.elim (fun h => h.elim) (g8 b), g9, g10⟩
    split at h
    · rename_i hz
      have hav : av = .dat .raw (.slice none 0 0) ∧ ((∃ e u, t = .list e u) ∨ ∃ e u, t = .ro e u) := by
        unfold zOf at hz
        split at hz
        · refine ⟨rfl, ?_⟩
          cases t with
          | list e u => exact .inl ⟨e, u, rfl⟩
          | ro e u => exact .inr ⟨e, u, rfl⟩
          | _ => cases hz
        · cases hz
      obtain ⟨rfl, ht⟩ := hav
      obtain ⟨cs, hcs, hro, _⟩ := hv
      subst hro
      have hv0 : v = .slice none 0 0 := hcs
      subst hv0
      rcases ht with ⟨e, u, rfl⟩ | ⟨e, u, rfl⟩
      · simp only [Ty.lev] at hk0
        obtain ⟨k', rfl⟩ : ∃ k', k = k' + 1 := ⟨k - 1, by omega⟩
        exact leaf [] .nil (fun S' _ => own_nil) h
      · exact leaf (.slice none 0 0, []) .leaf (fun S' _ => ⟨fun _ h => h, .inr ⟨rfl, rfl, none, 0, rfl, Nat.le_refl _, Nat.zero_le _, fun h => absurd rfl h⟩⟩) h
    · rename_i hnz
      split at h
      · rename_i u x
        obtain ⟨cs, rfl, hro⟩ := hv
        have hcl := pack_cells hro.length hro.oneCell
        split at h
        · rename_i x' hx
          obtain ⟨e, hx⟩ := castV_some hx
          subst e
          cases hx
          split at h
          · rename_i hlf
            exact leaf x (CT.of u) (fun S' hS => by rw [hcl]; exact RO.leaf hlf (hro.frame fun b hb => ⟨hS b hb, rfl⟩)) h
          · exact h.elim
        · split at h
          · rename_i x' hx
            obtain ⟨e, hx⟩ := castV_some hx
            subst e
            cases hx
            obtain ⟨hlf, hr1, h⟩ := h
            obtain ⟨v0, hro'⟩ := RO.un hr1 hro
            exact leaf (unV v0 t x) (CT.of t) (fun S' hS => by rw [hcl]; exact RO.leaf hlf (hro'.frame fun b hb => ⟨hS b hb, rfl⟩)) (h v0)
          · exact h.elim
      · rename_i q
        split at h
        · rename_i qt hq
          have hvq := hv qt hq
          obtain ⟨hv1, H⟩ := R.own q qt hq
          have hnq : q < s.nxt := R.ids q qt hq
          have hk2 : ∀ r2 rt2, (s.kill q).root r2 = some rt2 → r2 ≠ q ∧ s.root r2 = some rt2 := fun r2 rt2 h => lk_rm_some h
          have hvs' : ∀ {s1 : XS} {S1 : Nat → Prop}, s1.rts = rm s.rts q → (∀ b, S b → S1 b) → BVRs w S1 s1.rts pl l vs := fun {s1 S1} e1 hS1 => by
            rw [e1]
            refine hvs.frame (n := s.nxt) (fun b hb => ⟨hS1 b hb, rfl⟩) (fun r hr => ?_) hid1
            by_cases e : r = q
            · subst e; exact .inl (lk_rm_same _ _)
            · exact .inr ⟨lk_rm_ne e _, rfl⟩
          split at h
          · rename_i hc
            obtain ⟨hh, rfl, hlev⟩ := hc
            rw [hh] at H
            have hvv : v = hv1 := by rw [hvq]; exact (H.hdr (by simp)).1.symm
            subst hvv
            have hone : v.cells.toList = [v] := by
              have := H.length
              have e := (H.hdr (by simp)).1
              rw [e]
              cases (pl q).ct <;> rfl
            have hpins : ∀ b, (pl q).F b → dr = true → ∀ i, pc i b → (i, some n) ∈ ((s.also q n).kill q).pins := fun b hb hdd i hi => by
              obtain ⟨q1, h1, _, h3⟩ := R.pins hdd i b hi
              have := h3 q qt hq hb
              subst this
              exact mem_pinAlso_new h1
            obtain ⟨s', S', tvs, G, g1, g2, g3, g4, g5, g6, g7, g8, g9, g10⟩ := bxFs_ok ts l ((R.also q n).kill q) hn hk1 (hvs' rfl fun _ h => h) hid1 h
            have hroots : ∀ r rt, ((s.also q n).kill q).root r = some rt → r ≠ q ∧ s.root r = some rt := fun r rt h => lk_rm_some h
            have hnot : ∀ b, (pl q).F b → ¬ S' b := fun b hb hS' => by
              rcases g6 b hS' with h | ⟨r, rt, h1, h2⟩
              · exact (R.Flt q qt b hq hb).2 h
              · exact (hroots r rt h1).1 (R.disj r q rt qt b (hroots r rt h1).2 hq h2 hb)
            refine ⟨s', S', _, _, g1, g2, g3, g4, .cons (F := (pl q).F) (t := qt.ty) (x := qt.x) (ct := (pl q).ct) ?_ g5 (fun b hb hG => ?_), fun b hb => ?_, fun b hb => ?_, fun b hb => ?_, fun x hx => g9 x (mem_pinAlso hx), fun r rt h => (hroots r rt (g10 r rt h)).2⟩
            · rw [hone]
              exact own_full' g4 (by simp only [RT.ty, Ty.lev]; omega) hk0 H
            · obtain ⟨r, rt, h1, h2⟩ := g7 b hG
              exact (hroots r rt h1).1 (R.disj r q rt qt b (hroots r rt h1).2 hq h2 hb)
            · rcases g6 b hb with h | ⟨r, rt, h1, h2⟩
              · exact .inl h
              · exact .inr ⟨r, rt, (hroots r rt h1).2, h2⟩
            · rcases hb with hb | hb
              · exact ⟨q, qt, hq, hb⟩
              · obtain ⟨r, rt, h1, h2⟩ := g7 b hb
                exact ⟨r, rt, (hroots r rt h1).2, h2⟩
            · rcases hb with hb | hb
              · refine ⟨hnot b hb, fun r2 rt2 h2 h3 => ?_, fun hdd i hi => g9 _ (hpins b hb hdd i hi)⟩
                have h4 := hroots r2 rt2 (g10 r2 rt2 h2)
                exact h4.1 (R.disj r2 q rt2 qt b h4.2 hq h3 hb)
              · exact g8 b hb
          · split at h
            · rename_i e u _
              split at h
              · rename_i x hx
                obtain ⟨hh, he, h⟩ := h
                subst he
                obtain ⟨qe, qty, qk, qx, qh⟩ := qt
                obtain ⟨et, hx⟩ := castL_some hx
                simp only at et hh
                subst et hh
                have hx : qx = x := hx
                subst hx
                have hvv : v = hv1 := by rw [hvq]; exact (H.hdr (by simp)).1.symm
                subst hvv
                have hro := H.freeze (S' := fun b => S b ∨ (pl q).F b) (fun b hb => .inl hb) fun b hb => .inr hb
                have R1 := (R.kill q).widen (S' := fun b => S b ∨ (pl q).F b) (fun b hb => .inl hb) (fun b hb => hb.elim (R.lt b) fun h => (R.Flt q _ b hq h).1)
                  (fun r2 rt2 b h2 hb hS => hS.elim (R.Flt r2 rt2 b (hk2 r2 rt2 h2).2 hb).2 fun hF => (hk2 r2 rt2 h2).1 (R.disj r2 q rt2 _ b (hk2 r2 rt2 h2).2 hq hb hF))
                obtain ⟨ad, cap, e1, e2, e3, e4⟩ := hro
                simp only [List.cons.injEq, and_true] at e1
                subst e1
                obtain ⟨s', S', tvs, G, g1, g2, g3, g4, g5, g6, g7, g8, g9, g10⟩ := bxFs_ok ts l R1 hn hk1 (hvs' rfl fun b hb => .inl hb) hid1 (h (.slice ad (List.length qx) cap))
                refine ⟨s', S', _, _, g1, g2, g3, fun b hb => g4 b (.inl hb), .cons (F := noF) (t := .ro qe qty) (x := ((.slice ad (List.length qx) cap : Value), qx)) (ct := .leaf) ?_ g5 (fun _ h => h.elim), fun b hb => ?_, fun b hb => ?_, fun b hb => hb.elim (fun h => h.elim) (g8 b), g9, fun r rt h => (hk2 r rt (g10 r rt h)).2⟩
                · have hro' : RO w S' (.ro qe qty) ((.slice ad (List.length qx) cap : Value), qx) [.slice ad (List.length qx) cap] := RO.frame (S := fun b => S b ∨ (pl q).F b) (fun b hb => ⟨g4 b hb, rfl⟩) ⟨rfl, ad, cap, rfl, e2, e3, e4⟩
                  exact ⟨fun _ h => h, .inr ⟨rfl, hro'⟩⟩
                · rcases g6 b hb with h | ⟨r, rt, h1, h2⟩
                  · rcases h with h | h
                    · exact .inl h
                    · exact .inr ⟨q, _, hq, h⟩
                  · exact .inr ⟨r, rt, (hk2 r rt h1).2, h2⟩
                · rcases hb with hb | hb
                  · exact hb.elim
                  · obtain ⟨r, rt, h1, h2⟩ := g7 b hb
                    exact ⟨r, rt, (hk2 r rt h1).2, h2⟩
              · exact h.elim
            · exact h.elim
        · exact h.elim
      · exact h.elim

theorem bxStr_ok (R : RelAt w0 S0 N dr pc s a w S pl) {T : Nat} {x : Operand} {ts : List Ty} {l : List AV} {K : XS → Prop} {o : Oper} {i : Nat} (ho : o.op = .box T x) (hd : ∀ t, o.dst = some t → t < N) (hb : bxStr tt s T (s.ev x) = some (ts, l))
    (h : bxFs s.nxt ts l (fun tvs s' => K ({ s'.addRoot ⟨T, (prodTV tvs).t, (prodTV tvs).t.lev, [(prodTV tvs).x], none⟩ with env := (100000 + s.nxt, .one s.nxt) :: s'.env }.put o.dst (.ptr s.nxt [0]))) s) : Out P dr o i pc a w (fun pc' a' w' => ∃ s', K s' ∧ Rel w0 S0 N dr pc' s' a' w') := by
  unfold bxStr at hb
  split at hb
  · rename_i ts' l' hte hx
    split at hb
    · rename_i hlen
      simp only [Option.some.injEq, Prod.mk.injEq] at hb
      obtain ⟨rfl, rfl⟩ := hb
      obtain ⟨vs, hv, hvs⟩ := (R.ev hx).1
      have hlt := (R.ev hx).2
      obtain ⟨s', S', tvs, G, g1, g2, g3, g4, g5, g6, g7, g8, g9, g10⟩ := bxFs_ok (k := (prodOf ts').lev) ts' l' R rfl (lev_prodOf ts') hvs hlt h
      have hne : ts' ≠ [] := by rintro rfl; simp at hlen
      obtain ⟨hpt, ct, G', h1, h2⟩ := FldO.prod ts' g5 hne
      generalize prodTV tvs = tv at *
      obtain ⟨pt, v⟩ := tv
      simp only at hpt
      subst hpt
      have hcw : (vs.flatMap fun u => u.cells.toList).length = (prodOf ts').width := h2.length
      obtain ⟨pl', R', _, r2⟩ := g2.newRow (E := T) (t := prodOf ts') (k := (prodOf ts').lev) (l := [v]) (cells := (vs.flatMap fun u => u.cells.toList).toArray) (cap := 1) (kids := fun _ => ct) (Fs := fun _ => G') (by simp [hcw]) (by simp) (by simp [maxLen])
        (fun i hi => by
          have hi' : i = 0 := by simpa using hi
          subst hi'
          rw [Nat.zero_mul]
          have : cellsAt (vs.flatMap fun u => u.cells.toList).toArray 0 (prodOf ts').width = vs.flatMap fun u => u.cells.toList := by
            simp only [cellsAt, List.drop_zero]
            exact List.take_of_length_le (by rw [hcw]; exact Nat.le_refl _)
          rw [this]
          exact h2) (fun i j n hi hj _ _ => by simp at hi hj; omega)
        (fun i n _ hn => by
          have hG := (h1 n).1 hn
          obtain ⟨q1, q2, q3⟩ := g8 n hG
          obtain ⟨r, rt, q4, q5⟩ := g7 n hG
          exact ⟨(R.Flt r rt n q4 q5).1, q1, q2, by rw [g3]; exact q3⟩)
      have hvx : a.eval x = .agg (vs.flatMap fun u => u.cells.toList).toArray := hv
      have hrun : (execOp a.eval o).run P w = .ok (.value (.pointer (some ⟨w.heap.size, 0, none⟩))) (w.alloc (.cells (vs.flatMap fun u => u.cells.toList).toArray T)) := by
        obtain ⟨dst, op, type, pos, after, guard⟩ := o
        simp only at ho
        subst ho
        refine exec_val rfl ?_
        rw [hvx]
        exact run_box
      have R2 := R'.fact (n := 100000 + s.nxt) (av := .one s.nxt) (fun _ rt1 hrt1 => by
        simp only [XS.addRoot, lk, g3, if_true, Option.some.injEq] at hrt1
        subst hrt1
        rw [← g3] 
        obtain ⟨hv2, H2⟩ := R'.own s'.nxt ⟨T, prodOf ts', (prodOf ts').lev, [v], none⟩ (by simp [XS.root, XS.addRoot, lk])
        rcases own_inv H2 with ⟨_, q, _⟩ | ⟨b, cap, kids, arr, Fs, q1, q2, q3, q4, q5, q6, q7⟩
        · cases q
        · have hone := r2 ⟨T, prodOf ts', (prodOf ts').lev, [v], none⟩ (by simp [XS.addRoot, lk])
          simp only [addrP, RT.ty, addrOf, q1, Value.pointer.injEq, Option.some.injEq, Addr.mk.injEq, and_true] at hone
          have hb : b = w.heap.size := by simpa using hone.1.symm
          subst hb
          have hheap : (w.alloc (.cells (vs.flatMap fun u => u.cells.toList).toArray T)).heap[w.heap.size]? = some (.cells (vs.flatMap fun u => u.cells.toList).toArray T (0, 0)) := heap_alloc_new w _
          rw [hheap] at q5
          simp only [Option.some.injEq, Obj.cells.injEq] at q5
          obtain ⟨rfl, _, _⟩ := q5
          have hcap : cap = 1 := by
            have hpos := (prodOf ts').width_pos
            have : (prodOf ts').width = cap * (prodOf ts').width := by rw [← q6]; simp [hcw]
            exact Nat.eq_of_mul_eq_mul_right hpos (by omega)
          subst hcap
          exact ⟨w.heap.size, by rw [q1]; simp [RT.at, RT.ty, getS, TV.len, atCT, hdr]⟩) (fun r hr => by simp only [AV.ids, List.mem_singleton] at hr; subst hr; show _ < s'.nxt + 1; omega) rfl
      have hk2 : okind o.op ≠ 0 := by rw [ho]; simp [okind]
      have hk3 : okind o.op ≠ 1 := by rw [ho]; simp [okind]
      have fin : o.wp P a w (fun a' w' => (dr = true → kept o pc w w') ∧ ∃ s', K s' ∧ Rel w0 S0 N dr pc s' a' w') noQ := by
        unfold Oper.wp
        rw [hrun]
        refine ⟨fun hdd i b hp _ => (Grew.alloc w _ _).old b ?_, _, g1, S', pl', ?_⟩
        · obtain ⟨q, _, h2, _⟩ := R.pins hdd i b hp
          exact h2
        · refine RelAt.put (v := .pointer (some ⟨w.heap.size, 0, none⟩)) (av := .ptr s.nxt [0]) R2 hd ?_ ?_
          · have := r2
            rw [g3] at this
            exact this
          · intro r hr
            simp only [AV.ids, List.mem_singleton] at hr
            subst hr
            show _ < s'.nxt + 1
            omega
      refine .inl ?_
      unfold Out0
      split
      · rename_i e; exact absurd e hk2
      · rename_i e; exact absurd e hk3
      · exact fin
    · cases hb
  · cases hb

theorem selfAV_ok (R : RelAt w0 S0 N dr pc s a w S pl) {x y : Option AV} {u : AV} {vy : Value} (hy : ∀ u, y = some u → AVR w S s.rts pl u vy) (h : selfAV s x y = some u) : AVR w S s.rts pl u vy := by
  unfold selfAV at h
  split at h
  · rename_i r i p q j p'
    split at h
    · rename_i hc
      obtain ⟨rfl, rfl, rfl⟩ := hc
      split at h
      · rename_i rt hr
        cases h
        have hv := hy _ rfl
        intro rt' hr'
        have e : rt' = rt := Option.some.inj (hr'.symm.trans hr)
        subst e
        have hv := hv rt' hr'
        refine ⟨Nat.zero_le _, Nat.le_refl _, ?_⟩
        rw [hv]
        unfold subR hdr
        cases atCT (j :: p') rt'.ty (pl q).ct with
        | node b cap kids => exact ⟨_, by simp only [Nat.sub_zero]; rfl, fun _ => by simp⟩
        | nil => rfl
        | leaf => rfl
        | pair => rfl
      · cases h
    · cases h
  · cases h

theorem run_store {T : Nat} {x y : Operand} {o : Oper} (ho : o.op = .store T x y) {v : Value} {w' : World} (h : (match (Instr.storeAt T (a.eval x) (a.eval y)).run P w with | .ok _ w' => .ok undef w' | .halt e w' => .halt e w') = Result.ok v w') :
    (execOp a.eval o).run P w = .ok .skip w' ∧ v = undef := by
  obtain ⟨dst, op, type, pos, after, guard⟩ := o
  simp only at ho
  subst ho
  exact exec_unit rfl h

end
end Fer

namespace Fer
open Go

theorem spl_same {arr : Array Value} {o n : Nat} (h : o + n ≤ arr.size) : spl arr o (cellsAt arr o n) = arr := by
  have hl := length_cellsAt h
  unfold spl
  rw [hl]
  unfold cellsAt
  have h1 : arr.toList.take o ++ (arr.toList.drop o).take n ++ arr.toList.drop (o + n) = arr.toList := by
    rw [List.append_assoc, ← List.drop_drop, List.take_append_drop, List.take_append_drop]
  rw [h1]
theorem setRow_same {w : World} {b : Nat} {arr : Array Value} {E : Nat} {fr : Nat × Nat} (h : w.heap[b]? = some (.cells arr E fr)) : w.setRow b arr = w := by
  have hh : (w.setRow b arr).heap = w.heap := by
    apply Array.ext_getElem?
    intro i
    by_cases e : i = b
    · subst e
      rw [setRow_heap w i arr arr E fr h, h]
    · exact setRow_other w b i arr e
  have e : w.setRow b arr = { w with heap := (w.setRow b arr).heap } := rfl
  rw [e, hh]

section
variable {P : Program} {C : Ctx} {w0 : World} {S0 : Nat → Prop} {N : Nat} {pc : Pins} {s : XS} {a : Act} {w : World} {S : Nat → Prop} {pl : Nat → PL}

theorem xipp_ok (hC : CtxOK P C w0 S0) (R : RelAt w0 S0 N false pc s a w S pl) {o : Oper} {i0 f : Nat} {args : Array Operand} {ats : Array TypeId} {K : XS → Prop} (hd : ∀ t, o.dst = some t → t < N) (ho : o.op = .call { callee := .value (.func f), args, argTypes := ats }) {sp : Spec} (hs : C.ip f = some sp)
    {x : Operand} {xs : List Operand} (hargs : args.toList = x :: xs) {r i : Nat} {q : List Nat} (hx : s.ev x = some (.ref r (i :: q))) {rt : RT} (hr : s.root r = some rt) (hh : rt.h = none) {el : EL} (hel : elAt rt (i :: q) = some el) (hok : okNode rt (i :: q))
    (hk : el.t.lev + 1 ≤ dep (i :: q) rt.ty (rt.k + 1)) {ts : List Ty} (hps : sp.ps = .list el.e el.t :: ts)
    {p : Prop} {l : List TV} (ha : argsAV (s.kill r) ts xs = some (p, l)) (hp : p) (hK : sp.wp (⟨.list el.e el.t, el.l⟩ :: l) fun outs => match outs with | [v] => K ((s.wrote r rt (i :: q) v).put o.dst (.tup [])) | _ => False) :
    Out P false o i0 pc a w (fun pc' a' w' => ∃ s', K s' ∧ Rel w0 S0 N false pc' s' a' w') := by
  obtain ⟨⟨fn, hf, hn, hb⟩, hcall⟩ := hC.2.2.2.1 f sp hs
  have hk2 : ∀ r2 rt2, (s.kill r).root r2 = some rt2 → r2 ≠ r ∧ s.root r2 = some rt2 := fun r2 rt2 h => lk_rm_some h
  have RK := R.kill r
  obtain ⟨b1, o1, cs1, F1, pl1, hadr1, hloc, H1, R1, hct, hsb, hF⟩ := R.punch hr hh hok.1
  have hat := elAt_eq hel
  have hdp : dep (i :: q) (rt.cut (i :: q)).ty ((rt.cut (i :: q)).k + 1) = dep (i :: q) rt.ty (rt.k + 1) := rfl
  have hx1 : a.eval x = hdr (atCT (i :: q) rt.ty (pl r).ct) (rt.at (i :: q)).len := (R.ev hx).1 rt hr
  rw [hat] at H1 hx1
  have H1 : Own w S (.list el.e el.t) (dep (i :: q) rt.ty (rt.k + 1)) el.l none (atCT (i :: q) rt.ty (pl r).ct) cs1 F1 := H1
  obtain ⟨hv, rfl⟩ : ∃ hv, cs1 = [hv] := by
    have := H1.length
    match cs1, this with
    | [u], _ => exact ⟨u, rfl⟩
  have hdep : ∃ k', dep (i :: q) rt.ty (rt.k + 1) = k' + 1 := ⟨dep (i :: q) rt.ty (rt.k + 1) - 1, by omega⟩
  obtain ⟨k', hk'⟩ := hdep
  rw [hk'] at H1
  have hv0 : a.eval x = hv := by
    rw [hx1]
    exact (H1.hdr (by simp)).1.symm
  have hFlt : ∀ n, F1 n → n < w.heap.size := fun n hn => (hF n hn).2.1
  have hS : ∀ n, S n → butF w F1 n := fun n hn => ⟨R.lt n hn, fun h => (hF n h).2.2.1 hn⟩
  have hT : ∀ r2 rt2 n, (s.kill r).root r2 = some rt2 → (pl r2).F n → butF w F1 n := fun r2 rt2 n h2 h3 => ⟨(R.Flt r2 rt2 n (hk2 r2 rt2 h2).2 h3).1, fun h => (hk2 r2 rt2 h2).1 (R.disj r2 r rt2 rt n (hk2 r2 rt2 h2).2 hr h3 (hF n h).1)⟩
  have hO : Own w (butF w F1) (.list el.e el.t) (el.t.lev + 1) el.l none (atCT (i :: q) rt.ty (pl r).ct) [a.eval x] F1 := by
    rw [hv0]
    exact own_full' hS (by simp only [Ty.lev]; omega) (by simp only [Ty.lev]; omega) H1
  have hA := argsAV_S RK hS hT ts xs p l ha hp
  have hrun : (execOp a.eval o).run P w = .ok (.enter f (a.eval x :: xs.map a.eval).toArray) w := by
    unfold execOp
    rw [ho]
    have e : (a.eval x :: xs.map a.eval).toArray = args.map a.eval := by rw [← List.map_cons, ← hargs, ← Array.toList_map, Array.toArray_toList]
    rw [e]
    have := run_call (P := P) (w := w) hf hn hb (args.map a.eval)
    simp only [resolve, invoke, Deferred.ofValue, Act.eval, Sem.run_bind, Sem.run_pure, Result.andThen_ok, Array.empty_append, Array.append_empty]
    exact this
  have main : o.wp P a w (fun a' w' => (false = true → kept o pc w w') ∧ ∃ s', K s' ∧ Rel w0 S0 N false pc s' a' w') noQ := by
    unfold Oper.wp
    rw [hrun]
    refine Calls.mono (hcall el.e el.t ts el.l l _ hps hK w _ _ _ _ hO hFlt hA) fun e w' h => ?_
    cases e with
    | returned v =>
      obtain ⟨rfl, g, x', ct', G, h1, h2, h3⟩ := h
      have hroots : ∀ r2 rt2 n, (s.setRoot r (rt.cut (i :: q))).root r2 = some rt2 → (pl1 r2).F n → butF w F1 n := fun r2 rt2 n h2 h3 => ⟨(R1.Flt r2 rt2 n h2 h3).1, fun h => (hF n h).2.2.2.1 r2 rt2 h2 h3⟩
      have R2 : RelAt w0 S0 N false pc (s.setRoot r (rt.cut (i :: q))) a w' S pl1 := R1.moved g.os g.tape (g.output.mono fun n hn => hS n (R.base n hn)) g.size fun n hn h => g.old n (by
        rcases h with h | ⟨r2, rt2, h3, h4⟩
        · exact hS n h
        · exact hroots r2 rt2 n h3 h4)
      have hr1 : (s.setRoot r (rt.cut (i :: q))).root r = some (rt.cut (i :: q)) := by simp [XS.root, XS.setRoot, lk]
      have Hy : Own w' S (.list el.e el.t) (dep (i :: q) (rt.cut (i :: q)).ty ((rt.cut (i :: q)).k + 1)) x' none ct' [a.eval x] G := by
        rw [hdp]
        exact own_full' (fun _ h => h.elim) (by simp only [Ty.lev]; omega) (by simp only [Ty.lev]; omega) h3
      obtain ⟨b, oo, arr, E, q1, q2, q3, q4, pl', R3⟩ := R2.fill hr1 (i := i) (p := q) rfl hok.1 (y := ⟨.list el.e el.t, x'⟩) Hy (show Ty.list el.e el.t = (rt.at (i :: q)).t by rw [hat]) (fun n hn => by
        obtain ⟨g1, g2⟩ := h2 n hn
        refine ⟨g2, fun hSn => g1 (hS n hSn), fun r2 rt2 h5 h6 => ?_, fun hdd => by cases hdd⟩
        exact g1 (hroots r2 rt2 n h5 h6))
      have hadr : addrP (pl1 r) (rt.cut (i :: q)) (i :: q) = addrP (pl r) rt (i :: q) := by
        simp only [addrP, hct]; rfl
      obtain ⟨arr1, E1, l1, l2, l3⟩ := hloc
      have hbb : b = b1 ∧ oo = o1 := by
        have e := q1.symm.trans (hadr.trans hadr1)
        simp only [Value.pointer.injEq, Option.some.injEq, Addr.mk.injEq, and_true] at e
        exact e
      obtain ⟨rfl, rfl⟩ := hbb
      have hb1 : butF w F1 b := hroots r (rt.cut (i :: q)) b hr1 q4
      have hsame : arr = arr1 ∧ E = E1 := by
        have e := (g.old b hb1).symm.trans q2
        rw [l1] at e
        simp only [Option.some.injEq, Obj.cells.injEq, and_true] at e
        exact ⟨e.1.symm, e.2.symm⟩
      obtain ⟨rfl, rfl⟩ := hsame
      have hspl : spl arr oo [a.eval x] = arr := by
        have e : [a.eval x] = cellsAt arr oo 1 := by rw [hv0]; exact l3.symm
        rw [e]
        exact spl_same (by simpa using l2)
      rw [hspl, setRow_same q2] at R3
      have est : ({ (s.setRoot r (rt.cut (i :: q))).setRoot r ((rt.cut (i :: q)).wr (i :: q) ⟨.list el.e el.t, x'⟩) with env := cutEnv r (safeR (rt.cut (i :: q)).ty (i :: q)) (safeP (rt.cut (i :: q)).ty (i :: q)) (s.setRoot r (rt.cut (i :: q))).env } : XS) = s.wrote r rt (i :: q) ⟨.list el.e el.t, x'⟩ := by
        simp only [XS.setRoot, XS.wrote, rm, if_true, rm_rm]; rfl
      rw [est] at R3
      exact ⟨(fun h => by cases h), _, h1, S, pl', R3.put hd ⟨[], rfl, .nil⟩ fun _ h => by cases h⟩
    | panicked => exact h.elim
    | outgrown => exact h.elim
  refine .inl ?_
  unfold Out0
  have hk : okind o.op = 2 := by rw [ho]; rfl
  rw [hk]
  exact main

end
end Fer
