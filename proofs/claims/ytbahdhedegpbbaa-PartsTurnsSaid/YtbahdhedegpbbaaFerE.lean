/- The type table; operations that look at no memory. Over any program. -/
import Derived.Test.YtbahdhedegpbbaaFerC
import Derived.Laws.Entries
import Derived.RowKit3
import Derived.Laws.Slices
import Derived.WideLaws
namespace Fer
open Go

inductive TE where
  | basic (t : Ty)
  | slice (e : Nat) (t : Ty) (bytes : Nat)
  | arr (n e : Nat) (t : Ty)
  | struct (ts : List Ty)
  | pair (e : Nat) (t : Ty)

def prodOf : List Ty → Ty
  | [] => .raw
  | [t] => t
  | t :: ts => .prod t (prodOf ts)

def TE.ty : TE → Option Ty
  | .basic t => some t
  | .slice e t _ => some (.list e t)
  | .arr _ _ _ => none
  | .struct ts => if 2 ≤ ts.length then some (prodOf ts) else none
  | .pair _ t => some (.prod t t)

def Ty.isProd : Ty → Bool
  | .prod _ _ => true
  | _ => false

/-- Cells that are a type's zero. -/
def zeroB : Ty → List Value → Bool
  | .int k, [.int k' n] => decide (k = k') && n == 0
  | .bool, [.bool b] => !b
  | .str, [.string s] => s.size == 0
  | .list _ _, [.slice none 0 0] => true
  | .prod a b, cs => zeroB a (cs.take a.width) && zeroB b (cs.drop a.width)
  | _, _ => false

theorem zeroB_ok (w : World) (S : Nat → Prop) : ∀ (t : Ty) (cs : List Value), zeroB t cs = true → RO w S t t.dflt cs
  | .int k, [.int k' n], h => by
    simp [zeroB] at h; obtain ⟨rfl, rfl⟩ := h; rfl
  | .bool, [.bool b], h => by simp [zeroB] at h; subst h; rfl
  | .str, [.string s], h => by
    simp [zeroB] at h
    have : s = ByteArray.empty := by
      cases s with
      | mk d =>
        first
        | (have hd : d = #[] := Array.eq_empty_of_size_eq_zero h; subst hd; rfl)
        | exact h
    subst this; rfl
  | .list _ _, [.slice none 0 0], _ => ⟨none, 0, rfl, Nat.le_refl _, Nat.zero_le _, fun h => absurd rfl h⟩
  | .prod a b, cs, h => by
    simp only [zeroB, Bool.and_eq_true] at h
    exact ⟨_, _, (List.take_append_drop a.width cs).symm, zeroB_ok w S a _ h.1, zeroB_ok w S b _ h.2⟩
  | .raw, _, h => by simp [zeroB] at h
  | .int _, [], h => by simp [zeroB] at h
  | .bool, [], h => by simp [zeroB] at h
  | .str, [], h => by simp [zeroB] at h
  | .list _ _, [], h => by simp [zeroB] at h
  | .int _, _ :: _ :: _, h => by simp [zeroB] at h
  | .bool, _ :: _ :: _, h => by simp [zeroB] at h
  | .str, _ :: _ :: _, h => by simp [zeroB] at h
  | .list _ _, _ :: _ :: _, h => by simp [zeroB] at h
  | .int _, [.bool _], h | .int _, [.string _], h | .int _, [.pointer _], h | .int _, [.slice _ _ _], h | .int _, [.map _], h | .int _, [.chan _], h | .int _, [.func _ _ _], h | .int _, [.nilFunc], h | .int _, [.iface _ _], h | .int _, [.nilIface], h | .int _, [.agg _], h | .int _, [.tuple _], h | .int _, [.float _ _], h | .int _, [.complex _ _ _], h => by simp [zeroB] at h
  | .bool, [.int _ _], h | .bool, [.string _], h | .bool, [.pointer _], h | .bool, [.slice _ _ _], h | .bool, [.map _], h | .bool, [.chan _], h | .bool, [.func _ _ _], h | .bool, [.nilFunc], h | .bool, [.iface _ _], h | .bool, [.nilIface], h | .bool, [.agg _], h | .bool, [.tuple _], h | .bool, [.float _ _], h | .bool, [.complex _ _ _], h => by simp [zeroB] at h
  | .str, [.int _ _], h | .str, [.bool _], h | .str, [.pointer _], h | .str, [.slice _ _ _], h | .str, [.map _], h | .str, [.chan _], h | .str, [.func _ _ _], h | .str, [.nilFunc], h | .str, [.iface _ _], h | .str, [.nilIface], h | .str, [.agg _], h | .str, [.tuple _], h | .str, [.float _ _], h | .str, [.complex _ _ _], h => by simp [zeroB] at h
  | .list _ _, [.int _ _], h | .list _ _, [.bool _], h | .list _ _, [.pointer _], h | .list _ _, [.string _], h | .list _ _, [.map _], h | .list _ _, [.chan _], h | .list _ _, [.func _ _ _], h | .list _ _, [.nilFunc], h | .list _ _, [.iface _ _], h | .list _ _, [.nilIface], h | .list _ _, [.agg _], h | .list _ _, [.tuple _], h | .list _ _, [.float _ _], h | .list _ _, [.complex _ _ _], h => by simp [zeroB] at h
  | .list _ _, [.slice (some _) _ _], h => by simp [zeroB] at h
  | .list _ _, [.slice none (_ + 1) _], h => by simp [zeroB] at h
  | .list _ _, [.slice none 0 (_ + 1)], h => by simp [zeroB] at h

/-- One type as the program has it. -/
def infoB (P : Program) (i : Nat) (t : Ty) : Bool :=
  match P.info? i with
  | some inf => inf.size == t.width && (match inf.zero with | some z => z.cells.toList.length == t.width && zeroB t z.cells.toList | none => false)
  | none => false

def aggB (P : Program) (i : Nat) : Bool :=
  match P.underlying i with
  | some (.struct _) | some (.array _ _) => true
  | _ => false

def fieldsB (P : Program) : List Field → List Ty → Nat → Bool
  | [], [], _ => true
  | f :: fs, t :: ts, o => f.offset == o && (match P.info? f.type with | some inf => inf.size == t.width | none => false) && aggB P f.type == t.isProd && fieldsB P fs ts (o + t.width)
  | _, _, _ => false

def teB (P : Program) (i : Nat) : TE → Bool
  | .basic t => infoB P i t && aggB P i == false && !t.isProd && (match t, P.underlying i with | .int k, some (.int k') => decide (k = k') | .bool, some .bool => true | .str, some .string => true | _, _ => false)
  | .slice e t b => infoB P e t && (match P.underlying i with | some (.slice e') => e' == e | _ => false) && aggB P e == t.isProd && (match P.info? e with | some inf => inf.bytes == b | none => false) && infoB P i (.list e t)
  | .arr n e t => infoB P e t && (match P.underlying i with | some (.array n' e') => e' == e && n' == n | _ => false) && aggB P e == t.isProd &&
      (match P.info? i with
      | some inf => inf.size == n * t.width && (match inf.zero with | some z => z.cells.size == n * t.width && (List.range n).all (fun j => zeroB t (cellsAt z.cells (j * t.width) t.width)) | none => false)
      | none => false)
  | .struct ts => decide (2 ≤ ts.length) && (match P.underlying i with | some (.struct fs) => fieldsB P fs.toList ts 0 | _ => false) && infoB P i (prodOf ts)
  | .pair e t => infoB P e t && (match P.underlying i with | some (.array n e') => e' == e && n == 2 | _ => false) && aggB P e == t.isProd && decide (t.width = 1) && infoB P i (.prod t t)

def ttB (P : Program) (tt : List (Nat × TE)) : Bool := tt.all fun x => teB P x.1 x.2

theorem lk_mem {α : Type} {l : List (Nat × α)} {i : Nat} {x : α} (h : lk l i = some x) : (i, x) ∈ l := by
  induction l with
  | nil => cases h
  | cons y l ih =>
    obtain ⟨j, y⟩ := y
    simp only [lk] at h
    split at h
    · rename_i e; subst e; cases h; exact List.mem_cons_self
    · exact List.mem_cons_of_mem _ (ih h)

theorem ttB_get {P : Program} {tt : List (Nat × TE)} (h : ttB P tt = true) {i : Nat} {te : TE} (hi : lk tt i = some te) : teB P i te = true :=
  List.all_eq_true.1 h _ (lk_mem hi)

structure Info (P : Program) (i : Nat) (t : Ty) : Prop where
  info : ∃ inf z, P.info? i = some inf ∧ inf.size = t.width ∧ inf.zero = some z ∧ z.cells.toList.length = t.width ∧ ∀ w S, RO w S t t.dflt z.cells.toList

theorem infoB_ok {P : Program} {i : Nat} {t : Ty} (h : infoB P i t = true) : Info P i t := by
  unfold infoB at h
  split at h
  · rename_i inf hinf
    split at h
    · rename_i z hz
      simp only [Bool.and_eq_true, beq_iff_eq] at h
      exact ⟨inf, z, hinf, h.1, hz, h.2.1, fun w S => zeroB_ok w S t _ h.2.2⟩
    · simp at h
  · cases h

/-! ### What an operation comes to -/

/-- What is asked of an operation, by its kind. -/
def Out (P : Program) (dr : Bool) (o : Oper) (i : Nat) (pc : Pins) (a : Act) (w : World) (K : Pins → Act → World → Prop) : Prop :=
  match okind o.op with
  | 0 => ∃ v, (∀ w', (execOp a.eval o).run P w' = .ok (.value v) w') ∧ K pc (a.put o.dst v) w
  | 1 => ∃ v b, (∀ w', w'.heap[b]? = w.heap[b]? → (execOp a.eval o).run P w' = .ok (.value v) w') ∧ K (addPin i b pc) (a.put o.dst v) w
  | _ => o.wp P a w (fun a' w' => (dr = true → kept o pc w w') ∧ K pc a' w') noQ

theorem Out.mono {P : Program} {dr : Bool} {o : Oper} {i : Nat} {pc : Pins} {a : Act} {w : World} {K K' : Pins → Act → World → Prop}
    (hk : ∀ p a w, K p a w → K' p a w) (h : Out P dr o i pc a w K) : Out P dr o i pc a w K' := by
  unfold Out at *
  split at h
  · obtain ⟨v, h1, h2⟩ := h; exact ⟨v, h1, hk _ _ _ h2⟩
  · obtain ⟨v, b, h1, h2⟩ := h; exact ⟨v, b, h1, hk _ _ _ h2⟩
  · exact Oper.wp_mono (fun a w h => ⟨h.1, hk _ _ _ h.2⟩) h

theorem Out.k {P : Program} {o : Oper} {i : Nat} {pc : Pins} {a : Act} {w : World} {K : Pins → Act → World → Prop}
    (h : Out P true o i pc a w K) : kUpon P o i pc a w K := by
  revert h
  unfold Out kUpon
  cases okind o.op with
  | zero => exact id
  | succ n =>
    cases n with
    | zero => exact id
    | succ n => exact fun h => Oper.wp_mono (fun a w h => ⟨h.1 rfl, h.2⟩) h

theorem Out.wp {P : Program} {dr : Bool} {o : Oper} {i : Nat} {pc : Pins} {a : Act} {w : World} {K : Act → World → Prop} {Q : Exit → Act → World → Prop}
    (h : Out P dr o i pc a w (fun _ => K)) : o.wp P a w K Q := by
  unfold Out at h
  split at h
  · obtain ⟨v, h1, h2⟩ := h
    unfold Oper.wp; rw [h1 w]; exact h2
  · obtain ⟨v, b, h1, h2⟩ := h
    unfold Oper.wp; rw [h1 w rfl]; exact h2
  · exact upon_noQ (Oper.wp_mono (fun a w h => h.2) h)

theorem Out.pure {P : Program} {dr : Bool} {o : Oper} {i : Nat} {pc : Pins} {a : Act} {w : World} {K : Pins → Act → World → Prop} (h0 : okind o.op = 0)
    (v : Value) (h1 : ∀ w', (execOp a.eval o).run P w' = .ok (.value v) w') (h2 : K pc (a.put o.dst v) w) : Out P dr o i pc a w K := by
  unfold Out; simp only [h0]; exact ⟨v, h1, h2⟩

/-! ### Operands -/

def constAV : Value → Option AV
  | .int k n => some (.dat (.int k) n)
  | .bool b => some (.dat .bool b)
  | .string s => some (.dat .str s)
  | .agg _ | .tuple _ => none
  | v => some (.dat .raw v)

def XS.ev (s : XS) : Operand → Option AV
  | .tmp i => s.get i
  | .const v => constAV v
  | .func f => some (.clo f [])
  | .global _ => none

theorem constAV_ok {w : World} {S : Nat → Prop} {rts : List (Nat × RT)} {pl : Nat → PL} {v : Value} {av : AV} (h : constAV v = some av) : AVR w S rts pl av v ∧ ∀ n, av.lt n := by
  cases v <;> simp only [constAV, Option.some.injEq] at h <;> cases h
  all_goals exact ⟨⟨[_], rfl, by first | rfl | exact ⟨rfl, rfl⟩⟩, fun n r hr => by simp [AV.ids] at hr⟩

section
variable {w0 : World} {S0 : Nat → Prop} {N : Nat} {dr : Bool} {pc : Pins} {s : XS} {a : Act} {w : World} {S : Nat → Prop} {pl : Nat → PL}

theorem RelAt.ev (R : RelAt w0 S0 N dr pc s a w S pl) {x : Operand} {av : AV} (h : s.ev x = some av) : AVR w S s.rts pl av (a.eval x) ∧ av.lt s.nxt := by
  cases x with
  | tmp i => exact R.env i av h
  | const v => exact ⟨(constAV_ok (w := w) (S := S) (rts := s.rts) (pl := pl) h).1, (constAV_ok (w := w) (S := S) (rts := s.rts) (pl := pl) h).2 _⟩
  | func f =>
    simp only [XS.ev, Option.some.injEq] at h
    subst h
    exact ⟨⟨[], rfl, rfl, by simp⟩, fun r hr => by simp [AV.ids] at hr⟩
  | global g => cases h

theorem AVR.int {k : IntKind} {n : Int} {rts : List (Nat × RT)} {v : Value} (h : AVR w S rts pl (.dat (.int k) n) v) : v = .int k n := by
  obtain ⟨cs, rfl, h⟩ := h; simp only [RO] at h; subst h; rfl
theorem AVR.bool {b : Bool} {rts : List (Nat × RT)} {v : Value} (h : AVR w S rts pl (.dat .bool b) v) : v = .bool b := by
  obtain ⟨cs, rfl, h⟩ := h; simp only [RO] at h; subst h; rfl
theorem AVR.str {b : ByteArray} {rts : List (Nat × RT)} {v : Value} (h : AVR w S rts pl (.dat .str b) v) : v = .string b := by
  obtain ⟨cs, rfl, h⟩ := h; simp only [RO] at h; subst h; rfl
theorem AVR.raw {u : Value} {rts : List (Nat × RT)} {v : Value} (h : AVR w S rts pl (.dat .raw u) v) : v = u ∧ u.oneCell' = true := by
  obtain ⟨cs, rfl, h⟩ := h; simp only [RO] at h; obtain ⟨rfl, h⟩ := h; exact ⟨rfl, h⟩
theorem AVR.list {e : Nat} {t : Ty} {l : List t.den} {rts : List (Nat × RT)} {v : Value} (h : AVR w S rts pl (.dat (.list e t) l) v) :
    ∃ ad cap, v = .slice ad l.length cap ∧ RO w S (.list e t) l [v] ∧ l.length ≤ cap ∧ cap ≤ maxLen := by
  obtain ⟨cs, rfl, h⟩ := h
  obtain ⟨ad, cap, rfl, h2, h3, h4⟩ := h
  exact ⟨ad, cap, rfl, ⟨ad, cap, rfl, h2, h3, h4⟩, h2, h3⟩

theorem AVR.mkInt (k : IntKind) (n : Int) (rts : List (Nat × RT)) : AVR w S rts pl (.dat (.int k) n) (.int k n) := ⟨[_], rfl, rfl⟩
theorem AVR.mkBool (b : Bool) (rts : List (Nat × RT)) : AVR w S rts pl (.dat .bool b) (.bool b) := ⟨[_], rfl, rfl⟩
theorem AVR.mkStr (b : ByteArray) (rts : List (Nat × RT)) : AVR w S rts pl (.dat .str b) (.string b) := ⟨[_], rfl, rfl⟩
end

/-! ### Arithmetic and comparison -/

def inR : IntKind → Int → Prop
  | .i64, z => -9223372036854775808 ≤ z ∧ z ≤ 9223372036854775807
  | .u8, z => 0 ≤ z ∧ z ≤ 255
  | .u64, z => 0 ≤ z ∧ z ≤ 18446744073709551615
  | k, z => k.wrap z = z

theorem inR_wrap {k : IntKind} {z : Int} (h : inR k z) : k.wrap z = z := by
  cases k <;> simp only [inR] at h <;> first | exact h | skip
  · rw [IntKind.wrap_i64]; omega
  · rw [IntKind.wrap_u8]; omega
  · rw [show IntKind.u64.wrap z = z % 18446744073709551616 by simp [IntKind.wrap, IntKind.bits, IntKind.signed]]; omega

structure PR where
  pre : Prop
  av : AV

def cmpInt (op : BinOp) (x y : Int) : Option Bool :=
  match op with
  | .eql => some (decide (x = y))
  | .neq => some (!decide (x = y))
  | .lss => some (decide (x < y))
  | .leq => some (decide (x ≤ y))
  | .gtr => some (decide (y < x))
  | .geq => some (decide (y ≤ x))
  | _ => none

def binInt (op : BinOp) (k : IntKind) (x y : Int) : Option PR :=
  match op with
  | .add => some ⟨inR k (x + y), .dat (.int k) (x + y)⟩
  | .sub => some ⟨inR k (x - y), .dat (.int k) (x - y)⟩
  | .mul => some ⟨inR k (x * y), .dat (.int k) (x * y)⟩
  | .quo => some ⟨y ≠ 0 ∧ inR k (x.tdiv y), .dat (.int k) (x.tdiv y)⟩
  | .rem => some ⟨y ≠ 0, .dat (.int k) (x.tmod y)⟩
  | .shr => if y = 1 then some ⟨True, .dat (.int k) (x / 2)⟩ else none
  | op => match cmpInt op x y with
    | some b => some ⟨True, .dat .bool b⟩
    | none => none

def binBool (op : BinOp) (x y : Bool) : Option PR :=
  match op with
  | .eql => some ⟨True, .dat .bool (x == y)⟩
  | .neq => some ⟨True, .dat .bool (x != y)⟩
  | _ => none

def binStr (op : BinOp) (x y : ByteArray) : Option PR :=
  match op with
  | .add => some ⟨x.size + y.size ≤ 9223372036854775807, .dat .str (x ++ y)⟩
  | .eql => some ⟨True, .dat .bool (x.toList == y.toList)⟩
  | .neq => some ⟨True, .dat .bool (!(x.toList == y.toList))⟩
  | .lss => some ⟨True, .dat .bool (Op.bytesLess x.toList y.toList)⟩
  | _ => none

def binAV (te : Option TE) (op : BinOp) (x y : AV) : Option PR :=
  match x, y with
  | .dat (.int k) x, .dat (.int k') y => if k = k' then binInt op k x y else none
  | .dat .bool x, .dat .bool y => match te with | some (.basic .bool) => binBool op x y | _ => none
  | .dat .str x, .dat .str y => binStr op x y
  | _, _ => none

theorem binInt_ok {P : Program} {w : World} {S : Nat → Prop} {pl : Nat → PL} {op : BinOp} {T : Nat} {x y : Operand} {k : IntKind} {m n : Int} {pr : PR} (h : binInt op k m n = some pr) (hp : pr.pre) :
    ∃ v, (∀ w', (do eqGuard op T x y (.int k m) (.int k n); binOp op T (.int k m) (.int k n)).run P w' = .ok v w') ∧ (∀ rts, AVR w S rts pl pr.av v) ∧ ∀ i, pr.av.lt i := by
  have hg : ∀ w', (eqGuard op T x y (.int k m) (.int k n)).run P w' = .ok () w' := by
    intro w'; unfold eqGuard; cases op <;> rfl
  have hl : ∀ (t : Ty) (z : t.den) i, (AV.dat t z).lt i := fun t z i r hr => by simp [AV.ids] at hr
  cases op
  case shr =>
    simp only [binInt] at h
    split at h
    · rename_i hn
      cases h
      subst hn
      refine ⟨.int k (m / 2), fun w' => ?_, fun rts => AVR.mkInt _ _ _, hl _ _⟩
      simp only [binOp_shr, Sem.run_bind, hg, Result.andThen_ok]
      rw [shift_shr _ _ _ _ (by decide) (by cases k <;> decide)]
      rfl
    · cases h
  all_goals simp only [binInt, cmpInt, Option.some.injEq, reduceCtorEq] at h
  all_goals cases h
  case add => exact ⟨_, fun w' => by simp [hg, binOp, Op.intArith]; exact inR_wrap hp, fun rts => AVR.mkInt _ _ _, hl _ _⟩
  case sub => exact ⟨_, fun w' => by simp [hg, binOp, Op.intArith]; exact inR_wrap hp, fun rts => AVR.mkInt _ _ _, hl _ _⟩
  case mul => exact ⟨_, fun w' => by simp [hg, binOp, Op.intArith]; exact inR_wrap hp, fun rts => AVR.mkInt _ _ _, hl _ _⟩
  case quo => exact ⟨_, fun w' => by simp [hg, binOp, Op.intDiv, hp.1]; exact inR_wrap hp.2, fun rts => AVR.mkInt _ _ _, hl _ _⟩
  case rem =>
    have hp' : n ≠ 0 := hp
    exact ⟨_, fun w' => by simp [hg, binOp, Op.intDiv, hp'] <;> rfl, fun rts => AVR.mkInt _ _ _, hl _ _⟩
  case eql => exact ⟨_, fun w' => by simp [hg, binOp, Op.intCmp] <;> rfl, fun rts => AVR.mkBool _ _, hl _ _⟩
  case neq => exact ⟨_, fun w' => by simp [hg, binOp, Op.intCmp] <;> rfl, fun rts => AVR.mkBool _ _, hl _ _⟩
  case lss => exact ⟨_, fun w' => by simp [hg, binOp, Op.intCmp] <;> rfl, fun rts => AVR.mkBool _ _, hl _ _⟩
  case leq => exact ⟨_, fun w' => by simp [hg, binOp, Op.intCmp] <;> rfl, fun rts => AVR.mkBool _ _, hl _ _⟩
  case gtr => exact ⟨_, fun w' => by simp [hg, binOp, Op.intCmp] <;> rfl, fun rts => AVR.mkBool _ _, hl _ _⟩
  case geq => exact ⟨_, fun w' => by simp [hg, binOp, Op.intCmp] <;> rfl, fun rts => AVR.mkBool _ _, hl _ _⟩

end Fer
