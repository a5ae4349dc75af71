import Derived.Test.YtjocjlohdapmaaaTab
import Derived.Test.YtjocjlohdapmaaaFerMa
set_option linter.unusedSimpArgs false
namespace Fer
open Go Go.Proofs

theorem hm_ok : Try.prog.follows .mixedOrders = true := by kernel_rfl

@[reducible] def tL (l : List Int) : TV := ⟨.list 3 (.int .i64), l⟩
@[reducible] def tI (n : Int) : TV := ⟨.int .i64, n⟩
@[reducible] def tB (b : Bool) : TV := ⟨.bool, b⟩
@[reducible] def LI : Ty := .list 3 (.int .i64)
@[reducible] def NI : Ty := .int .i64

def FnsOK : List (Nat × Spec) → Prop
  | [] => True
  | x :: l => FnOK Try.prog x.1 x.2 ∧ FnsOK l

theorem fns_lk : ∀ {l : List (Nat × Spec)} {f : Nat} {sp : Spec}, FnsOK l → lk l f = some sp → FnOK Try.prog f sp
  | [], _, _, _, h => by cases h
  | (i, x) :: l, f, sp, hl, h => by
    simp only [lk] at h
    split at h
    · rename_i e; subst e; cases h; exact hl.1
    · exact fns_lk hl.2 h

def MvsOK : List (Nat × Spec) → Prop
  | [] => True
  | x :: l => FnMv Try.prog x.1 x.2 ∧ MvsOK l

theorem mvs_lk : ∀ {l : List (Nat × Spec)} {f : Nat} {sp : Spec}, MvsOK l → lk l f = some sp → FnMv Try.prog f sp
  | [], _, _, _, h => by cases h
  | (i, x) :: l, f, sp, hl, h => by
    simp only [lk] at h
    split at h
    · rename_i e; subst e; cases h; exact hl.1
    · exact mvs_lk hl.2 h

def IpsOK : List (Nat × Spec) → Prop
  | [] => True
  | x :: l => FnIp Try.prog x.1 x.2 ∧ IpsOK l

theorem ips_lk : ∀ {l : List (Nat × Spec)} {f : Nat} {sp : Spec}, IpsOK l → lk l f = some sp → FnIp Try.prog f sp
  | [], _, _, _, h => by cases h
  | (i, x) :: l, f, sp, hl, h => by
    simp only [lk] at h
    split at h
    · rename_i e; subst e; cases h; exact hl.1
    · exact ips_lk hl.2 h

def ClsOK : List (Nat × (Spec × List Ty)) → Prop
  | [] => True
  | x :: l => FnCl Try.prog x.1 x.2 ∧ ClsOK l

theorem cls_lk : ∀ {l : List (Nat × (Spec × List Ty))} {f : Nat} {q : Spec × List Ty}, ClsOK l → lk l f = some q → FnCl Try.prog f q
  | [], _, _, _, h => by cases h
  | (i, x) :: l, f, sp, hl, h => by
    simp only [lk] at h
    split at h
    · rename_i e; subst e; cases h; exact hl.1
    · exact cls_lk hl.2 h

def StsOK : List (Nat × SpecS) → Prop
  | [] => True
  | x :: l => FnSt Try.prog x.1 x.2 ∧ StsOK l

theorem sts_lk : ∀ {l : List (Nat × SpecS)} {f : Nat} {q : SpecS}, StsOK l → lk l f = some q → FnSt Try.prog f q
  | [], _, _, _, h => by cases h
  | (i, x) :: l, f, sp, hl, h => by
    simp only [lk] at h
    split at h
    · rename_i e; subst e; cases h; exact hl.1
    · exact sts_lk hl.2 h

theorem ctx_ok {n : Nat} {l m q : List (Nat × Spec)} {c : List (Nat × (Spec × List Ty))} {d : List (Nat × SpecS)} {w0 : World} {S0 : Nat → Prop} (h : FnsOK l) (h' : MvsOK m) (h'' : IpsOK q) (hc : ClsOK c) (hd : StsOK d) : CtxOK Try.prog ⟨n, tab, fun f => lk l f, fun f => lk m f, fun f => lk q f, fun f => lk c f, fun f => lk d f, fun f => lk [] f⟩ w0 S0 := ⟨tab_ok, fun _ _ hf => (fns_lk h hf).at, fun _ _ hf => mvs_lk h' hf, fun _ _ hf => ips_lk h'' hf, fun _ _ hf => cls_lk hc hf, fun _ _ hf => sts_lk hd hf, fun _ _ _ hf => by cases hf⟩

def spL (f : List Int → (List TV → Prop) → Prop) : Spec := ⟨[LI], fun args K => match args with | [⟨.list _ (.int _), p⟩] => f p K | _ => False⟩
def spLI (f : List Int → Int → (List TV → Prop) → Prop) : Spec := ⟨[LI, NI], fun args K => match args with | [⟨.list _ (.int _), p⟩, ⟨.int _, n⟩] => f p n K | _ => False⟩
def spIL (f : Int → List Int → (List TV → Prop) → Prop) : Spec := ⟨[NI, LI], fun args K => match args with | [⟨.int _, n⟩, ⟨.list _ (.int _), p⟩] => f n p K | _ => False⟩
def spLL (f : List Int → List Int → (List TV → Prop) → Prop) : Spec := ⟨[LI, LI], fun args K => match args with | [⟨.list _ (.int _), p⟩, ⟨.list _ (.int _), q⟩] => f p q K | _ => False⟩

theorem at_L {f : List Int → (List TV → Prop) → Prop} {args : List TV} {K : List TV → Prop} (ht : args.map (·.t) = (spL f).ps) (hK : (spL f).wp args K) : ∃ p, args = [tL p] ∧ f p K := by
  match args, ht, hK with
  | [⟨t, x⟩], ht, hK =>
    simp only [spL, List.map_cons, List.map_nil, List.cons.injEq, and_true] at ht
    subst ht
    exact ⟨x, rfl, hK⟩
  | [], ht, _ => simp [spL] at ht
  | _ :: _ :: _, ht, _ => simp [spL] at ht
theorem at_LL {f : List Int → List Int → (List TV → Prop) → Prop} {args : List TV} {K : List TV → Prop} (ht : args.map (·.t) = (spLL f).ps) (hK : (spLL f).wp args K) : ∃ p q, args = [tL p, tL q] ∧ f p q K := by
  match args, ht, hK with
  | [⟨t, x⟩, ⟨u, y⟩], ht, hK =>
    simp only [spLL, List.map_cons, List.map_nil, List.cons.injEq, and_true] at ht
    obtain ⟨rfl, rfl⟩ := ht
    exact ⟨x, y, rfl, hK⟩
  | [], ht, _ => simp [spLL] at ht
  | [_], ht, _ => simp [spLL] at ht
  | _ :: _ :: _ :: _, ht, _ => simp [spLL] at ht


def indexSp : Spec := spLI fun p n K => K [tI (if n ∈ p then (p.idxOf n : Int) else -1)]
def containsSp : Spec := spLI fun p n K => K [tB (decide (n ∈ p))]
def sameSp : Spec := spLL fun p q K => K [tB (decide (p = q))]
def cloneSp : Spec := spL fun p K => p.length ≤ 1000000 ∧ K [tL p]
def listB (a : List Int) (e : Int) (b : List Int) (f : Int) : Bool := if f ≠ 0 then decide (e = f) && decide (a = []) else decide (e = f) && decide (a = b)
def listSp : Spec := ⟨[LI, NI, LI, NI], fun args K => match args with
  | [⟨.list _ (.int _), a⟩, ⟨.int _, e⟩, ⟨.list _ (.int _), b⟩, ⟨.int _, f⟩] => K [tB (listB a e b f)]
  | _ => False⟩
end Fer
