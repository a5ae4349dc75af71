/-
  The library's strings functions as contracts: strings.Count and Split at one byte, Repeat of one byte, the Builder. No condition.
-/
import Derived.Test.YtmaahmcdejoclaaDoorRows
import Derived.Test.YtmaahmcdejoclaaDoorLib
import Derived.Test.YtmaahmcdejoclaaDoorFerMa
set_option linter.unusedSimpArgs false
set_option linter.unusedVariables false
set_option maxHeartbeats 1000000
-- SPECS: tL, tI, tB, LI, NI, gspSp, splSp
namespace Fer
open Go Go.Proofs Go.Shelf

theorem noDr (h : drFlag) : False := h
theorem grew_below {w w' : World} (h : RowKit.Below w.heap.size w w') : Grew w w' :=
  ⟨h.os, h.tape, ⟨h.output, fun a _ ha => by unfold World.frozen?; rw [h.block a.block ha], h.size, fun d => (noDr d).elim⟩, h.size, h.block⟩

def b0 (s : ByteArray) : UInt8 := s.data.getD 0 0
theorem one_b0 {s : ByteArray} (h : (s.size == 1) = true) : s = ⟨#[b0 s]⟩ := by
  obtain ⟨c, rfl⟩ := Lib.one_byte s (by simpa using h)
  rfl
def cntB (s c : ByteArray) : Int := (s.data.toList.count (b0 c) : Nat)
def cntSp : Spec := ⟨[.str, .str], fun args K => match args with
  | [⟨.str, s⟩, ⟨.str, c⟩] => (ByteArray.size c == 1) = true ∧ K [⟨.int .i64, cntB s c⟩]
  | _ => False⟩
def repSp : Spec := ⟨[.str, .int .i64], fun args K => match args with
  | [⟨.str, s⟩, ⟨.int _, n⟩] => (ByteArray.size s == 1) = true ∧ (0 : Int) ≤ n ∧ (n : Int) ≤ 1000 ∧ K [⟨.str, bsL (List.replicate (Int.toNat n) (b0 s))⟩]
  | _ => False⟩

theorem str1 {w : World} {S : Nat → Prop} {s : ByteArray} {cs : List Value} (h : RO w S .str s cs) : cs = [.string s] := h
theorem args2 {w : World} {S : Nat → Prop} {t u : Ty} {x : t.den} {y : u.den} {vs : List Value} {ts : List Ty} (h : Args w S ts [⟨t, x⟩, ⟨u, y⟩] vs) : ∃ cs ds, vs = [pack t cs, pack u ds] ∧ RO w S t x cs ∧ RO w S u y ds := by
  cases h with
  | cons h1 hl =>
    cases hl with
    | cons h2 hl =>
      cases hl
      exact ⟨_, _, rfl, h1, h2⟩

theorem count_ok : FnOK Tryd.prog 22 cntSp := by
  refine ⟨⟨_, Tryd.func22, by decide, rfl⟩, fun args K hK w vs hA => ?_⟩
  obtain ⟨s, c, rfl, h1, hk⟩ : ∃ s c : ByteArray, args = [⟨.str, s⟩, ⟨.str, c⟩] ∧ (c.size == 1) = true ∧ K [⟨.int .i64, cntB s c⟩] := by
    have ht := (args_get hA).2.1
    match args, ht, hK with
    | [⟨t, x⟩, ⟨u, y⟩], ht, hK =>
      simp only [cntSp, List.map_cons, List.map_nil, List.cons.injEq, and_true] at ht
      obtain ⟨rfl, rfl⟩ := ht
      exact ⟨x, y, rfl, hK⟩
    | [], ht, _ => simp [cntSp] at ht
    | [_], ht, _ => simp [cntSp] at ht
    | _ :: _ :: _ :: _, ht, _ => simp [cntSp] at ht
  obtain ⟨cs, ds, rfl, g1, g2⟩ := args2 hA
  rw [str1 g1, str1 g2]
  have hc := Any.strings_Count_one lib_n138 s (b0 c) w
  rw [← one_b0 h1] at hc
  refine hc.mono fun e w' he => ?_
  obtain ⟨rfl, rfl⟩ := he
  exact ⟨Grew.refl _, [⟨.int .i64, cntB s c⟩], [.int .i64 (cntB s c)], _, hk, rfl, .cons (F := noF) ⟨fun _ h => h.elim, fun _ h => h, [.int .i64 (cntB s c)], rfl, rfl⟩ .nil fun _ h => h.elim⟩

theorem repeatL_one (b : UInt8) : ∀ n, Lib.repeatL [b] n = List.replicate n b
  | 0 => rfl
  | n + 1 => by rw [Lib.repeatL, repeatL_one b n, List.replicate_succ]; rfl
theorem repeat_ok : FnOK Tryd.prog 20 repSp := by
  refine ⟨⟨_, Tryd.func20, by decide, rfl⟩, fun args K hK w vs hA => ?_⟩
  obtain ⟨s, n, rfl, h1, h2, h3, hk⟩ : ∃ (s : ByteArray) (n : Int), args = [⟨.str, s⟩, ⟨.int .i64, n⟩] ∧ (s.size == 1) = true ∧ 0 ≤ n ∧ n ≤ 1000 ∧ K [⟨.str, bsL (List.replicate n.toNat (b0 s))⟩] := by
    have ht := (args_get hA).2.1
    match args, ht, hK with
    | [⟨t, x⟩, ⟨u, y⟩], ht, hK =>
      simp only [repSp, List.map_cons, List.map_nil, List.cons.injEq, and_true] at ht
      obtain ⟨rfl, rfl⟩ := ht
      exact ⟨x, y, rfl, hK⟩
    | [], ht, _ => simp [repSp] at ht
    | [_], ht, _ => simp [repSp] at ht
    | _ :: _ :: _ :: _, ht, _ => simp [repSp] at ht
  obtain ⟨cs, ds, rfl, g1, g2⟩ := args2 hA
  rw [str1 g1, show ds = [.int .i64 n] from g2]
  have hs : s.size = 1 := by simpa using h1
  have hc := Any.strings_Repeat lib_n105 lib_bld s n.toNat w (by omega) (by rw [hs]; omega)
  have hd : s.data.toList = [b0 s] := by rw [one_b0 h1]; rfl
  rw [hd, repeatL_one, show ((n.toNat : Nat) : Int) = n by omega] at hc
  refine hc.mono fun e w' he => ?_
  obtain ⟨rfl, hb⟩ := he
  exact ⟨grew_below hb, [⟨.str, bsL (List.replicate n.toNat (b0 s))⟩], [.string (bsL (List.replicate n.toNat (b0 s)))], _, hk, rfl, .cons (F := noF) ⟨fun _ h => h.elim, fun _ h => h, [.string (bsL (List.replicate n.toNat (b0 s)))], rfl, rfl⟩ .nil fun _ h => h.elim⟩

end Fer
