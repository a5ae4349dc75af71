/-
  strconv.Itoa by the library's contract, of 0 to 99; Write, Text. No condition.
-/
import Derived.Shelf.Strconv.Itoa3
import Derived.Test.YtcgljjdfgicjpaaDoorRows
import Derived.Test.YtcgljjdfgicjpaaDoorInsA
import Derived.Test.YtcgljjdfgicjpaaDoorFerMa
set_option linter.unusedSimpArgs false
set_option linter.unusedVariables false
set_option maxHeartbeats 1000000
-- SPECS: tL, tI, tB, LI, NI, LLI, tLL, spL, spII, itoaSp, tabSp, ftabSp, writeSp, textSp, List.set_cons_zero, List.getD_cons_zero
namespace Fer
open Go Go.Proofs

def tS (l : List UInt8) : TV := ⟨.str, bsL l⟩
def itoaSp : Spec := ⟨[NI], fun args K => match args with
  | [⟨.int _, n⟩] => 0 ≤ n ∧ n ≤ 99 ∧ K [tS (dgt n)]
  | _ => False⟩
def itRen : Go.Shelf.Ren := ⟨fun | 129 => 22 | 171 => 11 | 243 => 14 | 246 => 16 | 283 => 17 | 284 => 18 | 285 => 19 | 286 => 20 | 317 => 21 | 318 => 23 | 319 => 24 | 320 => 25 | 337 => 26 | 338 => 27 | n => n, fun | 0 => 0 | 2 => 2 | 3 => 3 | 4 => 4 | 5 => 5 | 9 => 9 | 20 => 20 | 37 => 44 | 46 => 53 | 51 => 50 | 53 => 41 | 171 => 40 | 173 => 45 | 212 => 49 | 213 => 51 | 232 => 56 | 233 => 57 | n => n, fun | 17 => 0 | 18 => 1 | 19 => 2 | n => n⟩
set_option maxRecDepth 100000 in
theorem itLay : Lays.n171 Tryd.prog itRen where
  mixed := by kernel_rfl
  f129 := Tryd.func22.trans (congrArg some (by kernel_rfl))
  f171 := Tryd.func11.trans (congrArg some (by kernel_rfl))
  f243 := Tryd.func14.trans (congrArg some (by kernel_rfl))
  f246 := Tryd.func16.trans (congrArg some (by kernel_rfl))
  f283 := Tryd.func17.trans (congrArg some (by kernel_rfl))
  f284 := Tryd.func18.trans (congrArg some (by kernel_rfl))
  f285 := Tryd.func19.trans (congrArg some (by kernel_rfl))
  f286 := Tryd.func20.trans (congrArg some (by kernel_rfl))
  f317 := Tryd.func21.trans (congrArg some (by kernel_rfl))
  f318 := Tryd.func23.trans (congrArg some (by kernel_rfl))
  f319 := Tryd.func24.trans (congrArg some (by kernel_rfl))
  f320 := Tryd.func25.trans (congrArg some (by kernel_rfl))
  f337 := Tryd.func26.trans (congrArg some (by kernel_rfl))
  f338 := Tryd.func27.trans (congrArg some (by kernel_rfl))
  t0 := Tryd.underlying0
  a0 := Tryd.isAgg0
  z0 := Tryd.sizeOf0
  v0 := Tryd.zeroValue0
  t2 := Tryd.underlying2
  a2 := Tryd.isAgg2
  z2 := Tryd.sizeOf2
  v2 := Tryd.zeroValue2
  t3 := Tryd.underlying3
  a3 := Tryd.isAgg3
  z3 := Tryd.sizeOf3
  v3 := Tryd.zeroValue3
  t4 := Tryd.underlying4
  a4 := Tryd.isAgg4
  z4 := Tryd.sizeOf4
  v4 := Tryd.zeroValue4
  t5 := Tryd.underlying5
  a5 := Tryd.isAgg5
  z5 := Tryd.sizeOf5
  v5 := Tryd.zeroValue5
  t9 := Tryd.underlying9
  a9 := Tryd.isAgg9
  z9 := Tryd.sizeOf9
  v9 := Tryd.zeroValue9
  t20 := Tryd.underlying20
  a20 := Tryd.isAgg20
  z20 := Tryd.sizeOf20
  v20 := Tryd.zeroValue20
  t37 := Tryd.underlying44
  a37 := Tryd.isAgg44
  z37 := Tryd.sizeOf44
  v37 := Tryd.zeroValue44
  t46 := Tryd.underlying53
  a46 := Tryd.isAgg53
  z46 := Tryd.sizeOf53
  v46 := Tryd.zeroValue53
  t51 := Tryd.underlying50
  a51 := Tryd.isAgg50
  z51 := Tryd.sizeOf50
  v51 := Tryd.zeroValue50
  t53 := Tryd.underlying41
  a53 := Tryd.isAgg41
  z53 := Tryd.sizeOf41
  v53 := Tryd.zeroValue41
  t171 := Tryd.underlying40
  a171 := Tryd.isAgg40
  z171 := Tryd.sizeOf40
  v171 := Tryd.zeroValue40
  t173 := Tryd.underlying45
  a173 := Tryd.isAgg45
  z173 := Tryd.sizeOf45
  v173 := Tryd.zeroValue45
  t212 := Tryd.underlying49
  a212 := Tryd.isAgg49
  z212 := Tryd.sizeOf49
  v212 := Tryd.zeroValue49
  t213 := Tryd.underlying51
  a213 := Tryd.isAgg51
  z213 := Tryd.sizeOf51
  t232 := Tryd.underlying56
  a232 := Tryd.isAgg56
  z232 := Tryd.sizeOf56
  v232 := Tryd.zeroValue56
  t233 := Tryd.underlying57
  a233 := Tryd.isAgg57
  z233 := Tryd.sizeOf57
  v233 := Tryd.zeroValue57
  g17 := by kernel_rfl
  g18 := by kernel_rfl
  g19 := by kernel_rfl

theorem itoa_ok : FnOK Tryd.prog 11 itoaSp := by
  refine ⟨⟨_, Tryd.func11, by decide, rfl⟩, fun args K hK w vs hA => ?_⟩
  obtain ⟨n, rfl, h0, h1, hk⟩ : ∃ n : Int, args = [tI n] ∧ 0 ≤ n ∧ n ≤ 99 ∧ K [tS (dgt n)] := by
    have ht := (args_get hA).2.1
    match args, ht, hK with
    | [⟨t, x⟩], ht, hK =>
      simp only [itoaSp, List.map_cons, List.map_nil, List.cons.injEq, and_true] at ht
      subst ht
      exact ⟨x, rfl, hK⟩
    | [], ht, _ => simp [itoaSp] at ht
    | _ :: _ :: _, ht, _ => simp [itoaSp] at ht
  obtain ⟨l1, _, hget⟩ := args_get hA
  obtain ⟨u, cs, h2, h3, h4⟩ := hget 0 _ rfl
  obtain rfl : vs = [u] := by
    match vs, l1, h2 with
    | [v], _, h2 => simpa using h2
  obtain rfl : u = .int .i64 n := by
    rw [h3, show cs = [.int .i64 n] from h4]
    rfl
  have hn : n = (n.toNat : Int) := (Int.toNat_of_nonneg h0).symm
  have hc := Any.strconv_Itoa_small itLay n.toNat (by omega) w
  rw [← hn] at hc
  refine hc.mono fun e w' he => ?_
  obtain ⟨rfl, rfl⟩ := he
  exact ⟨Grew.refl _, [tS (dgt n)], [.string (bsL (dgt n))], _, hk, rfl, .cons (F := noF) ⟨fun _ h => h.elim, fun _ h => h, [.string (bsL (dgt n))], rfl, rfl⟩ .nil fun _ h => h.elim⟩

end Fer
