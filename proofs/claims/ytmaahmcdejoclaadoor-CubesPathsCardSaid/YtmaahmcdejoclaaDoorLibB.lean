/-
  strings.Builder's WriteByte, WriteString and String, with all that stays as it was. No condition.
-/
import Derived.Test.YtmaahmcdejoclaaDoorRows
import Derived.Test.YtmaahmcdejoclaaDoorLibF
set_option linter.unusedSimpArgs false
set_option linter.unusedVariables false
set_option maxHeartbeats 2000000
namespace Fer
open Go Go.Proofs Go.Shelf Go.RowKit

/-- What a write leaves behind. -/
structure BOut (TB T8 b : Nat) (v : Value) (bs' : List Value) (w w' : World) : Prop where
  os : w'.os = w.os
  tape : w'.tape = w.tape
  output : w'.output = w.output
  size : w.heap.size ≤ w'.heap.size
  blk : ∃ v', w'.heap[b]? = some (.cells #[.pointer (some ⟨b, 0, none⟩), v'] TB (0, 0)) ∧ w'.ownsRow 0 T8 1 v' bs'.length bs' ∧ v'.ownBlock ≠ some b ∧ (∀ g, v'.ownBlock = some g → v.ownBlock = some g ∨ w.heap.size ≤ g)
  old : ∀ k, k < w.heap.size → k ≠ b → v.ownBlock ≠ some k → w'.heap[k]? = w.heap[k]?

theorem setCell_b {w : World} {b : Nat} {x y z : Value} {T : Nat} (hb : w.heap[b]? = some (.cells #[x, y] T (0, 0))) (j : Nat) :
    (w.setCell ⟨b, j, none⟩ z).heap[b]? = some (.cells (#[x, y].setIfInBounds j z) T (0, 0)) ∧ ∀ k, k ≠ b → (w.setCell ⟨b, j, none⟩ z).heap[k]? = w.heap[k]? := by
  constructor
  · simp [World.setCell, Array.getElem?_modify, hb]
  · intro k hk
    simp [World.setCell, Array.getElem?_modify, Ne.symm hk]
theorem blk_lt {w : World} {b : Nat} {o : Obj} (hb : w.heap[b]? = some o) : b < w.heap.size := by
  rcases Nat.lt_or_ge b w.heap.size with h | h
  · exact h
  · simp [Array.getElem?_eq_none h] at hb

/-- All but the heap is as it was, and that is as long. -/
structure Kept (w w1 : World) : Prop where
  os : w1.os = w.os
  tape : w1.tape = w.tape
  output : w1.output = w.output
  size : w1.heap.size = w.heap.size

section
variable {P : Program} {ρ : Ren}
theorem copyCheck_at (L : Lays.n240 P ρ) (X : Builder.X72 P ρ) (b : Nat) (p v : Value) (w : World) (hb : w.heap[b]? = some (.cells #[p, v] (ρ.t 72) (0, 0))) (hp : p = .pointer none ∨ p = .pointer (some ⟨b, 0, none⟩)) :
    Calls P (ρ.f 240) #[.pointer (some ⟨b, 0, none⟩)] w fun e w' => e = .returned (.tuple #[]) ∧ Kept w w' ∧ w'.heap[b]? = some (.cells #[.pointer (some ⟨b, 0, none⟩), v] (ρ.t 72) (0, 0)) ∧ ∀ k, k ≠ b → w'.heap[k]? = w.heap[k]? := by
  rcases hp with rfl | rfl
  · refine (Any.Builder_copyCheck_fresh L X b w (by rw [Lib.cell_of_heap hb]; rfl) (by simp [World.shape?, hb]) (Lib.frozen_of_heap hb 0)).mono fun e w' h => ?_
    obtain ⟨rfl, rfl⟩ := h
    obtain ⟨h1, h2⟩ := setCell_b (z := .pointer (some ⟨b, 0, none⟩)) hb 0
    exact ⟨rfl, ⟨rfl, rfl, rfl, by simp⟩, h1, h2⟩
  · refine (Any.Builder_copyCheck_used L X b w (by rw [Lib.cell_of_heap hb]; rfl)).mono fun e w' h => ?_
    obtain ⟨rfl, rfl⟩ := h
    exact ⟨rfl, ⟨rfl, rfl, rfl, rfl⟩, hb, fun _ _ => rfl⟩
theorem own_moved {w w1 : World} {b e : Nat} {v : Value} {bs : List Value} (hown : w.ownsRow 0 e 1 v bs.length bs) (hne : v.ownBlock ≠ some b) (hold : ∀ k, k ≠ b → w1.heap[k]? = w.heap[k]?) : w1.ownsRow 0 e 1 v bs.length bs := by
  refine ⟨hown.1, hown.2.imp_right ?_⟩
  rintro ⟨g, cap, cur, rfl, q1, q2, q3⟩
  exact ⟨g, cap, cur, rfl, q1, by rw [hold g (fun e => hne (by rw [e]; rfl))]; exact q2, q3⟩
/-- The last step of a write. -/
theorem bOut_end {TB T8 b : Nat} {v v' : Value} {bs' : List Value} {w w1 w2 : World} (hne : v.ownBlock ≠ some b) (hh : w1.os = w.os ∧ w1.tape = w.tape ∧ w1.output = w.output ∧ w.heap.size ≤ w1.heap.size) (hold : ∀ k, k < w.heap.size → k ≠ b → w1.heap[k]? = w.heap[k]?) (hbw : b < w.heap.size)
    (hgrow : w1.grownBy w2 v.ownBlock) (hb2 : w2.heap[b]? = some (.cells #[.pointer (some ⟨b, 0, none⟩), v] TB (0, 0))) (hown' : w2.ownsRow 0 T8 1 v' bs'.length bs') (hv : ∀ g, v'.ownBlock = some g → v.ownBlock = some g ∨ w1.heap.size ≤ g) :
    BOut TB T8 b v bs' w (w2.setCell ⟨b, 1, none⟩ v') := by
  obtain ⟨h1, h2⟩ := setCell_b (z := v') hb2 1
  obtain ⟨q1, q2, q3, q4⟩ := hh
  have hne' : v'.ownBlock ≠ some b := fun e => by
    rcases hv b e with h | h
    · exact hne h
    · omega
  refine ⟨(hgrow.os).trans q1, (hgrow.tape).trans q2, (hgrow.output).trans q3, by have := hgrow.size; simp; omega, ⟨v', h1, own_moved hown' hne' h2, hne', fun g hg => (hv g hg).imp_right fun h => Nat.le_trans q4 h⟩, fun k hk hkb hkv => ?_⟩
  rw [h2 k hkb, hgrow.block k (by omega) (fun e => hkv e.symm), hold k hk hkb]

theorem wpList_append_run (w : World) {ops : Array Oper} {rest : List Oper} {o : Oper} {a : Act} {Q : Exit → Act → World → Prop} (hgd : o.guard = none) (x y : Operand) (t t' : TypeId)
    (ho : o.op = .call { callee := .builtin .append, args := #[x, y], argTypes := #[t, t'] }) (vx vy : Value) (hx : a.eval x = vx) (hy : a.eval y = vy) {v' : Value} {w' : World}
    (hr : (Builtin.append_ #[t, t'] o.type #[vx, vy]).run P w = .ok v' w') (h : wpList P ops Q rest (a.put o.dst v') w') : wpList P ops Q (o :: rest) a w :=
  wpList_plain hgd fun _ hK => by
    unfold Oper.wp execOp
    simp only [ho, resolve, invoke, builtin, Sem.run_bind, Sem.run_pure, Result.andThen_ok, List.map_toArray, List.map_cons, List.map_nil, hx, hy, hr]
    exact hK _ _ h
theorem wpList_append_ex (w : World) {ops : Array Oper} {rest : List Oper} {o : Oper} {a : Act} {Q : Exit → Act → World → Prop} (hgd : o.guard = none) (x y : Operand) (t t' : TypeId)
    (ho : o.op = .call { callee := .builtin .append, args := #[x, y], argTypes := #[t, t'] }) (vx vy : Value) (hx : a.eval x = vx) (hy : a.eval y = vy) {R : Value → World → Prop}
    (hr : ∀ ty, ∃ v' w', (Builtin.append_ #[t, t'] ty #[vx, vy]).run P w = .ok v' w' ∧ R v' w') (h : ∀ v' w', R v' w' → wpList P ops Q rest (a.put o.dst v') w') : wpList P ops Q (o :: rest) a w := by
  obtain ⟨v', w', h1, h2⟩ := hr o.type
  exact wpList_append_run w hgd x y t t' ho vx vy hx hy h1 (h v' w' h2)
/-- What an append leaves behind. -/
structure AppOut (e : Nat) (v : Value) (xs' : List Value) (w : World) (v' : Value) (w' : World) : Prop where
  own : w'.ownsRow 0 e 1 v' xs'.length xs'
  grow : w.grownBy w' v.ownBlock
  blk : ∀ g, v'.ownBlock = some g → v.ownBlock = some g ∨ w.heap.size ≤ g
  sl : ∃ ao n c, v' = .slice ao n c
theorem app_new {e n cap : Nat} {v : Value} {xs' : List Value} {w w' : World} {cur : Array Value} (hn : n = xs'.length) (g : Grew w w') (hb : w'.heap[w.heap.size]? = some (.cells cur e (0, 0))) (h1 : n ≤ cap) (h2 : cap ≤ maxLen) (h3 : cur.size = cap * 1) (h4 : cur.toList.take (n * 1) = xs') :
    AppOut e v xs' w (.slice (some ⟨w.heap.size, 0, none⟩) n cap) w' := by
  subst hn
  refine ⟨⟨by simp, .inr ⟨_, _, cur, rfl, Nat.zero_le _, hb, h1, h2, h3, h4⟩⟩, ⟨g.os, g.tape, g.output.out, g.size, fun k hk _ => g.old k hk⟩, fun q hq => ?_, ⟨_, _, _, rfl⟩⟩
  simp only [Value.ownBlock, Option.some.injEq] at hq
  exact .inr (by omega)
theorem app_old {e n m g cap : Nat} {xs' : List Value} {w : World} {cur0 cur : Array Value} (hn : m = xs'.length) (h0 : w.heap[g]? = some (.cells cur0 e (0, 0))) (h1 : m ≤ cap) (h2 : cap ≤ maxLen) (h3 : cur.size = cap * 1) (h4 : cur.toList.take (m * 1) = xs') :
    AppOut e (.slice (some ⟨g, 0, none⟩) n cap) xs' w (.slice (some ⟨g, 0, none⟩) m cap) (w.setRow g cur) := by
  subst hn
  refine ⟨⟨by simp, .inr ⟨g, cap, cur, rfl, Nat.zero_le _, setRow_heap w g cur0 cur e (0, 0) h0, h1, h2, h3, h4⟩⟩, ⟨rfl, rfl, rfl, by simp, fun k _ hk => setRow_other w g k _ (fun e => hk (by simp [Value.ownBlock, e]))⟩, fun q hq => .inl hq, ⟨_, _, _, rfl⟩⟩
theorem app_byte {T e ty : Nat} {v : Value} {xs : List Value} {inf : TypeInfo} {w : World} (hrow : w.ownsRow 0 e 1 v xs.length xs) (hT : P.underlying T = some (.slice e)) (hi : P.info? e = some inf) (hz : inf.zero = some (.int .u8 0)) (hsz : inf.size = 1) (hby : inf.bytes = 1)
    (ad : Addr) (c : Int) (hc : w.cell? ad = some (.int .u8 c)) (hlen : xs.length + 1 ≤ 140737488355328) :
    ∃ v' w', (Builtin.append_ #[T, T] ty #[v, .slice (some ad) 1 1]).run P w = .ok v' w' ∧ AppOut e v (xs ++ [.int .u8 c]) w v' w' := by
  obtain ⟨v', w', hr, h⟩ := append_cases (P := P) (ty := ty) hrow hT hi hz hsz hby rfl ad 1 1 [.int .u8 c] rfl (fun j u hj => by
    match j, hj with
    | 0, hj => simp at hj; subst hj; simpa [Addr.add] using hc) (fun u hu => by simp at hu; subst hu; rfl) (by omega) (by unfold maxLen; omega)
  refine ⟨v', w', hr, ?_⟩
  rcases h with ⟨_, _, h, _⟩ | ⟨cap, cur, rfl, g, _, hb, h1, h2, h3, h4⟩ | ⟨g, cap, cur, cur', rfl, rfl, hb, rfl, h1, h2, h3, h4⟩
  · cases h
  · exact app_new (by simp) g hb h1 h2 h3 h4
  · exact app_old (by simp) hb h1 h2 h3 h4
theorem app_str {T U e ty : Nat} {v : Value} {xs : List Value} {inf : TypeInfo} {w : World} (hrow : w.ownsRow 0 e 1 v xs.length xs) (hT : P.underlying T = some (.slice e)) (hU : P.underlying U = some .string) (hi : P.info? e = some inf) (hz : inf.zero = some (.int .u8 0)) (hsz : inf.size = 1) (hby : inf.bytes = 1)
    (s : ByteArray) (hs : 1 ≤ s.size ∨ xs ≠ []) (hlen : xs.length + s.size ≤ 140737488355328) :
    ∃ v' w', (Builtin.append_ #[T, U] ty #[v, .string s]).run P w = .ok v' w' ∧ AppOut e v (xs ++ Lib.strCells s) w v' w' := by
  have hl : (xs ++ Lib.strCells s).length = xs.length + s.size := by rw [List.length_append, Lib.strCells_length]
  have hm : ∀ n, n ≤ 140737488355328 → n ≤ maxLen := fun n hn => by unfold maxLen; omega
  have grown : ∀ old, ∃ cur, (w.drew.alloc (.cells (xs.toArray ++ (Lib.strCells s).toArray ++ Builtin.zeroCells (Value.int .u8 0).cells (grownCap w (xs.length + s.size) old e - (xs.length + s.size))) e)).heap[w.heap.size]? = some (.cells cur e (0, 0)) ∧
      cur.size = grownCap w (xs.length + s.size) old e * 1 ∧ cur.toList.take ((xs.length + s.size) * 1) = xs ++ Lib.strCells s := by
    intro old
    have hge := grownCap_ge w (xs.length + s.size) old e
    refine ⟨_, heap_alloc_new w.drew _, ?_, ?_⟩
    · have hz1 : (Value.int IntKind.u8 0).cells.size = 1 := rfl
      simp only [Array.size_append, List.size_toArray, size_zeroCells, hz1, Lib.strCells_length]
      omega
    · simp only [Array.toList_append, List.append_assoc]
      rw [← List.append_assoc, Nat.mul_one, ← hl]
      exact List.take_left
  rcases hrow.2 with ⟨rfl, h0⟩ | ⟨g, cap, cur, rfl, _, hg, hnc, hcm, hcs, htake⟩
  · have hx : xs = [] := List.eq_nil_of_length_eq_zero h0
    subst hx
    have hs : 1 ≤ s.size := hs.resolve_right fun h => h rfl
    have hr := run_append_nil_string (P := P) w T U ty e inf (.int .u8 0) hT hU hi hz s (by omega) (by simp at hlen; omega) (by rw [hby]; simp at hlen; omega)
    have e1 : (s.data.map fun b => Value.int .u8 b.toNat) = (Lib.strCells s).toArray := by
      apply Array.ext'
      simp [Lib.strCells]
    rw [e1] at hr
    obtain ⟨cur, q1, q2, q3⟩ := grown 0
    simp only [List.length_nil, Nat.zero_add, List.nil_append, Array.empty_append] at q1 q2 q3 ⊢
    exact ⟨_, _, hr, app_new (by rw [Lib.strCells_length]) ((Grew.drew w).trans (Grew.alloc w.drew _ _)) q1 (grownCap_ge w s.size 0 e) (grownCap_le_maxLen w s.size 0 e (hm _ (by simpa using hlen))) q2 q3⟩
  · by_cases hroom : xs.length + s.size ≤ cap
    · have hcs' : cur.size = cap := by simpa using hcs
      have hr := Lib.run_append_room_string (P := P) w T U ty e inf hT hU hi hsz g xs.length cap cur hg s hroom (by omega)
      refine ⟨_, _, hr, app_old hl.symm hg hroom hcm ?_ ?_⟩
      · simp only [List.size_toArray, List.length_append, List.length_take, List.length_drop, Array.length_toList, Lib.strCells_length]
        omega
      · have ht' : cur.toList.take xs.length = xs := by simpa using htake
        rw [ht', Nat.mul_one, ← hl]
        exact List.take_left
    · have holds : ∀ j u, xs[j]? = some u → w.cell? ((⟨g, 0, none⟩ : Addr).add j) = some u := hrow.cells (g := g) rfl
      have hr := Lib.run_append_grow_string (P := P) w T U ty e inf (.int .u8 0) hT hU hi hz ⟨g, 0, none⟩ xs.length cap xs (by rw [hsz]; simp) holds s (by omega) (by omega) (by rw [hby]; exact growslice_fits (by omega) (by omega))
      obtain ⟨cur', q1, q2, q3⟩ := grown cap
      exact ⟨_, _, hr, app_new hl.symm ((Grew.drew w).trans (Grew.alloc w.drew _ _)) q1 (grownCap_ge w _ cap e) (grownCap_le_maxLen w _ cap e (hm _ hlen)) q2 q3⟩

set_option maxRecDepth 100000 in
theorem writeByte_at (L : Lays.n167 P ρ) (X : Builder.Extra P ρ) (b : Nat) (p v : Value) (bs : List Value) (c : Int) (w : World) (hb : w.heap[b]? = some (.cells #[p, v] (ρ.t 72) (0, 0))) (hp : p = .pointer none ∨ p = .pointer (some ⟨b, 0, none⟩))
    (hown : w.ownsRow 0 (ρ.t 5) 1 v bs.length bs) (hne : v.ownBlock ≠ some b) (hlen : bs.length + 1 ≤ 140737488355328) :
    Calls P (ρ.f 167) #[.pointer (some ⟨b, 0, none⟩), .int .u8 c] w fun e w' => e = .returned .nilIface ∧ BOut (ρ.t 72) (ρ.t 5) b v (bs ++ [.int .u8 c]) w w' := by
  obtain ⟨i0, hi, hz0, hz1, hz2⟩ := info_parts X.infoByte
  have mixed := L.mixed
  have t72 := L.t72; have a72 := L.a72; have z72 := L.z72; have v72 := L.v72; have u72 := run_underlying L.t72
  have t70 := L.t70; have a70 := L.a70; have z70 := L.z70; have v70 := L.v70; have u70 := run_underlying L.t70
  have t5 := L.t5; have a5 := L.a5; have z5 := L.z5; have v5 := L.v5; have u5 := run_underlying L.t5
  have t37 := L.t37; have a37 := L.a37; have z37 := L.z37; have v37 := L.v37; have u37 := run_underlying L.t37
  have t9 := L.t9; have a9 := L.a9; have z9 := L.z9; have v9 := L.v9; have u9 := run_underlying L.t9
  have t4 := L.t4; have a4 := L.a4; have z4 := L.z4; have v4 := L.v4; have u4 := run_underlying L.t4
  have t164 := L.t164; have a164 := L.a164; have z164 := L.z164; have v164 := L.v164; have u164 := run_underlying L.t164
  have e240 : ∀ args w, (callFunc (ρ.f 240) args).run P w = .ok (.enter (ρ.f 240) args) w := enters_of L.f240 (by kernel_rfl) rfl
  go_enter L.f167, Body.n167_ntmps ρ
  go_wp2_with (go_at_fn (ρ.f 240); refine (copyCheck_at { L with } X.toX72 b p v _ hb hp).mono ?_)
  rintro e w1 ⟨rfl, hq, hbk, hold⟩
  have hltw := blk_lt hb
  have hown1 := own_moved hown hne hold
  have c0 : w1.cell? ⟨b, 0, none⟩ = some (.pointer (some ⟨b, 0, none⟩)) := by rw [Lib.cell_of_heap hbk]; rfl
  have c1 : w1.cell? ⟨b, 1, none⟩ = some v := by rw [Lib.cell_of_heap hbk]; rfl
  go_wp2_with (at_builtin; refine wpList_append_ex _ rfl _ _ (ρ.t 37) (ρ.t 37) rfl _ _ rfl rfl (fun ty => app_byte (P := P) (ty := ty) (hown1.alloc (.cells #[.int .u8 c] (ρ.t 5))) L.t37 hi hz0 hz1 hz2 ⟨w1.heap.size, 0, none⟩ c (by simp) hlen) ?_)
  intro v' w2 hap
  have hb2 : w2.heap[b]? = some (.cells #[.pointer (some ⟨b, 0, none⟩), v] (ρ.t 72) (0, 0)) := by
    rw [hap.grow.block b (by have := hq.size; simp; omega) (fun e => hne e.symm), Lib.alloc_old w1 _ b (by have := hq.size; omega)]
    exact hbk
  have d0 : w2.cell? ⟨b, 0, none⟩ = some (.pointer (some ⟨b, 0, none⟩)) := by rw [Lib.cell_of_heap hb2]; rfl
  have d1 : w2.cell? ⟨b, 1, none⟩ = some v := by rw [Lib.cell_of_heap hb2]; rfl
  have f1 : w2.frozen? ⟨b, 1, none⟩ = false := Lib.frozen_of_heap hb2 1
  obtain ⟨ao, n', cap, rfl⟩ := hap.sl
  go_wp2
  go_ret
  exact ⟨rfl, bOut_end (w1 := w1.alloc (.cells #[.int .u8 c] (ρ.t 5))) hne ⟨hq.os, hq.tape, hq.output, by have := hq.size; simp; omega⟩ (fun k hk hkb => by rw [Lib.alloc_old w1 _ k (by have := hq.size; omega)]; exact hold k hkb) hltw hap.grow hb2 hap.own hap.blk⟩

set_option maxRecDepth 100000 in
theorem writeString_at (L : Lays.n166 P ρ) (X : Builder.Extra P ρ) (b : Nat) (p v : Value) (bs : List Value) (s : ByteArray) (hs : 1 ≤ s.size ∨ bs ≠ []) (w : World) (hb : w.heap[b]? = some (.cells #[p, v] (ρ.t 72) (0, 0))) (hp : p = .pointer none ∨ p = .pointer (some ⟨b, 0, none⟩))
    (hown : w.ownsRow 0 (ρ.t 5) 1 v bs.length bs) (hne : v.ownBlock ≠ some b) (hlen : bs.length + s.size ≤ 140737488355328) :
    Calls P (ρ.f 166) #[.pointer (some ⟨b, 0, none⟩), .string s] w fun e w' => e = .returned (.tuple #[.int .i64 s.size, .nilIface]) ∧ BOut (ρ.t 72) (ρ.t 5) b v (bs ++ Lib.strCells s) w w' := by
  obtain ⟨i0, hi, hz0, hz1, hz2⟩ := info_parts X.infoByte
  have mixed := L.mixed
  have t72 := L.t72; have a72 := L.a72; have z72 := L.z72; have v72 := L.v72; have u72 := run_underlying L.t72
  have t70 := L.t70; have a70 := L.a70; have z70 := L.z70; have v70 := L.v70; have u70 := run_underlying L.t70
  have t37 := L.t37; have a37 := L.a37; have z37 := L.z37; have v37 := L.v37; have u37 := run_underlying L.t37
  have t3 := L.t3; have a3 := L.a3; have z3 := L.z3; have v3 := L.v3; have u3 := run_underlying L.t3
  have t9 := L.t9; have a9 := L.a9; have z9 := L.z9; have v9 := L.v9; have u9 := run_underlying L.t9
  have t4 := L.t4; have a4 := L.a4; have z4 := L.z4; have v4 := L.v4; have u4 := run_underlying L.t4
  have t164 := L.t164; have a164 := L.a164; have z164 := L.z164; have v164 := L.v164; have u164 := run_underlying L.t164
  have t5 := X.t5; have a5 := X.a5; have z5 := X.z5; have v5 := X.v5; have u5 := run_underlying X.t5
  have e240 : ∀ args w, (callFunc (ρ.f 240) args).run P w = .ok (.enter (ρ.f 240) args) w := enters_of L.f240 (by kernel_rfl) rfl
  go_enter L.f166, Body.n166_ntmps ρ
  go_wp2_with (go_at_fn (ρ.f 240); refine (copyCheck_at { L with } X.toX72 b p v _ hb hp).mono ?_)
  rintro e w1 ⟨rfl, hq, hbk, hold⟩
  have hltw := blk_lt hb
  have hown1 := own_moved hown hne hold
  have c0 : w1.cell? ⟨b, 0, none⟩ = some (.pointer (some ⟨b, 0, none⟩)) := by rw [Lib.cell_of_heap hbk]; rfl
  have c1 : w1.cell? ⟨b, 1, none⟩ = some v := by rw [Lib.cell_of_heap hbk]; rfl
  go_wp2_with (at_builtin; refine wpList_append_ex _ rfl _ _ (ρ.t 37) (ρ.t 9) rfl _ _ rfl rfl (fun ty => app_str (P := P) (ty := ty) hown1 L.t37 L.t9 hi hz0 hz1 hz2 s hs hlen) ?_)
  intro v' w2 hap
  have hb2 : w2.heap[b]? = some (.cells #[.pointer (some ⟨b, 0, none⟩), v] (ρ.t 72) (0, 0)) := by
    rw [hap.grow.block b (by have := hq.size; omega) (fun e => hne e.symm)]
    exact hbk
  have d0 : w2.cell? ⟨b, 0, none⟩ = some (.pointer (some ⟨b, 0, none⟩)) := by rw [Lib.cell_of_heap hb2]; rfl
  have d1 : w2.cell? ⟨b, 1, none⟩ = some v := by rw [Lib.cell_of_heap hb2]; rfl
  have f1 : w2.frozen? ⟨b, 1, none⟩ = false := Lib.frozen_of_heap hb2 1
  obtain ⟨ao, n', cap, rfl⟩ := hap.sl
  go_wp2
  go_ret2
  exact ⟨rfl, bOut_end (w1 := w1) hne ⟨hq.os, hq.tape, hq.output, by have := hq.size; omega⟩ (fun k hk hkb => hold k hkb) hltw hap.grow hb2 hap.own hap.blk⟩

theorem kept_freeze (w : World) (g n : Nat) : Kept w (w.drew.freeze ⟨g, 0, none⟩ n) ∧ ∀ k, k ≠ g → (w.drew.freeze ⟨g, 0, none⟩ n).heap[k]? = w.heap[k]? := by
  unfold World.freeze
  split
  · exact ⟨⟨rfl, rfl, rfl, rfl⟩, fun _ _ => rfl⟩
  · exact ⟨⟨rfl, rfl, rfl, by simp⟩, fun k hk => by simp [Array.getElem?_modify, Ne.symm hk]; rfl⟩
set_option maxRecDepth 100000 in
theorem string_at (L : Lays.n169 P ρ) (X : Builder.Extra P ρ) (b g cap : Nat) (p : Value) (l : List UInt8) (cur : Array Value) (w : World) (hbk : w.heap[b]? = some (.cells #[p, .slice (some ⟨g, 0, none⟩) l.length cap] (ρ.t 72) (0, 0)))
    (hg : w.heap[g]? = some (.cells cur (ρ.t 5) (0, 0))) (hnc : l.length ≤ cap) (hcm : cap ≤ maxLen) (hcs : cur.size = cap * 1) (htake : cur.toList.take (l.length * 1) = Lib.byteCells l) (h0 : l ≠ []) :
    Calls P (ρ.f 169) #[.pointer (some ⟨b, 0, none⟩)] w fun e w' => e = .returned (.string ⟨l.toArray⟩) ∧ Kept w w' ∧ ∀ k, k ≠ g → w'.heap[k]? = w.heap[k]? := by
  have hl0 : l.length ≠ 0 := by simpa using h0
  have hown : w.ownsRow 0 (ρ.t 5) 1 (.slice (some ⟨g, 0, none⟩) l.length cap) l.length (Lib.byteCells l) := ⟨by rw [Lib.byteCells_length, Nat.mul_one], .inr ⟨g, cap, cur, rfl, Nat.zero_le _, hg, hnc, hcm, hcs, htake⟩⟩
  have c1 : w.drew.cell? ⟨b, 1, none⟩ = some (.slice (some ⟨g, 0, none⟩) l.length cap) := by
    have : w.drew.heap[b]? = some (.cells #[p, .slice (some ⟨g, 0, none⟩) l.length cap] (ρ.t 72) (0, 0)) := hbk
    rw [Lib.cell_of_heap this]; rfl
  have hSD : (Builtin.unsafeSliceData_ #[(ρ.t 37)] (ρ.t 127) #[.slice (some ⟨g, 0, none⟩) l.length cap]).run P w.drew = .ok (.pointer (some ⟨g, 0, none⟩)) w.drew :=
    Lib.run_unsafeSliceData_row _ _ _ _ _ _ (by omega)
  have hUS : (Builtin.unsafeString_ #[(ρ.t 127), (ρ.t 3)] (ρ.t 9) #[.pointer (some ⟨g, 0, none⟩), .int .i64 l.length]).run P w.drew = .ok (.string ⟨l.toArray⟩) (w.drew.freeze ⟨g, 0, none⟩ l.length) := by
    refine Lib.run_unsafeString_row w.drew (ρ.t 127) (ρ.t 3) (ρ.t 9) (ρ.t 5) L.t127 X.cellsByte g cur.size (by have hg' : w.drew.heap[g]? = some (.cells cur (ρ.t 5) (0, 0)) := hg; simp [World.shape?, hg']) l h0 (by omega) (by unfold maxLen at hcm; omega) ?_
    intro j x hx
    exact hown.cells (g := g) rfl j (.int .u8 x.toNat) (by simp [Lib.byteCells, hx])
  have mixed := L.mixed
  have t72 := L.t72; have a72 := L.a72; have z72 := L.z72; have v72 := L.v72; have u72 := run_underlying L.t72
  have t70 := L.t70; have a70 := L.a70; have z70 := L.z70; have v70 := L.v70; have u70 := run_underlying L.t70
  have t37 := L.t37; have a37 := L.a37; have z37 := L.z37; have v37 := L.v37; have u37 := run_underlying L.t37
  have t127 := L.t127; have a127 := L.a127; have z127 := L.z127; have v127 := L.v127; have u127 := run_underlying L.t127
  have t3 := L.t3; have a3 := L.a3; have z3 := L.z3; have v3 := L.v3; have u3 := run_underlying L.t3
  have t9 := L.t9; have a9 := L.a9; have z9 := L.z9; have v9 := L.v9; have u9 := run_underlying L.t9
  have t5 := X.t5; have a5 := X.a5; have z5 := X.z5; have v5 := X.v5; have u5 := run_underlying X.t5
  go_enter L.f169, Body.n169_ntmps ρ
  go_wp2
  go_region_o
  all_goals (go_wp2; go_ret; exact ⟨rfl, kept_freeze w g l.length⟩)

end
end Fer
