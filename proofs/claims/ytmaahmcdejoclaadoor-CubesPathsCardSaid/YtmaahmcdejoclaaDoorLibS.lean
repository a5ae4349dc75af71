/-
  strings.Builder as a cell that is turned: WriteByte, WriteString, String as contracts. No condition.
-/
import Derived.Test.YtmaahmcdejoclaaDoorRows
import Derived.Test.YtmaahmcdejoclaaDoorLibB
set_option linter.unusedSimpArgs false
set_option linter.unusedVariables false
set_option maxHeartbeats 2000000
namespace Fer
open Go Go.Proofs Go.Shelf Go.RowKit

@[reducible] def BT (T8 : Nat) : Ty := .prod .raw (.list T8 (.int .u8))
def u8s (l : List Int) : List Value := l.map (Value.int .u8)
theorem u8s_len (l : List Int) : (u8s l).length = l.length := List.length_map _
theorem u8s_app (l m : List Int) : u8s l ++ u8s m = u8s (l ++ m) := (List.map_append).symm

theorem cells_all {arr : Array Value} {l : List Int} (h : ∀ i, i < l.length → cellsAt arr (i * 1) 1 = [.int .u8 (l.getD i 0)]) (hs : l.length ≤ arr.size) : arr.toList.take l.length = u8s l := by
  apply List.ext_getElem
  · simp [u8s]; omega
  · intro i h1 h2
    have hi : i < l.length := by simpa [u8s] using h2
    have := h i hi
    unfold cellsAt at this
    rw [Nat.mul_one, List.drop_eq_getElem_cons (by simp; omega)] at this
    simp only [List.take_succ_cons, List.take_zero, List.cons.injEq, and_true] at this
    simp only [List.getElem_take, u8s, List.getElem_map]
    rw [this, List.getD_eq_getElem?_getD, List.getElem?_eq_getElem hi]
    rfl

theorem bld_in {w : World} {T : Nat → Prop} {TB T8 b : Nat} {kids : Nat → CT} {hv : Value} {G : Nat → Prop} {x : (BT T8).den} (H : Own w T (.list TB (BT T8)) 2 [x] none (.node b 1 kids) [hv] G) :
    ∃ v, w.heap[b]? = some (.cells #[x.1, v] TB (0, 0)) ∧ w.ownsRow 0 T8 1 v (u8s x.2).length (u8s x.2) ∧ v.ownBlock ≠ some b ∧ ∀ n, G n ↔ n = b ∨ v.ownBlock = some n := by
  rcases own_inv H with ⟨h, _⟩ | ⟨b', cap, kids', arr, Fs, h, _, h2, h3, h4, h5, g1, g2, g3, g4⟩
  · cases h
  simp only [CT.node.injEq] at h
  obtain ⟨rfl, rfl, rfl⟩ := h
  have e0 := g4 0 (by simp)
  simp only [List.getD_cons_zero, Nat.zero_mul] at e0
  rcases e0 with ⟨h, _⟩ | ⟨_, e0⟩
  · cases h
  cases hk : kids 0 with
  | leaf => rw [hk] at e0; exact e0.elim
  | nil => rw [hk] at e0; exact e0.elim
  | node => rw [hk] at e0; exact e0.elim
  | pair c d =>
    rw [hk] at e0
    obtain ⟨c1, c2, F1, F2, ec, hF, hdis, hr, hl⟩ := e0
    have hF1 : ∀ n, ¬ F1 n := hr.1
    have hc1 : c1 = [x.1] := by
      rcases hr.2 with ⟨h, _⟩ | ⟨_, h⟩
      · cases h
      · exact h.1
    subst hc1
    have harr : ∀ v, c2 = [v] → arr = #[x.1, v] := fun v hv => by
      subst hv
      have hw : arr.size = 2 := h5
      have : cellsAt arr 0 2 = arr.toList := by
        simp only [cellsAt, List.drop_zero]
        exact List.take_of_length_le (by simp; omega)
      have e2 : cellsAt arr (0 * (BT T8).width) (BT T8).width = cellsAt arr 0 2 := rfl
      apply Array.ext'
      have ec' : cellsAt arr 0 2 = [x.1] ++ [v] := ec
      rw [← this, ec']
      rfl
    have hG : ∀ n, G n ↔ n = b ∨ F2 n := fun n => by
      rw [g1 n]
      constructor
      · rintro (h | ⟨i, hi, h⟩)
        · exact .inl h
        · have : i = 0 := by simpa using hi
          subst this
          rcases (hF n).1 h with h | h
          · exact absurd h (hF1 n)
          · exact .inr h
      · rintro (h | h)
        · exact .inl h
        · exact .inr ⟨0, by simp, (hF n).2 (.inr h)⟩
    have hF2b : ¬ F2 b := fun h => g2 0 (by simp) ((hF b).2 (.inr h))
    rcases own_inv hl with ⟨_, hx, hc2, hn⟩ | ⟨g, cap2, kids2, cur, Fs2, _, hc2, q2, q3, q4, q5, r1, r2, r3, r4⟩
    · refine ⟨.slice none 0 0, ?_, ?_, by simp [Value.ownBlock], fun n => ?_⟩
      · rw [← harr _ hc2]; exact h4
      · have hx' : x.2 = [] := hx
        rw [hx']
        exact World.ownsRow_nil w 0 T8 1
      · rw [hG n]
        simp [Value.ownBlock, hn n]
    · have hcell : ∀ i, i < List.length x.2 → cellsAt cur (i * 1) 1 = [.int .u8 (List.getD x.2 i 0)] ∧ ∀ n, ¬ Fs2 i n := fun i hi => by
        obtain ⟨p1, p2⟩ := r4 i hi
        refine ⟨?_, p1⟩
        rcases p2 with ⟨h, _⟩ | ⟨_, h⟩
        · cases h
        · exact h
      refine ⟨.slice (some ⟨g, 0, none⟩) (List.length x.2) cap2, ?_, ?_, ?_, fun n => ?_⟩
      · rw [← harr _ hc2]; exact h4
      · have hs : cur.size = cap2 * 1 := q5
        have q2' : List.length x.2 ≤ cap2 := q2
        refine ⟨by simp, .inr ⟨g, cap2, cur, by rw [u8s_len], Nat.zero_le _, q4, by rw [u8s_len]; exact q2, q3, hs, ?_⟩⟩
        rw [u8s_len, Nat.mul_one]
        exact cells_all (fun i hi => (hcell i hi).1) (by omega)
      · intro h
        simp only [Value.ownBlock, Option.some.injEq] at h
        subst h
        exact hF2b ((r1 g).2 (.inl rfl))
      · rw [hG n, r1 n]
        simp only [Value.ownBlock, Option.some.injEq]
        constructor
        · rintro (h | h | ⟨i, hi, h⟩)
          · exact .inl h
          · exact .inr h.symm
          · exact absurd h ((hcell i hi).2 n)
        · rintro (h | h)
          · exact .inl h
          · exact .inr (.inl h.symm)

theorem bld_out {w : World} {TB T8 b : Nat} {p v : Value} {y : List Int} (hb : w.heap[b]? = some (.cells #[p, v] TB (0, 0))) (hr : w.ownsRow 0 T8 1 v (u8s y).length (u8s y)) (hne : v.ownBlock ≠ some b) (hp : p.oneCell' = true) :
    ∃ kids hv G, Own w noS (.list TB (BT T8)) 2 [((p, y) : (BT T8).den)] none (.node b 1 kids) [hv] G ∧ ∀ n, G n ↔ n = b ∨ v.ownBlock = some n := by
  have inner : ∃ (ct : CT) (F : Nat → Prop), Own w noS (.list T8 (.int .u8)) 1 y none ct [v] F ∧ ∀ n, F n ↔ v.ownBlock = some n := by
    rcases hr.2 with ⟨rfl, h0⟩ | ⟨g, cap, cur, rfl, _, hg, h1, h2, h3, h4⟩
    · have : y = [] := List.eq_nil_of_length_eq_zero (by rw [← u8s_len]; exact h0)
      subst this
      exact ⟨.nil, noF, .inr ⟨by simp, rfl, rfl, fun n h => h⟩, fun n => by simp [noF, Value.ownBlock]⟩
    · rw [u8s_len] at h1 h4 ⊢
      rw [Nat.mul_one] at h4
      have hel : ∀ i, i < y.length → Own w noS (.int .u8) 0 (y.getD i (0 : Int)) none .leaf (cellsAt cur (i * 1) 1) noF := fun i hi => by
        refine ⟨fun _ h => h, .inr ⟨rfl, ?_⟩⟩
        show cellsAt cur (i * 1) 1 = [.int .u8 (y.getD i 0)]
        have hlt : i < cur.toList.length := by simp; omega
        unfold cellsAt
        rw [Nat.mul_one, List.drop_eq_getElem_cons hlt]
        simp only [List.take_succ_cons, List.take_zero, List.cons.injEq, and_true]
        have : (cur.toList.take y.length)[i]? = (u8s y)[i]? := by rw [h4]
        rw [List.getElem?_take_of_lt hi, List.getElem?_eq_getElem hlt] at this
        simp only [u8s, List.getElem?_map, List.getElem?_eq_getElem hi, Option.map_some, Option.some.injEq] at this
        rw [this, List.getD_eq_getElem?_getD, List.getElem?_eq_getElem hi]
        rfl
      refine ⟨_, _, own_row (t := .int .u8) (k := 0) (l := y) (kids := fun _ => .leaf) (Fs := fun _ => noF) hg h3 h1 h2 hel (fun _ _ h => h) (fun _ _ _ _ _ h => h.elim), fun n => ?_⟩
      simp only [Value.ownBlock, Option.some.injEq]
      exact ⟨fun h => h.elim (fun h => h.symm) (fun ⟨_, _, h⟩ => h.elim), fun h => .inl h.symm⟩
  obtain ⟨ct, F, hO, hF⟩ := inner
  have he : Own w noS (BT T8) 1 ((p, y) : (BT T8).den) none (.pair .leaf ct) (cellsAt #[p, v] (0 * 2) 2) F :=
    .inr ⟨by simp, [p], [v], noF, F, rfl, fun n => by simp [noF], fun n h => h.elim, ⟨fun _ h => h, .inr ⟨rfl, rfl, hp⟩⟩, hO⟩
  refine ⟨fun _ => .pair .leaf ct, _, _, own_row (t := BT T8) (k := 1) (l := [((p, y) : (BT T8).den)]) (cap := 1) (Fs := fun _ => F) hb rfl (Nat.le_refl _) (by unfold maxLen; omega) (fun i hi => ?_) (fun i _ h => ?_) (fun i j n hi hj _ _ => ?_), fun n => ?_⟩
  · have : i = 0 := by have h : i < 1 := hi; omega
    subst this
    exact he
  · exact hne ((hF b).1 h)
  · have h1 : i = 0 := by have h : i < 1 := hi; omega
    have h2 : j = 0 := by have h : j < 1 := hj; omega
    rw [h1, h2]
  · constructor
    · rintro (h | ⟨_, _, h⟩)
      · exact .inl h
      · exact .inr ((hF n).1 h)
    · rintro (h | h)
      · exact .inl h
      · exact .inr ⟨0, Nat.one_pos, (hF n).2 h⟩


def wbSp : SpecS := ⟨[.one 42 (BT 5), .val (.int .u8)], fun bl vals boxes K => match bl, vals, boxes with
  | [b], [⟨.int _, c⟩], [⟨.prod .raw (.list _ (.int _)), x⟩] => (x.1 = .pointer none ∨ x.1 = .pointer (some ⟨b, 0, none⟩)) ∧ List.length x.2 ≤ 1000000 ∧ K [⟨.raw, .nilIface⟩] [⟨BT 5, (.pointer (some ⟨b, 0, none⟩), x.2 ++ [c])⟩]
  | _, _, _ => False⟩
def byI (l : List UInt8) : List Int := l.map fun b => (b.toNat : Int)
theorem byI_len (l : List UInt8) : (byI l).length = l.length := List.length_map _
theorem byI_app (l m : List UInt8) : byI l ++ byI m = byI (l ++ m) := (List.map_append).symm
def wsSp : SpecS := ⟨[.one 42 (BT 5), .val .str], fun bl vals boxes K => match bl, vals, boxes with
  | [b], [⟨.str, s⟩], [⟨.prod .raw (.list _ (.int _)), x⟩] => (x.1 = .pointer none ∨ x.1 = .pointer (some ⟨b, 0, none⟩)) ∧ List.length x.2 ≤ 1000000 ∧ ByteArray.size s ≤ 1000000 ∧ (1 ≤ ByteArray.size s ∨ x.2 ≠ []) ∧ K [⟨.int .i64, ((ByteArray.size s : Nat) : Int)⟩, ⟨.raw, .nilIface⟩] [⟨BT 5, (.pointer (some ⟨b, 0, none⟩), x.2 ++ byI s.data.toList)⟩]
  | _, _, _ => False⟩
def bsSp : SpecS := ⟨[.gone 42 (BT 5)], fun bl vals boxes K => match bl, vals, boxes with
  | [b], [], [⟨.prod .raw (.list _ (.int _)), x⟩] => ∃ l : List UInt8, x.2 = byI l ∧ l ≠ [] ∧ l.length ≤ 1000000 ∧ K [⟨.str, bsL l⟩] []
  | _, _, _ => False⟩

theorem turned_b {w w' : World} {F : Nat → Prop} {TB T8 b : Nat} {v : Value} {bs' : List Value} (H : BOut TB T8 b v bs' w w') (hG : ∀ n, F n ↔ n = b ∨ v.ownBlock = some n) : Turned (butF w F) w w' := by
  have old : ∀ k, butF w F k → w'.heap[k]? = w.heap[k]? := fun k hk => H.old k hk.1 (fun e => hk.2 ((hG k).2 (.inl e))) fun e => hk.2 ((hG k).2 (.inr e))
  exact ⟨H.os, H.tape, ⟨H.output, fun a ha _ => by unfold World.frozen?; rw [old a.block ha], H.size, fun d => (noDr d).elim⟩, H.size, old⟩
theorem blkOf_lt {w : World} {e n : Nat} {v : Value} {xs : List Value} (h : w.ownsRow 0 e 1 v n xs) {g : Nat} (hg : v.ownBlock = some g) : g < w.heap.size := by
  rcases h.2 with ⟨rfl, _⟩ | ⟨g', cap, cur, rfl, _, hh, _⟩
  · simp [Value.ownBlock] at hg
  · simp only [Value.ownBlock, Option.some.injEq] at hg
    subst hg
    exact blk_lt hh
/-- The cell, and what goes with it, after a write. -/
theorem stOut_b {w w' : World} {F : Nat → Prop} {b : Nat} {v : Value} {y : List Int} (H : BOut 42 5 b v (u8s y) w w') (hG : ∀ n, F n ↔ n = b ∨ v.ownBlock = some n) :
    ∃ (G : Nat → Prop) (kids : Nat → CT) (hv : Value), Own w' noS (.list 42 (BT 5)) 2 [((.pointer (some ⟨b, 0, none⟩), y) : (BT 5).den)] none (.node b 1 kids) [hv] G ∧ ∀ n, G n → ¬ butF w F n ∧ n < w'.heap.size := by
  obtain ⟨v', h1, h2, h3, h4⟩ := H.blk
  obtain ⟨kids, hv, G, hO, hG'⟩ := bld_out (p := .pointer (some ⟨b, 0, none⟩)) h1 h2 h3 rfl
  refine ⟨G, kids, hv, hO, fun n hn => ?_⟩
  rcases (hG' n).1 hn with rfl | h
  · exact ⟨fun h => h.2 ((hG _).2 (.inl rfl)), blk_lt h1⟩
  · refine ⟨fun hb => ?_, blkOf_lt h2 h⟩
    rcases h4 n h with h5 | h5
    · exact hb.2 ((hG n).2 (.inr h5))
    · exact absurd hb.1 (by omega)

theorem wb_ok : FnSt Tryd.prog 18 wbSp := by
  refine ⟨⟨_, Tryd.func18, by decide, rfl⟩, fun bl vals boxes K hK w vs F hA hF => ?_⟩
  cases hA with
  | @one _ _ x _ bl' _ bx' vs' F' G b kids hv H hd hl =>
    cases hl with
    | @val _ c u _ _ _ _ _ _ h hl2 =>
      cases hl2
      obtain ⟨hp, hlen, hk⟩ := hK
      obtain ⟨v, e1, e2, e3, e4⟩ := bld_in H
      have hu : u = [.int .u8 c] := h
      subst hu
      have hG : ∀ n, (G n ∨ noF n) ↔ n = b ∨ v.ownBlock = some n := fun n => by
        rw [← e4 n]; exact ⟨fun h => h.elim id fun h => h.elim, .inl⟩
      refine Calls.mono (writeByte_at lib_n167 lib_bld b x.1 v (u8s x.2) c w e1 hp e2 e3 (by rw [u8s_len]; have : List.length x.2 ≤ 1000000 := hlen; omega)) fun e w' he => ?_
      obtain ⟨rfl, hB⟩ := he
      rw [show u8s x.2 ++ [Value.int .u8 c] = u8s (x.2 ++ [c]) from u8s_app _ [c]] at hB
      obtain ⟨G', kids', hv', q1, q2⟩ := stOut_b hB hG
      refine ⟨turned_b hB hG, [⟨.raw, .nilIface⟩], _, [.nilIface], _, _, hk, rfl, .one (hv := hv') q1 q2 (fun _ _ h => h) (.val .nil), .cons (F := noF) ⟨fun _ h => h.elim, fun _ h => h, [.nilIface], rfl, rfl, rfl⟩ .nil fun _ h => h.elim⟩

theorem strCells_u8 (s : ByteArray) : Lib.strCells s = u8s (byI s.data.toList) := by
  simp [Lib.strCells, u8s, byI]
theorem ws_ok : FnSt Tryd.prog 19 wsSp := by
  refine ⟨⟨_, Tryd.func19, by decide, rfl⟩, fun bl vals boxes K hK w vs F hA hF => ?_⟩
  cases hA with
  | @one _ _ x _ bl' _ bx' vs' F' G b kids hv H hd hl =>
    cases hl with
    | @val _ c u _ _ _ _ _ _ h hl2 =>
      cases hl2
      obtain ⟨hp, hlen, hsz, hs, hk⟩ := hK
      obtain ⟨v, e1, e2, e3, e4⟩ := bld_in H
      have hu : u = [.string c] := h
      subst hu
      have hG : ∀ n, (G n ∨ noF n) ↔ n = b ∨ v.ownBlock = some n := fun n => by
        rw [← e4 n]; exact ⟨fun h => h.elim id fun h => h.elim, .inl⟩
      have hs' : 1 ≤ ByteArray.size c ∨ u8s x.2 ≠ [] := hs.imp_right fun h e => h (List.map_eq_nil_iff.1 e)
      refine Calls.mono (writeString_at lib_n166 lib_bld b x.1 v (u8s x.2) c hs' w e1 hp e2 e3 (by rw [u8s_len]; have h1 : List.length x.2 ≤ 1000000 := hlen; have h2 : ByteArray.size c ≤ 1000000 := hsz; omega)) fun e w' he => ?_
      obtain ⟨rfl, hB⟩ := he
      rw [strCells_u8, u8s_app] at hB
      obtain ⟨G', kids', hv', q1, q2⟩ := stOut_b hB hG
      refine ⟨turned_b hB hG, _, _, [.int .i64 ((ByteArray.size c : Nat) : Int), .nilIface], _, _, hk, rfl, .one (hv := hv') q1 q2 (fun _ _ h => h) (.val .nil),
        .cons (F := noF) ⟨fun _ h => h.elim, fun _ h => h, [.int .i64 ((ByteArray.size c : Nat) : Int)], rfl, rfl⟩ (.cons (F := noF) ⟨fun _ h => h.elim, fun _ h => h, [.nilIface], rfl, rfl, rfl⟩ .nil fun _ h => h.elim) fun _ h => h.elim⟩

theorem byteCells_u8 (l : List UInt8) : Lib.byteCells l = u8s (byI l) := by
  simp [Lib.byteCells, u8s, byI]
theorem bs_ok : FnSt Tryd.prog 21 bsSp := by
  refine ⟨⟨_, Tryd.func21, by decide, rfl⟩, fun bl vals boxes K hK w vs F hA hF => ?_⟩
  cases hA with
  | @gone _ _ x _ bl' _ bx' vs' F' G b kids hv H hd hl =>
    cases hl
    obtain ⟨l, hx, hne, hlen, hk⟩ := hK
    obtain ⟨v, e1, e2, e3, e4⟩ := bld_in H
    rw [hx, ← byteCells_u8] at e2
    have hl0 : l.length ≠ 0 := by simpa using hne
    rw [Lib.byteCells_length] at e2
    rcases e2.2 with ⟨_, h0⟩ | ⟨g, cap, cur, rfl, _, hg, h1, h2, h3, h4⟩
    · exact absurd h0 hl0
    refine Calls.mono (string_at lib_n169 lib_bld b g cap x.1 l cur w e1 hg h1 h2 h3 h4 hne) fun e w' he => ?_
    obtain ⟨rfl, hK', hold⟩ := he
    have old : ∀ k, butF w (fun n => G n ∨ noF n) k → w'.heap[k]? = w.heap[k]? := fun k hk => hold k fun e => hk.2 (.inl ((e4 k).2 (.inr (by simp [Value.ownBlock, e]))))
    exact ⟨⟨hK'.os, hK'.tape, ⟨hK'.output, fun a ha _ => by unfold World.frozen?; rw [old a.block ha], Nat.le_of_eq hK'.size.symm, fun d => (noDr d).elim⟩, Nat.le_of_eq hK'.size.symm, old⟩, _, _, [.string (bsL l)], _, _, hk, rfl, .gone .nil,
      .cons (F := noF) ⟨fun _ h => h.elim, fun _ h => h, [.string (bsL l)], rfl, rfl⟩ .nil fun _ h => h.elim⟩

end Fer
