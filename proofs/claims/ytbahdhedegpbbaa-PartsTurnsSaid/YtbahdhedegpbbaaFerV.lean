/- Arguments, as the form reads them, are typed data. Over any program. -/
import Derived.Test.YtbahdhedegpbbaaFerU
import Derived.Test.YtbahdhedegpbbaaFerTa
import Derived.ProofKit
import Derived.Deep.Slices
namespace Fer
open Go Go.Deep Go.ChangeShapes Go.WideShapes

/-- The table knows type T as t, and what t is made of. -/
def tyOK (tt : List (Nat × TE)) : Nat → Ty → Bool
  | T, .list e t => (match lk tt T with | some (.slice e' t' _) => decide (e = e') && decide (t = t') | _ => false) && tyOK tt e t
  | T, .int k => (match lk tt T with | some (.basic (.int k')) => decide (k = k') | _ => false)
  | T, .bool => (match lk tt T with | some (.basic .bool) => true | _ => false)
  | T, .str => (match lk tt T with | some (.basic .str) => true | _ => false)
  | _, _ => false

/-- Datum d is read of x. -/
def Rd {H : Type} : (t : Ty) → t.den → DataW H → Prop
  | .int k, n, d => d = .lit (.int k n) ∧ (Lit.int k n).wf = true
  | .bool, b, d => d = .lit (.bool b)
  | .str, s, d => d = .lit (.string s.data.toList) ∧ s.size ≤ maxLen
  | .list _ t, xs, d => (d = .nil ∧ xs = []) ∨ ∃ els sp, d = .slice els sp ∧ els.length = xs.length ∧ ∀ i e, els[i]? = some e → Rd t (xs.getD i t.dflt) e
  | _, _, _ => False

section
variable {H : Type} {enc : TypeId × Value → H} {P : Program} {tt : List (Nat × TE)} {w : World}

theorem tyOK_some {T : Nat} {t : Ty} (h : tyOK tt T t = true) : ∃ te, lk tt T = some te ∧ te.ty = some t := by
  cases t with
  | list e t =>
    simp only [tyOK, Bool.and_eq_true] at h
    have h := h.1
    split at h
    · rename_i e' t' b hl
      simp only [Bool.and_eq_true, decide_eq_true_eq] at h
      obtain ⟨rfl, rfl⟩ := h
      exact ⟨_, hl, rfl⟩
    · cases h
  | int k =>
    simp only [tyOK] at h
    split at h
    · rename_i k' hl
      simp only [decide_eq_true_eq] at h; subst h
      exact ⟨_, hl, rfl⟩
    · cases h
  | bool =>
    simp only [tyOK] at h
    split at h
    · rename_i hl; exact ⟨_, hl, rfl⟩
    · cases h
  | str =>
    simp only [tyOK] at h
    split at h
    · rename_i hl; exact ⟨_, hl, rfl⟩
    · cases h
  | raw => simp [tyOK] at h
  | prod a b => simp [tyOK] at h

theorem cells_some {w : World} {b off n : Nat} {cs : List Value} (h : w.cells? 0 ⟨b, off, none⟩ n = some cs) (hn : 0 < n) :
    cs.length = n ∧ ∃ arr E fr, w.heap[b]? = some (.cells arr E fr) ∧ off + n ≤ arr.size ∧ cellsAt arr off n = cs := by
  unfold World.cells? at h
  rw [if_pos (Nat.zero_le _)] at h
  have hl := mapM_some_length h
  rw [List.length_range] at hl
  have hg := fun i (hi : i < n) => mapM_some_get h i i (by simp [hi])
  have hcell : ∀ i, i < n → w.cell? ⟨b, off + i, none⟩ = cs[i]? := fun i hi => by rw [← hg i hi, Addr.add_mid]
  have h0 := hcell 0 hn
  have hc0 : ∃ v, cs[0]? = some v := ⟨cs[0], List.getElem?_eq_getElem (by omega)⟩
  obtain ⟨v0, hv0⟩ := hc0
  rw [hv0] at h0
  unfold World.cell? at h0
  refine ⟨hl, ?_⟩
  cases hb : w.heap[b]? with
  | none => simp [hb] at h0
  | some o =>
    cases o with
    | cells arr E fr =>
      have hci : ∀ i, i < n → arr[off + i]? = cs[i]? := fun i hi => by
        have := hcell i hi
        simpa [World.cell?, hb] using this
      have hsz : off + n ≤ arr.size := by
        have := hci (n - 1) (by omega)
        rw [List.getElem?_eq_getElem (by omega : n - 1 < cs.length)] at this
        have := (Array.getElem?_eq_some_iff.1 this).1
        omega
      refine ⟨arr, E, fr, rfl, hsz, ?_⟩
      apply List.ext_getElem?
      intro i
      simp only [cellsAt, List.getElem?_take, List.getElem?_drop, Array.getElem?_toList]
      by_cases hi : i < n
      · rw [if_pos hi]; exact hci i hi
      · rw [if_neg hi, List.getElem?_eq_none (by omega)]
    | _ => simp [hb] at h0

theorem tyOK_int {T : Nat} {k : IntKind} (htt : ttB P tt = true) (h : tyOK tt T (.int k) = true) : P.underlying T = some (.int k) := by
  obtain ⟨te, h1, h2⟩ := tyOK_some h
  have hB := ttB_get htt h1
  cases te with
  | basic t' => simp only [TE.ty, Option.some.injEq] at h2; subst h2; exact basic_te hB
  | slice => simp [TE.ty] at h2
  | arr => simp [TE.ty] at h2
  | struct ts =>
    simp only [TE.ty] at h2
    split at h2
    · rename_i hl
      match ts, hl with
      | a :: b :: l, _ => simp [prodOf] at h2
    · cases h2
  | pair => simp [TE.ty] at h2
theorem tyOK_bool {T : Nat} (htt : ttB P tt = true) (h : tyOK tt T .bool = true) : P.underlying T = some .bool := by
  obtain ⟨te, h1, h2⟩ := tyOK_some h
  have hB := ttB_get htt h1
  cases te with
  | basic t' => simp only [TE.ty, Option.some.injEq] at h2; subst h2; exact basic_te hB
  | slice => simp [TE.ty] at h2
  | arr => simp [TE.ty] at h2
  | struct ts =>
    simp only [TE.ty] at h2
    split at h2
    · rename_i hl
      match ts, hl with
      | a :: b :: l, _ => simp [prodOf] at h2
    · cases h2
  | pair => simp [TE.ty] at h2
theorem tyOK_str {T : Nat} (htt : ttB P tt = true) (h : tyOK tt T .str = true) : P.underlying T = some .string := by
  obtain ⟨te, h1, h2⟩ := tyOK_some h
  have hB := ttB_get htt h1
  cases te with
  | basic t' => simp only [TE.ty, Option.some.injEq] at h2; subst h2; exact basic_te hB
  | slice => simp [TE.ty] at h2
  | arr => simp [TE.ty] at h2
  | struct ts =>
    simp only [TE.ty] at h2
    split at h2
    · rename_i hl
      match ts, hl with
      | a :: b :: l, _ => simp [prodOf] at h2
    · cases h2
  | pair => simp [TE.ty] at h2

theorem tyOK_list {T e : Nat} {t : Ty} (htt : ttB P tt = true) (h : tyOK tt T (.list e t) = true) : P.underlying T = some (.slice e) ∧ P.cellsOf e = t.width ∧ tyOK tt e t = true := by
  have h0 := h
  simp only [tyOK, Bool.and_eq_true] at h
  obtain ⟨te, h1, h2⟩ := tyOK_some h0
  have hB := ttB_get htt h1
  cases te with
  | slice e' t' b =>
    simp only [TE.ty, Option.some.injEq, Ty.list.injEq] at h2
    obtain ⟨rfl, rfl⟩ := h2
    obtain ⟨hT, _, ⟨inf, hi, hsz, _⟩, _⟩ := slice_te hB
    exact ⟨hT, by simp [Program.cellsOf, hi, hsz], h.2⟩
  | basic t' =>
    simp only [TE.ty, Option.some.injEq] at h2; subst h2
    have h := h.1
    rw [h1] at h
    simp at h
  | arr => simp [TE.ty] at h2
  | struct ts =>
    have h := h.1
    rw [h1] at h
    simp at h
  | pair e' t' =>
    have h := h.1
    rw [h1] at h
    simp at h

theorem trod_int_inv {T fuel : Nat} {k : IntKind} {cs : List Value} {d : DataW H} {ps : List MemPlace} {sp : Nat → Bool} {hd : Bool} (hT : P.underlying T = some (.int k)) (h : DataW.trod enc P w 0 sp hd fuel T cs = some (d, ps)) :
    ∃ n, cs = [.int k n] ∧ (Lit.int k n).wf = true ∧ d = .lit (.int k n) ∧ ps = [] := by
  cases fuel with
  | zero => simp [DataW.trod] at h
  | succ n =>
    unfold DataW.trod at h
    rw [hT] at h
    split at h <;> simp_all

theorem trod_bool_inv {T fuel : Nat} {cs : List Value} {d : DataW H} {ps : List MemPlace} {sp : Nat → Bool} {hd : Bool} (hT : P.underlying T = some .bool) (h : DataW.trod enc P w 0 sp hd fuel T cs = some (d, ps)) :
    ∃ b, cs = [.bool b] ∧ d = .lit (.bool b) ∧ ps = [] := by
  cases fuel with
  | zero => simp [DataW.trod] at h
  | succ n =>
    unfold DataW.trod at h
    rw [hT] at h
    cases cs with
    | nil => simp at h
    | cons v r =>
      cases r with
      | cons u r => cases v <;> simp at h
      | nil =>
        cases v <;> simp at h
        rename_i b
        exact ⟨b, rfl, h.1.symm, h.2⟩

theorem trod_str_inv {T fuel : Nat} {cs : List Value} {d : DataW H} {ps : List MemPlace} {sp : Nat → Bool} {hd : Bool} (hT : P.underlying T = some .string) (h : DataW.trod enc P w 0 sp hd fuel T cs = some (d, ps)) :
    ∃ s : ByteArray, cs = [.string s] ∧ s.size ≤ maxLen ∧ d = .lit (.string s.data.toList) ∧ ps = [] := by
  cases fuel with
  | zero => simp [DataW.trod] at h
  | succ n =>
    unfold DataW.trod at h
    rw [hT] at h
    split at h <;> simp_all

theorem trod_open (htt : ttB P tt = true) : ∀ (t : Ty) (T fuel : Nat) (cs : List Value) (d : DataW H) (ps : List MemPlace), tyOK tt T t = true → DataW.trod enc P w 0 (fun _ => true) true fuel T cs = some (d, ps) →
    ∃ x, RO w (oldS w) t x cs ∧ Rd t x d ∧ ∀ (w' : World) (sp : Nat → Bool), (∀ n, n < w.heap.size → w'.heap[n]? = w.heap[n]?) → (∀ p ∈ ps, sp p.block = true) → ∃ n, DataW.trod enc P w' 0 sp true n T cs = some (d, ps)
  | .int k, T, fuel, cs, d, ps, hty, h => by
    have hT := tyOK_int htt hty
    obtain ⟨n, rfl, hw, rfl, rfl⟩ := trod_int_inv hT h
    exact ⟨n, rfl, ⟨rfl, hw⟩, fun w' sp _ _ => ⟨1, trod_int_mk 0 hT hw⟩⟩
  | .bool, T, fuel, cs, d, ps, hty, h => by
    have hT := tyOK_bool htt hty
    obtain ⟨b, rfl, rfl, rfl⟩ := trod_bool_inv hT h
    exact ⟨b, rfl, rfl, fun w' sp _ _ => ⟨1, by unfold DataW.trod; rw [hT]⟩⟩
  | .str, T, fuel, cs, d, ps, hty, h => by
    have hT := tyOK_str htt hty
    obtain ⟨s, rfl, hs, rfl, rfl⟩ := trod_str_inv hT h
    exact ⟨s, rfl, ⟨rfl, hs⟩, fun w' sp _ _ => ⟨1, by unfold DataW.trod; rw [hT]; simp [hs]⟩⟩
  | .list e t, T, fuel, cs, d, ps, hty, h => by
    obtain ⟨hT, hc, hty'⟩ := tyOK_list htt hty
    rcases open_slice hT h with ⟨rfl, hx⟩ | ⟨a, len, cap, m, n, D, Pl, rfl, hb, hl, hm, hmm, hx, hel⟩
    · simp only [Prod.mk.injEq] at hx
      obtain ⟨rfl, rfl⟩ := hx
      refine ⟨[], ⟨none, 0, rfl, Nat.le_refl _, Nat.zero_le _, fun h => absurd rfl h⟩, .inl ⟨rfl, rfl⟩, fun w' sp _ _ => ⟨1, by simp [DataW.trod, hT]⟩⟩
    · simp only [if_true] at hmm
      have hmm := hmm.symm
      subst hmm
      simp only [Prod.mk.injEq] at hx
      obtain ⟨rfl, rfl⟩ := hx
      rw [hc] at hel
      have hw := t.width_pos
      have ih : ∀ i, ∃ q : List Value × t.den, i < cap → w.cells? 0 (a.add (i * t.width)) t.width = some q.1 ∧ RO w (oldS w) t q.2 q.1 ∧ Rd t q.2 (D i) ∧ ∀ (w' : World) (sp : Nat → Bool), (∀ n, n < w.heap.size → w'.heap[n]? = w.heap[n]?) → (∀ p ∈ Pl i, sp p.block = true) →
          ∃ n, DataW.trod enc P w' 0 sp true n e q.1 = some (D i, Pl i) := fun i => by
        by_cases hi : i < cap
        · obtain ⟨cs', h1, h2⟩ := hel i hi
          obtain ⟨x, h3, h4, h5⟩ := trod_open htt t e n cs' (D i) (Pl i) hty' h2
          exact ⟨(cs', x), fun _ => ⟨h1, h3, h4, h5⟩⟩
        · exact ⟨([], t.dflt), fun h => absurd h hi⟩
      let G : Nat → List Value × t.den := fun i => (ih i).choose
      have hG : ∀ i, i < cap → w.cells? 0 (a.add (i * t.width)) t.width = some (G i).1 ∧ RO w (oldS w) t (G i).2 (G i).1 ∧ Rd t (G i).2 (D i) ∧ ∀ (w' : World) (sp : Nat → Bool), (∀ n, n < w.heap.size → w'.heap[n]? = w.heap[n]?) → (∀ p ∈ Pl i, sp p.block = true) →
          ∃ n, DataW.trod enc P w' 0 sp true n e (G i).1 = some (D i, Pl i) := fun i hi => (ih i).choose_spec hi
      have hgd : ∀ i, i < len → ((List.range len).map fun i => (G i).2).getD i t.dflt = (G i).2 := fun i hi => by
        simp [List.getD_eq_getElem?_getD, hi]
      refine ⟨(List.range len).map fun i => (G i).2, ⟨some a, cap, by simp, by simpa using hl, hm, fun hne => ?_⟩, .inr ⟨_, _, rfl, by simp, fun i d hd => ?_⟩, fun w' sp hw' hsp => ?_⟩
      · have hlen : 0 < len := by
          rcases Nat.eq_zero_or_pos len with h | h
          · subst h; simp at hne
          · exact h
        obtain ⟨b, off, spot⟩ := a
        have h0 := (hG 0 (by omega)).1
        have hspot : spot = none := by
          obtain ⟨_, hl0, hcell⟩ := World.cells?_some h0
          have h1 := hcell 0 hw
          simp only [Nat.zero_mul, Addr.add, if_true] at h1
          rw [List.getElem?_eq_getElem (by omega)] at h1
          unfold World.cell? at h1
          split at h1
          · split at h1
            · cases h1
            · rename_i hsp; simpa using hsp
          · cases h1
        subst hspot
        have key : ∀ i, i < cap → (G i).1.length = t.width ∧ ∃ arr E fr, w.heap[b]? = some (.cells arr E fr) ∧ off + i * t.width + t.width ≤ arr.size ∧ cellsAt arr (off + i * t.width) t.width = (G i).1 := fun i hi => by
          have h := (hG i hi).1
          rw [Addr.add_mid] at h
          exact cells_some h hw
        obtain ⟨_, arr, E, fr, hb0, _, _⟩ := key 0 (by omega)
        have key' : ∀ i, i < cap → off + i * t.width + t.width ≤ arr.size ∧ cellsAt arr (off + i * t.width) t.width = (G i).1 := fun i hi => by
          obtain ⟨_, arr', E', fr', hb', h1, h2⟩ := key i hi
          rw [hb0] at hb'
          simp only [Option.some.injEq, Obj.cells.injEq] at hb'
          obtain ⟨rfl, _, _⟩ := hb'
          exact ⟨h1, h2⟩
        refine ⟨b, off, arr, E, fr, rfl, (Array.getElem?_eq_some_iff.1 hb0).1, hb0, ?_, fun i hi => ?_⟩
        · simp only [List.length_map, List.length_range]
          have h1 := (key' (len - 1) (by omega)).1
          have h2 : (len - 1) * t.width + t.width = len * t.width := by rw [← Nat.succ_mul]; congr 1; omega
          omega
        · have hi' : i < len := by simpa using hi
          rw [hgd i hi', (key' i (by omega)).2]
          exact (hG i (by omega)).2.1
      · simp only [List.getElem?_map] at hd
        have hi' : i < len := by
          by_cases h : i < len
          · exact h
          · rw [List.getElem?_eq_none (by simpa using h)] at hd; cases hd
        rw [List.getElem?_range hi'] at hd
        simp only [Option.map_some, Option.some.injEq] at hd
        subst hd
        rw [hgd i hi']
        exact (hG i (by omega)).2.2.1
      · have hel' : ∀ i, i < cap → ∃ cs n, w'.cells? 0 (a.add (i * P.cellsOf e)) (P.cellsOf e) = some cs ∧ DataW.trod enc P w' 0 sp true n e cs = some (D i, Pl i) := fun i hi => by
          obtain ⟨h1, _, _, h2⟩ := hG i hi
          obtain ⟨n', h3⟩ := h2 w' sp hw' fun p hp => hsp p (List.mem_append_right _ (List.mem_flatMap.2 ⟨i, List.mem_range.2 hi, hp⟩))
          refine ⟨(G i).1, n', ?_, h3⟩
          rw [hc]
          have hblk := World.cells?_block h1 hw
          rw [← h1]
          unfold World.cells?
          rw [if_pos (Nat.zero_le _), if_pos (Nat.zero_le _)]
          congr 1
          funext j
          have hbj : ((a.add (i * t.width)).add j).block = (a.add (i * t.width)).block := by unfold Addr.add; split <;> rfl
          simp only [World.cell?]
          rw [hbj, hw' _ hblk]
        by_cases hcap : cap = 0
        · subst hcap
          have hl0 : len = 0 := by omega
          subst hl0
          by_cases hs : sp a.block = true
          · exact shut_slice_whole_cells hT (Nat.zero_le _) (Nat.le_refl _) hm hs D Pl hel'
          · obtain ⟨n', hn'⟩ := shut_slice_cells (len := 0) (cap := 0) hT (Nat.zero_le _) (Nat.le_refl _) hm (by simpa using hs) D Pl (fun i hi => hel' i hi)
            exact ⟨n', by simpa using hn'⟩
        · have hs : sp a.block = true := by
            refine hsp (.cell a.block (a.off + 0)) (List.mem_append_left _ ?_)
            simp only [MemPlace.row, List.mem_map, List.mem_range]
            exact ⟨0, by rw [hc]; exact Nat.mul_pos (by omega) hw, rfl⟩
          exact shut_slice_whole_cells hT (Nat.zero_le _) hl hm hs D Pl hel'
  | .raw, T, fuel, cs, d, ps, hty, h => by simp [tyOK] at hty
  | .prod a b, T, fuel, cs, d, ps, hty, h => by simp [tyOK] at hty

end
end Fer
