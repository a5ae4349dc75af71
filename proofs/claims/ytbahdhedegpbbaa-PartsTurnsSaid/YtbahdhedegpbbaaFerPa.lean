/- State-level: copying within owned lists of numbers. Over any program. -/
import Derived.Test.YtbahdhedegpbbaaFerP
import Derived.Laws.IdiomCopy
namespace Fer
open Go

def cpL {α : Type} (l : List α) (lo hi : Nat) (m : List α) : List α := l.take lo ++ m.take (min m.length (hi - lo)) ++ l.drop (lo + min m.length (hi - lo))

theorem cpL_length {α : Type} {l : List α} {lo hi : Nat} {m : List α} (h1 : lo ≤ hi) (h2 : hi ≤ l.length) : (cpL l lo hi m).length = l.length := by
  simp only [cpL, List.length_append, List.length_take, List.length_drop]; omega

section
variable {P : Program} {tt : List (Nat × TE)} {w0 : World} {S0 : Nat → Prop} {N : Nat} {dr : Bool} {pc : Pins} {s : XS} {a : Act} {w w' : World} {S : Nat → Prop} {pl : Nat → PL}

theorem at_num {e : Nat} {k : IntKind} {kk : Nat} {l l' : List Int} {h : Option (List Nat)} (hl : l'.length = l.length) (p : List Nat) :
    ((⟨e, .int k, kk, l', h⟩ : RT).at p).len = ((⟨e, .int k, kk, l, h⟩ : RT).at p).len ∧ ((⟨e, .int k, kk, l', h⟩ : RT).at p).ew = ((⟨e, .int k, kk, l, h⟩ : RT).at p).ew := by
  cases p with
  | nil => exact ⟨hl, rfl⟩
  | cons i p =>
    cases p with
    | nil => exact ⟨rfl, rfl⟩
    | cons j p => exact ⟨rfl, rfl⟩

theorem BVR.renum {r e : Nat} {k : IntKind} {kk : Nat} {l l' : List Int} {h : Option (List Nat)} (hr : lk s.rts r = some ⟨e, .int k, kk, l, h⟩) (hl : l'.length = l.length) (hS : ∀ b, S b → w'.heap[b]? = w.heap[b]?) {av : AV} {v : Value}
    (H : BVR w S s.rts pl av v) : BVR w' S ((r, ⟨e, .int k, kk, l', h⟩) :: rm s.rts r) pl av v := by
  have look : ∀ q rt, lk ((r, (⟨e, .int k, kk, l', h⟩ : RT)) :: rm s.rts r) q = some rt → (q = r ∧ rt = ⟨e, .int k, kk, l', h⟩) ∨ (q ≠ r ∧ lk s.rts q = some rt) := by
    intro q rt hq
    simp only [lk] at hq
    by_cases e1 : r = q
    · rw [if_pos e1] at hq; cases hq; exact .inl ⟨e1.symm, rfl⟩
    · rw [if_neg e1] at hq; exact .inr ⟨fun e2 => e1 e2.symm, (lk_rm_some hq).2⟩
  cases av with
  | dat t x => obtain ⟨cs, h1, h2⟩ := H; exact ⟨cs, h1, h2.frame fun b hb => ⟨hb, hS b hb⟩⟩
  | rptr t x =>
    obtain ⟨b, o, arr, E, fr, h1, h2, h3, h4, h5⟩ := H
    exact ⟨b, o, arr, E, fr, h1, h2, (hS b h2).trans h3, h4, h5.frame fun b hb => ⟨hb, hS b hb⟩⟩
  | ref q p =>
    intro rt hq
    rcases look q rt hq with ⟨rfl, rfl⟩ | ⟨hne, hq⟩
    · rw [(at_num hl p).1]; exact H _ hr
    · exact H rt hq
  | sub q p lo hi =>
    intro rt hq
    rcases look q rt hq with ⟨rfl, rfl⟩ | ⟨hne, hq⟩
    · rw [(at_num hl p).1, (at_num hl p).2]; exact H _ hr
    · exact H rt hq
  | ptr q p =>
    intro rt hq
    rcases look q rt hq with ⟨rfl, rfl⟩ | ⟨hne, hq⟩
    · have h1 := H _ hr
      exact h1
    · exact H rt hq
  | clo f caps =>
    obtain ⟨vs, h1, h2, h3⟩ := H
    refine ⟨vs, h1, h2, fun i c rt u hc hq hu => ?_⟩
    rcases look c rt hq with ⟨rfl, rfl⟩ | ⟨hne, hq⟩
    · have h4 := h3 i _ _ u hc hr hu
      exact h4
    · exact h3 i c rt u hc hq hu
  | tup l => exact H.elim
  | agg l => exact H.elim
  | junk => trivial

theorem BVRs.renum {r e : Nat} {k : IntKind} {kk : Nat} {l l' : List Int} {h : Option (List Nat)} (hr : lk s.rts r = some ⟨e, .int k, kk, l, h⟩) (hl : l'.length = l.length) (hS : ∀ b, S b → w'.heap[b]? = w.heap[b]?) {avs : List AV} {vs : List Value}
    (H : BVRs w S s.rts pl avs vs) : BVRs w' S ((r, ⟨e, .int k, kk, l', h⟩) :: rm s.rts r) pl avs vs := by
  induction H with
  | nil => exact .nil
  | cons h1 _ ih => exact .cons (h1.renum hr hl hS) ih

theorem AVR.renum {r e : Nat} {k : IntKind} {kk : Nat} {l l' : List Int} {h : Option (List Nat)} (hr : lk s.rts r = some ⟨e, .int k, kk, l, h⟩) (hl : l'.length = l.length) (hS : ∀ b, S b → w'.heap[b]? = w.heap[b]?) {av : AV} {v : Value}
    (H : AVR w S s.rts pl av v) : AVR w' S ((r, ⟨e, .int k, kk, l', h⟩) :: rm s.rts r) pl av v := by
  cases av with
  | tup l => obtain ⟨vs, h1, h2⟩ := H; exact ⟨vs, h1, h2.renum hr hl hS⟩
  | agg l => obtain ⟨vs, h1, h2⟩ := H; exact ⟨vs, h1, h2.renum hr hl hS⟩
  | dat t x => exact BVR.renum (pl := pl) (av := .dat t x) hr hl hS H
  | rptr t x => exact BVR.renum (pl := pl) (av := .rptr t x) hr hl hS H
  | ref q p => exact BVR.renum (pl := pl) (av := .ref q p) hr hl hS H
  | sub q p lo hi => exact BVR.renum (pl := pl) (av := .sub q p lo hi) hr hl hS H
  | ptr q p => exact BVR.renum (pl := pl) (av := .ptr q p) hr hl hS H
  | clo f c => exact BVR.renum (pl := pl) (av := .clo f c) hr hl hS H
  | junk => trivial

/-- An owned list of numbers, of the same length, with other numbers. -/
theorem RelAt.renum (R : RelAt w0 S0 N dr pc s a w S pl) {r e : Nat} {k : IntKind} {kk : Nat} {l l' : List Int} (hr : s.root r = some ⟨e, .int k, kk, l, none⟩) (hl : l'.length = l.length) {hv : Value}
    (H : Own w' S (.list e (.int k)) (kk + 1) l' none (pl r).ct [hv] (pl r).F) (hos : w'.os = w.os) (htape : w'.tape = w.tape) (hout : SameOut w w') (hsz : w'.heap.size = w.heap.size) (hold : ∀ n, ¬ (pl r).F n → w'.heap[n]? = w.heap[n]?) :
    RelAt w0 S0 N dr pc (s.setRoot r ⟨e, .int k, kk, l', none⟩) a w' S pl := by
  have hS : ∀ b, S b → w'.heap[b]? = w.heap[b]? := fun b hb => hold b fun h => (R.Flt r _ b hr h).2 hb
  have look : ∀ q rt, (s.setRoot r (⟨e, .int k, kk, l', none⟩ : RT)).root q = some rt → (q = r ∧ rt = ⟨e, .int k, kk, l', none⟩) ∨ (q ≠ r ∧ s.root q = some rt) := by
    intro q rt hq
    simp only [XS.root, XS.setRoot, lk] at hq
    by_cases e1 : r = q
    · rw [if_pos e1] at hq; cases hq; exact .inl ⟨e1.symm, rfl⟩
    · rw [if_neg e1] at hq; exact .inr ⟨fun e2 => e1 e2.symm, (lk_rm_some hq).2⟩
  have any : ∀ q rt, (s.setRoot r (⟨e, .int k, kk, l', none⟩ : RT)).root q = some rt → ∃ rt2, s.root q = some rt2 := fun q rt hq => by
    rcases look q rt hq with ⟨rfl, _⟩ | ⟨_, h⟩
    · exact ⟨_, hr⟩
    · exact ⟨_, h⟩
  refine { defers := R.defers, size := R.size, os := hos.trans R.os, tape := htape.trans R.tape, output := hout.trans R.output, grow := by rw [hsz]; exact R.grow, stay := fun b hb => (hS b (R.base b hb)).trans (R.stay b hb), base := R.base, lt := fun b hb => by rw [hsz]; exact R.lt b hb, own := ?_, Flt := ?_, disj := ?_, ids := ?_, env := ?_, pins := ?_ }
  · intro q rt hq
    rcases look q rt hq with ⟨rfl, rfl⟩ | ⟨hne, hq⟩
    · exact ⟨hv, H⟩
    · obtain ⟨hv2, H2⟩ := R.own q rt hq
      exact ⟨hv2, H2.frame (fun b hb => ⟨hb, hS b hb⟩) fun b hb => hold b fun h => hne (R.disj q r rt _ b hq hr hb h)⟩
  · intro q rt b hq hb
    obtain ⟨rt2, h2⟩ := any q rt hq
    rw [hsz]
    exact R.Flt q rt2 b h2 hb
  · intro q q' rt rt' b hq hq' hb hb'
    obtain ⟨rt2, h2⟩ := any q rt hq
    obtain ⟨rt3, h3⟩ := any q' rt' hq'
    exact R.disj q q' rt2 rt3 b h2 h3 hb hb'
  · intro q rt hq
    obtain ⟨rt2, h2⟩ := any q rt hq
    exact R.ids q rt2 h2
  · intro i av hi
    exact ⟨(R.env i av hi).1.renum hr hl hS, (R.env i av hi).2⟩
  · intro hd i b hp
    obtain ⟨q, h1, h2, h3⟩ := R.pins hd i b hp
    refine ⟨q, h1, by rw [hsz]; exact h2, fun r2 rt2 h4 h5 => ?_⟩
    obtain ⟨rt3, h6⟩ := any r2 rt2 h4
    exact h3 r2 rt3 h6 h5

def cpAV (tt : List (Nat × TE)) (s : XS) (T : Nat) (x y : Option AV) : Option MF :=
  match lk tt T, x, y with
  | some (.slice _ (.int k) _), some (.sub r [] lo hi), some y => match s.root r with
    | some rt => match srcAV s y with
      | some (p, el) => match castL rt.t (.int k) rt.x, castL el.t (.int k) el.l with
        | some l, some m => if rt.h = none then
            some ⟨p, lo ≤ hi ∧ hi ≤ List.length l, .dat (.int .i64) ((min (List.length m) (hi - lo) : Nat) : Int), s.setRoot r ⟨rt.e, .int k, rt.k, cpL l lo hi m, none⟩, [r]⟩ else none
        | _, _ => none
      | none => none
    | none => none
  | _, _, _ => none

theorem cellsAt_get {arr : Array Value} {o : Nat} {v : Value} (h : arr.toList[o]? = some v) : cellsAt arr o 1 = [v] := by
  obtain ⟨hlt, h⟩ := List.getElem?_eq_some_iff.1 h
  unfold cellsAt
  rw [List.drop_eq_getElem_cons hlt]
  simp [h]

theorem get_cellsAt {arr : Array Value} {o : Nat} {v : Value} (h : cellsAt arr o 1 = [v]) : arr.toList[o]? = some v := by
  unfold cellsAt at h
  by_cases hlt : o < arr.toList.length
  · rw [List.drop_eq_getElem_cons hlt] at h
    simp only [List.take_succ_cons, List.take_zero, List.cons.injEq, and_true] at h
    rw [List.getElem?_eq_getElem hlt, h]
  · rw [List.drop_eq_nil_of_le (by omega)] at h
    simp at h

theorem cpL_zero {α : Type} {l : List α} {lo hi : Nat} {m : List α} (h : min m.length (hi - lo) = 0) : cpL l lo hi m = l := by
  unfold cpL; rw [h]; simp

theorem cpL_getD {l : List Int} {lo hi : Nat} {m : List Int} (h1 : lo ≤ hi) (h2 : hi ≤ l.length) {i : Nat} : (cpL l lo hi m).getD i 0 = if lo ≤ i ∧ i < lo + min m.length (hi - lo) then m.getD (i - lo) 0 else l.getD i 0 := by
  have e1 : (l.take lo).length = lo := by rw [List.length_take]; omega
  have e2 : (m.take (min m.length (hi - lo))).length = min m.length (hi - lo) := by rw [List.length_take]; omega
  unfold cpL
  simp only [List.getD_eq_getElem?_getD]
  by_cases c1 : i < lo
  · rw [List.append_assoc, List.getElem?_append_left (by omega), List.getElem?_take, if_pos c1, if_neg (by omega)]
  · by_cases c2 : i < lo + min m.length (hi - lo)
    · rw [List.getElem?_append_left (by rw [List.length_append]; omega), List.getElem?_append_right (by omega), e1, List.getElem?_take, if_pos (by omega), if_pos (by omega)]
    · rw [List.getElem?_append_right (by rw [List.length_append]; omega), List.length_append, e1, e2, List.getElem?_drop, if_neg (by omega)]
      congr 2
      omega

theorem cpAV_ok (htt : ttB P tt = true) (R : RelAt w0 S0 N dr pc s a w S pl) {T T' ty : Nat} {x y : Option AV} {vx vy : Value} {mf : MF} (hx : ∀ u, x = some u → AVR w S s.rts pl u vx)
    (hy : ∀ u, y = some u → AVR w S s.rts pl u vy) (h : cpAV tt s T x y = some mf) (hpre : mf.pre) : MFok w0 S0 N dr pc s a w pl mf ((Builtin.copy_ #[T, T'] ty #[vx, vy]).run P w) := by
  unfold cpAV at h
  split at h
  · rename_i e k bb r lo hi y' hte
    obtain ⟨hT, _, ⟨inf, hi1, hsz, _⟩, _, _⟩ := slice_te (ttB_get htt hte)
    have hs1 : (P.info? e).map (·.size) = some 1 := by rw [hi1]; simp [hsz, Ty.width]
    split at h
    · rename_i rt hr
      split at h
      · rename_i p el hsrc
        split at h
        · rename_i l m hl hm
          split at h
          · rename_i hh
            cases h
            obtain ⟨e0, t0, kk, x0, h0⟩ := rt
            obtain ⟨el_e, el_t, el_l⟩ := el
            simp only at hl hm hh
            obtain ⟨rfl, rfl⟩ := castL_eq hl
            obtain ⟨rfl, rfl⟩ := castL_eq hm
            subst hh
            obtain ⟨b1, b2, b3⟩ := hx _ rfl _ hr
            have b2 : hi ≤ List.length l := b2
            have hsr := srcAV_ok R (hy _ rfl) hsrc hpre
            obtain ⟨ad, c, rfl, had, hml, hnews⟩ := hsr
            obtain ⟨hv, H⟩ := R.own r _ hr
            have hcl : (cpL l lo hi m).length = l.length := cpL_length b1 b2
            simp only at *
            have same : min (List.length m) (hi - lo) = 0 → MFok w0 S0 N dr pc s a w pl ⟨p, lo ≤ hi ∧ hi ≤ List.length l, .dat (.int .i64) ((min (List.length m) (hi - lo) : Nat) : Int), s.setRoot r ⟨e0, .int k, kk, cpL l lo hi m, none⟩, [r]⟩ (.ok (goInt 0) w) := fun hn => by
              refine ⟨_, w, S, pl, rfl, ?_, ?_, AV.lt_dat, ⟨b1, b2⟩, fun _ _ _ => rfl⟩
              · rw [cpL_zero hn]
                exact R.renum hr rfl H rfl rfl (SameOut.refl w) rfl fun _ _ => rfl
              · rw [hn]; exact AVR.mkInt _ _ _
            rcases own_inv H with ⟨hct, hl0, _, _⟩ | ⟨b, cap, kids, arr, Fs, hct, hv1, q2, q3, h4, h5, g1, g2, g3, g4⟩
            · have hct : (pl r).ct = .nil := hct
              have b3 : vx = .slice none 0 0 := by
                have := b3
                simp only [RT.at, getS, atCT, hct, subR] at this
                exact this
              subst b3
              have hl1 : List.length l = 0 := by rw [hl0]; rfl
              have hn : min (List.length m) (hi - lo) = 0 := by omega
              rw [run_copy_none w T T' ty e none ad 0 0 m.length c hT hs1 (Nat.min_zero _)]
              exact same hn
            · have hct : (pl r).ct = .node b cap kids := hct
              have b3 : ∃ ad, vx = .slice ad (hi - lo) (cap - lo) ∧ (lo < cap ∨ lo = 0 → ad = some ⟨b, lo * 1, none⟩) := by
                have := b3
                simp only [RT.at, getS, atCT, hct, subR] at this
                exact this
              obtain ⟨adx, rfl, hadx⟩ := b3
              by_cases hn : min (List.length m) (hi - lo) = 0
              · rw [run_copy_none w T T' ty e adx ad (hi - lo) (cap - lo) m.length c hT hs1 hn]
                exact same hn
              · have hlo : lo < cap := by omega
                rw [hadx (.inl hlo)]
                have hane : ad ≠ none := fun he => by have := had he; rw [this] at hn; simp at hn
                obtain ⟨ad', rfl⟩ := Option.ne_none_iff_exists'.1 hane
                obtain ⟨news, n1, n2, n3⟩ := hnews ad' rfl
                simp only [Ty.width, Nat.mul_one] at n1 n3 h5 g4
                have hn4 : ∀ j, j < m.length → news[j]? = some (.int k (m.getD j 0)) := fun j hj => by
                  have := n3 j hj
                  simp only [RO] at this
                  have h9 := get_cellsAt this
                  exact h9
                have ha4 : ∀ j, j < l.length → arr.toList[j]? = some (.int k (l.getD j 0)) := fun j hj => by
                  rcases (g4 j hj).2 with ⟨hc, _⟩ | ⟨_, hc⟩
                  · cases hc
                  · simp only [RO] at hc
                    exact get_cellsAt hc
                have hcs : (news.take (min m.length (hi - lo))).length = Nat.min m.length (hi - lo) := by rw [List.length_take, n1]; show min (min _ _) _ = min _ _; omega
                have hrun := run_copy_row (P := P) w T T' ty e b (lo * 1) (hi - lo) (cap - lo) ad' m.length c arr e0 (news.take (min m.length (hi - lo))) hT hs1 h4 hcs
                  (fun j v hj => n2 j v (by rw [List.getElem?_take] at hj; split at hj; exact hj; cases hj)) (by rw [hcs, h5]; show lo * 1 + min _ _ ≤ _; omega)
                  (fun v hv => by
                    have hv := List.mem_of_mem_take hv
                    obtain ⟨j, hj, rfl⟩ := List.getElem_of_mem hv
                    have := hn4 j (by omega)
                    rw [List.getElem?_eq_getElem hj] at this
                    rw [Option.some.inj this]; rfl)
                rw [hrun]
                have hcs' : (news.take (min m.length (hi - lo))).length = min m.length (hi - lo) := hcs
                have hA : ∀ j, j < l.length → (arr.toList.take (lo * 1) ++ news.take (min m.length (hi - lo)) ++ arr.toList.drop (lo * 1 + (news.take (min m.length (hi - lo))).length))[j]? = some (.int k ((cpL l lo hi m).getD j 0)) := by
                  intro j hj
                  have hal : arr.toList.length = cap := by rw [Array.length_toList]; exact h5
                  have e1 : (arr.toList.take (lo * 1)).length = lo := by rw [List.length_take]; omega
                  rw [cpL_getD b1 b2, hcs']
                  by_cases c1 : j < lo
                  · rw [List.append_assoc, List.getElem?_append_left (by omega), List.getElem?_take, if_pos (by omega), if_neg (by omega)]
                    exact ha4 j hj
                  · by_cases c2 : j < lo + min m.length (hi - lo)
                    · rw [List.getElem?_append_left (by rw [List.length_append]; omega), List.getElem?_append_right (by omega), e1, List.getElem?_take, if_pos (by omega), if_pos (by omega)]
                      exact hn4 _ (by omega)
                    · rw [List.getElem?_append_right (by rw [List.length_append]; omega), List.length_append, e1, hcs', List.getElem?_drop, if_neg (by omega), show lo * 1 + min m.length (hi - lo) + (j - (lo + min m.length (hi - lo))) = j by omega]
                      exact ha4 j hj
                have hbF : (pl r).F b := (g1 b).2 (.inl rfl)
                refine ⟨_, _, S, pl, rfl, R.renum hr hcl (hv := hv) ?_ rfl rfl (sameOut_setRow h4) (setRow_size _ _ _) (fun n hn => setRow_other w b n _ fun e => hn (e ▸ hbF)), ?_, AV.lt_dat, ⟨b1, b2⟩, fun n _ hn => setRow_other w b n _ fun e => hn r _ (by simp) hr (e ▸ hbF)⟩
                · have hv1' : hv = .slice (some ⟨b, 0, none⟩) l.length cap := by simpa using hv1
                  rw [hct, hv1']
                  refine .inr ⟨by simp, by rw [hcl], by rw [hcl]; exact q2, q3, _, setRow_heap w b arr _ e0 (0, 0) h4, ?_, Fs, fun n => by rw [hcl]; exact g1 n, fun i hi => g2 i (by rw [← hcl]; exact hi), fun i j n hi hj => g3 i j n (by rw [← hcl]; exact hi) (by rw [← hcl]; exact hj), fun i hi => ⟨(g4 i (by rw [← hcl]; exact hi)).1, .inr ⟨rfl, ?_⟩⟩⟩
                  · simp only [List.size_toArray, List.length_append, List.length_take, List.length_drop, Array.length_toList, Ty.width, Nat.mul_one, n1, h5]
                    omega
                  · simp only [RO, Ty.width, Nat.mul_one]
                    refine cellsAt_get ?_
                    have h9 := hA i (by rw [← hcl]; exact hi)
                    rw [Nat.mul_one] at h9
                    rw [List.toList_toArray]
                    exact h9
                · have : goInt (news.take (min m.length (hi - lo))).length = .int .i64 ((min m.length (hi - lo) : Nat) : Int) := by rw [hcs']; rfl
                  rw [this]
                  exact AVR.mkInt _ _ _
          · cases h
        · cases h
      · cases h
    · cases h
  · cases h

end
end Fer
