import Derived.Test.YtijifdbiamaboaaFerMa
/- Plain facts: letters of a word in colours, each colour's letters in order (Greene). No program in sight. -/
set_option maxHeartbeats 1000000
namespace Fer

/-- Letters with colours; 0: none. -/
abbrev CW := List (Int × Nat)
def cls (c : Nat) (v : CW) : List Int := (v.filter fun x => decide (x.2 = c)).map (·.1)
def cnum (v : CW) : Nat := v.countP fun x => decide (0 < x.2)
/-- So many letters in k colours. -/
def Fam (k : Nat) (w : List Int) (m : Nat) : Prop := ∃ v : CW, v.map (·.1) = w ∧ (∀ x ∈ v, x.2 ≤ k) ∧ (∀ c, 0 < c → Srt (cls c v)) ∧ cnum v = m

theorem cls_app (c : Nat) (u v : CW) : cls c (u ++ v) = cls c u ++ cls c v := by
  unfold cls
  rw [List.filter_append, List.map_append]
theorem cls_cons_eq {c e : Nat} (a : Int) (v : CW) (h : e = c) : cls c ((a, e) :: v) = a :: cls c v := by
  unfold cls
  rw [List.filter_cons, if_pos (by simpa using h)]
  rfl
theorem cls_cons_ne {c e : Nat} (a : Int) (v : CW) (h : e ≠ c) : cls c ((a, e) :: v) = cls c v := by
  unfold cls
  rw [List.filter_cons, if_neg (by simpa using h)]
theorem cnum_app (u v : CW) : cnum (u ++ v) = cnum u + cnum v := List.countP_append
theorem cnum_cons (a : Int) (e : Nat) (v : CW) : cnum ((a, e) :: v) = cnum v + if 0 < e then 1 else 0 := by
  unfold cnum
  rw [List.countP_cons]
  by_cases h : 0 < e
  · rw [if_pos h, if_pos (by simpa using h)]
  · rw [if_neg h, if_neg (by simpa using h)]
/-- Two colours change places. -/
def sw (c d : Nat) (v : CW) : CW := v.map fun x => (x.1, if x.2 = c then d else if x.2 = d then c else x.2)
theorem sw_fst (c d : Nat) (v : CW) : (sw c d v).map (·.1) = v.map (·.1) := by
  unfold sw
  rw [List.map_map]
  rfl
theorem sw_le {c d k : Nat} (hc : c ≤ k) (hd : d ≤ k) {v : CW} (h : ∀ x ∈ v, x.2 ≤ k) : ∀ x ∈ sw c d v, x.2 ≤ k := fun x hx => by
  obtain ⟨y, hy, rfl⟩ := List.mem_map.1 hx
  have := h y hy
  simp only
  split
  · exact hd
  · split
    · exact hc
    · exact this
theorem sw_num {c d : Nat} (hc : 0 < c) (hd : 0 < d) : ∀ v : CW, cnum (sw c d v) = cnum v
  | [] => rfl
  | (a, e) :: v => by
    show cnum ((a, if e = c then d else if e = d then c else e) :: sw c d v) = _
    rw [cnum_cons, cnum_cons, sw_num hc hd v]
    congr 1
    by_cases h1 : e = c
    · rw [if_pos h1, if_pos hd, if_pos (by omega)]
    · rw [if_neg h1]
      by_cases h2 : e = d
      · rw [if_pos h2, if_pos hc, if_pos (by omega)]
      · rw [if_neg h2]
theorem sw_cls {c d : Nat} (hcd : c ≠ d) : ∀ (v : CW) (e : Nat), cls e (sw c d v) = cls (if e = c then d else if e = d then c else e) v
  | [], _ => rfl
  | (a, f) :: v, e => by
    have ih := sw_cls hcd v e
    show cls e ((a, if f = c then d else if f = d then c else f) :: sw c d v) = _
    by_cases h : f = (if e = c then d else if e = d then c else e)
    · rw [cls_cons_eq a v h, cls_cons_eq a _ (by split at h <;> (try split at h) <;> (split <;> (try split) <;> omega)), ih]
    · rw [cls_cons_ne a v h, cls_cons_ne a _ (by split at h <;> (try split at h) <;> (split <;> (try split) <;> omega)), ih]

theorem srt_app {u v : List Int} : Srt (u ++ v) ↔ Srt u ∧ Srt v ∧ ∀ a ∈ u, ∀ b ∈ v, a ≤ b := List.pairwise_append

theorem csplit3 {v : CW} {p s : List Int} {a b c : Int} (h : v.map (·.1) = p ++ [a, b, c] ++ s) : ∃ (vp vs : CW) (i j k : Nat), v = vp ++ [(a, i), (b, j), (c, k)] ++ vs ∧ vp.map (·.1) = p ∧ vs.map (·.1) = s := by
  rw [List.append_assoc] at h
  obtain ⟨vp, r, rfl, h1, h2⟩ := List.map_eq_append_iff.1 h
  match r, h2 with
  | (a', i) :: (b', j) :: (c', k) :: vs, h2 =>
    simp only [List.map_cons, List.cons_append, List.nil_append, List.cons.injEq] at h2
    obtain ⟨rfl, rfl, rfl, h3⟩ := h2
    exact ⟨vp, vs, i, j, k, by simp, h1, h3⟩
  | [], h2 => simp at h2
  | [_], h2 => simp at h2
  | [_, _], h2 => simp at h2

/-- Two neighbours of different colours, or of none, may change places. -/
theorem fam_swap {k m : Nat} {vp vs : CW} {t t' : CW} (hm : ∀ c, 0 < c → cls c t = cls c t') (hn : cnum t = cnum t') (hk : ∀ x ∈ t', x.2 ≤ k) (h1 : ∀ x ∈ vp ++ t ++ vs, x.2 ≤ k) (h2 : ∀ c, 0 < c → Srt (cls c (vp ++ t ++ vs))) (h3 : cnum (vp ++ t ++ vs) = m) :
    Fam k ((vp ++ t' ++ vs).map (·.1)) m := by
  refine ⟨vp ++ t' ++ vs, rfl, fun x hx => ?_, fun c hc => ?_, ?_⟩
  · rcases List.mem_append.1 hx with hx | hx
    · rcases List.mem_append.1 hx with hx | hx
      · exact h1 x (List.mem_append_left _ (List.mem_append_left _ hx))
      · exact hk x hx
    · exact h1 x (List.mem_append_right _ hx)
  · have := h2 c hc
    rw [cls_app, cls_app] at this ⊢
    rw [← hm c hc]
    exact this
  · rw [← h3, cnum_app, cnum_app, cnum_app, cnum_app, hn]

/-- Two colours change their tails. -/
theorem fam_tail {k m c d : Nat} {vp vs t t' : CW} (hc : 0 < c) (hd : 0 < d) (hcd : c ≠ d) (hck : c ≤ k) (hdk : d ≤ k) (hm : ∀ e, e ≠ c → e ≠ d → 0 < e → cls e t = cls e t') (hn : cnum t = cnum t') (hk : ∀ x ∈ t', x.2 ≤ k)
    (h1 : ∀ x ∈ vp ++ t ++ vs, x.2 ≤ k) (h2 : ∀ c, 0 < c → Srt (cls c (vp ++ t ++ vs))) (h3 : cnum (vp ++ t ++ vs) = m) (hC : Srt (cls c vp ++ cls c t' ++ cls d vs)) (hD : Srt (cls d vp ++ cls d t' ++ cls c vs)) :
    Fam k ((vp ++ t' ++ vs).map (·.1)) m := by
  refine ⟨vp ++ t' ++ sw c d vs, by simp only [List.map_append, sw_fst], fun x hx => ?_, fun e he => ?_, ?_⟩
  · rcases List.mem_append.1 hx with hx | hx
    · rcases List.mem_append.1 hx with hx | hx
      · exact h1 x (List.mem_append_left _ (List.mem_append_left _ hx))
      · exact hk x hx
    · exact sw_le hck hdk (fun y hy => h1 y (List.mem_append_right _ hy)) x hx
  · rw [cls_app, cls_app, sw_cls hcd]
    by_cases e1 : e = c
    · rw [if_pos e1, e1]; exact hC
    · rw [if_neg e1]
      by_cases e2 : e = d
      · rw [if_pos e2, e2]; exact hD
      · rw [if_neg e2]
        have := h2 e he
        rw [cls_app, cls_app] at this
        rw [← hm e e1 e2 he]
        exact this
  · rw [← h3, cnum_app, cnum_app, cnum_app, cnum_app, hn, sw_num hc hd]
/-- One colour's letter is another one. -/
theorem fam_one {k m c : Nat} {vp vs t t' : CW} (hm : ∀ e, e ≠ c → 0 < e → cls e t = cls e t') (hn : cnum t = cnum t') (hk : ∀ x ∈ t', x.2 ≤ k)
    (h1 : ∀ x ∈ vp ++ t ++ vs, x.2 ≤ k) (h2 : ∀ c, 0 < c → Srt (cls c (vp ++ t ++ vs))) (h3 : cnum (vp ++ t ++ vs) = m) (hC : Srt (cls c vp ++ cls c t' ++ cls c vs)) :
    Fam k ((vp ++ t' ++ vs).map (·.1)) m := by
  refine ⟨vp ++ t' ++ vs, rfl, fun x hx => ?_, fun e he => ?_, ?_⟩
  · rcases List.mem_append.1 hx with hx | hx
    · rcases List.mem_append.1 hx with hx | hx
      · exact h1 x (List.mem_append_left _ (List.mem_append_left _ hx))
      · exact hk x hx
    · exact h1 x (List.mem_append_right _ hx)
  · rw [cls_app, cls_app]
    by_cases e1 : e = c
    · rw [e1]; exact hC
    · have := h2 e he
      rw [cls_app, cls_app] at this
      rw [← hm e e1 he]
      exact this
  · rw [← h3, cnum_app, cnum_app, cnum_app, cnum_app, hn]

theorem cls3 (c : Nat) (x y z : Int) (i j l : Nat) : cls c [(x, i), (y, j), (z, l)] = (if i = c then [x] else []) ++ (if j = c then [y] else []) ++ (if l = c then [z] else []) := by
  by_cases h1 : i = c <;> by_cases h2 : j = c <;> by_cases h3 : l = c <;> simp [cls, h1, h2, h3]
theorem cnum3 (x y z : Int) (i j l : Nat) : cnum [(x, i), (y, j), (z, l)] = (if 0 < i then 1 else 0) + (if 0 < j then 1 else 0) + (if 0 < l then 1 else 0) := by
  rw [cnum_cons, cnum_cons, cnum_cons]
  show 0 + _ + _ + _ = _
  omega
theorem le3 {k : Nat} {x y z : Int} {i j l : Nat} (h1 : i ≤ k) (h2 : j ≤ k) (h3 : l ≤ k) : ∀ q ∈ [(x, i), (y, j), (z, l)], q.2 ≤ k := fun q hq => by
  simp only [List.mem_cons, List.not_mem_nil, or_false] at hq
  rcases hq with rfl | rfl | rfl <;> assumption
/-- What a colour's order says where it meets three letters. -/
theorem srt3 {P S M : List Int} (h : Srt (P ++ M ++ S)) : Srt M ∧ (∀ a ∈ P, ∀ b ∈ M, a ≤ b) ∧ (∀ a ∈ M, ∀ b ∈ S, a ≤ b) ∧ Srt P ∧ Srt S ∧ ∀ a ∈ P, ∀ b ∈ S, a ≤ b := by
  obtain ⟨h1, h2, h3⟩ := srt_app.1 h
  obtain ⟨h4, h5, h6⟩ := srt_app.1 h1
  exact ⟨h5, h6, fun a ha b hb => h3 a (List.mem_append_right _ ha) b hb, h4, h2, fun a ha b hb => h3 a (List.mem_append_left _ ha) b hb⟩
theorem srt3_mk {P S M : List Int} (h1 : Srt M) (h2 : ∀ a ∈ P, ∀ b ∈ M, a ≤ b) (h3 : ∀ a ∈ M, ∀ b ∈ S, a ≤ b) (h4 : Srt P) (h5 : Srt S) (h6 : ∀ a ∈ P, ∀ b ∈ S, a ≤ b) : Srt (P ++ M ++ S) :=
  srt_app.2 ⟨srt_app.2 ⟨h4, h1, h2⟩, h5, fun a ha b hb => by
    rcases List.mem_append.1 ha with ha | ha
    · exact h6 a ha b hb
    · exact h3 a ha b hb⟩
theorem srt_two {a b : Int} (h : a ≤ b) : Srt [a, b] := srt_cons.2 ⟨fun c hc => by rw [List.mem_singleton.1 hc]; exact h, List.pairwise_singleton _ _⟩

theorem fam_ke {u v : List Int} (h : KE u v) (p s : List Int) (k m : Nat) : Fam k (p ++ u ++ s) m ↔ Fam k (p ++ v ++ s) m := by
  cases h with
  | @a x y z hx hy =>
    constructor
    · rintro ⟨w, g1, g2, g3, g4⟩
      obtain ⟨vp, vs, i, j, l, rfl, rfl, rfl⟩ := csplit3 g1
      have q := fun c (hc : 0 < c) => by have := g3 c hc; rw [cls_app, cls_app] at this; exact srt3 this
      have hi := g2 (y, i) (by simp)
      have hj := g2 (z, j) (by simp)
      have hl := g2 (x, l) (by simp)
      have := fam_swap (t' := [(y, i), (x, l), (z, j)]) (fun c hc => by
        rw [cls3, cls3]
        by_cases e1 : j = c <;> by_cases e2 : l = c
        · have h1 := (q c hc).1
          rw [cls3, if_pos e1, if_pos e2, List.append_assoc] at h1
          have h2 := (srt_app.1 h1).2.1
          have := (srt_cons.1 h2).1 x (by simp)
          omega
        all_goals simp [e1, e2]) (by rw [cnum3, cnum3]; omega) (le3 hi hl hj) g2 g3 g4
      simpa using this
    · rintro ⟨w, g1, g2, g3, g4⟩
      obtain ⟨vp, vs, i, l, j, rfl, rfl, rfl⟩ := csplit3 g1
      have q := fun c (hc : 0 < c) => by have := g3 c hc; rw [cls_app, cls_app] at this; exact srt3 this
      have hi : i ≤ k := g2 (y, i) (by simp)
      have hl : l ≤ k := g2 (x, l) (by simp)
      have hj : j ≤ k := g2 (z, j) (by simp)
      by_cases hs : l = j ∧ 0 < j
      · obtain ⟨rfl, hl0⟩ := hs
        obtain ⟨q1, q2, q3, q4, q5, q6⟩ := q l hl0
        have hil : i ≠ l := fun e => by
          rw [cls3, if_pos e, if_pos rfl, List.append_assoc] at q1
          have := (srt_cons.1 q1).1 x (by simp)
          omega
        rw [cls3, if_neg hil, if_pos rfl, if_pos rfl] at q1 q2 q3
        have z1 : ∀ b ∈ cls l vs, z ≤ b := fun b hb => q3 z (by simp) b hb
        have z2 : ∀ a ∈ cls l vp, a ≤ x := fun a ha => q2 a ha x (by simp)
        by_cases hi0 : i = 0
        · subst hi0
          have := fam_one (c := l) (t' := [(y, l), (z, l), (x, 0)]) (fun e he h0 => by
            rw [cls3, cls3]
            simp [Ne.symm he, show ¬ 0 = e by omega]) (by rw [cnum3, cnum3]; simp [hl0]) (le3 hl hl (Nat.zero_le _)) g2 g3 g4 (by
            rw [cls3, if_pos rfl, if_pos rfl, if_neg (by omega)]
            refine srt3_mk (srt_two hy) (fun a ha b hb => ?_) (fun a ha b hb => ?_) q4 q5 q6
            · have := z2 a ha
              simp only [List.append_nil, List.cons_append, List.nil_append, List.mem_cons, List.not_mem_nil, or_false] at hb
              rcases hb with rfl | rfl <;> omega
            · have := z1 b hb
              simp only [List.append_nil, List.cons_append, List.nil_append, List.mem_cons, List.not_mem_nil, or_false] at ha
              rcases ha with rfl | rfl <;> omega)
          simpa using this
        · obtain ⟨r1, r2, r3, r4, r5, r6⟩ := q i (by omega)
          rw [cls3, if_pos rfl, if_neg (Ne.symm hil), if_neg (Ne.symm hil)] at r1 r2 r3
          have y1 : ∀ b ∈ cls i vs, y ≤ b := fun b hb => r3 y (by simp) b hb
          have y2 : ∀ a ∈ cls i vp, a ≤ y := fun a ha => r2 a ha y (by simp)
          have := fam_tail (c := l) (d := i) (t' := [(y, i), (z, i), (x, l)]) hl0 (by omega) (Ne.symm hil) hl hi (fun e h1 h2 h0 => by
            rw [cls3, cls3]
            simp [Ne.symm h1, Ne.symm h2]) (by rw [cnum3, cnum3]; simp [hl0, show 0 < i by omega]) (le3 hi hi hl) g2 g3 g4 (by
            rw [cls3, if_neg hil, if_neg hil, if_pos rfl]
            refine srt3_mk (List.pairwise_singleton _ _) (fun a ha b hb => ?_) (fun a ha b hb => ?_) q4 r5 (fun a ha b hb => ?_)
            · have := z2 a ha
              obtain rfl : b = x := by simpa using hb
              exact this
            · have := y1 b hb
              obtain rfl : a = x := by simpa using ha
              omega
            · have := z2 a ha
              have := y1 b hb
              omega) (by
            rw [cls3, if_pos rfl, if_pos rfl, if_neg (Ne.symm hil)]
            refine srt3_mk (srt_two hy) (fun a ha b hb => ?_) (fun a ha b hb => ?_) r4 q5 (fun a ha b hb => ?_)
            · have := y2 a ha
              simp only [List.append_nil, List.cons_append, List.nil_append, List.mem_cons, List.not_mem_nil, or_false] at hb
              rcases hb with rfl | rfl <;> omega
            · have := z1 b hb
              simp only [List.append_nil, List.cons_append, List.nil_append, List.mem_cons, List.not_mem_nil, or_false] at ha
              rcases ha with rfl | rfl <;> omega
            · have := y2 a ha
              have := z1 b hb
              omega)
          simpa using this
      · have := fam_swap (t' := [(y, i), (z, j), (x, l)]) (fun c hc => by
          rw [cls3, cls3]
          by_cases e1 : j = c <;> by_cases e2 : l = c
          · exact absurd ⟨e2.trans e1.symm, by omega⟩ hs
          all_goals simp [e1, e2]) (by rw [cnum3, cnum3]; omega) (le3 hi hj hl) g2 g3 g4
        simpa using this
  | @b x y z hx hy =>
    constructor
    · rintro ⟨w, g1, g2, g3, g4⟩
      obtain ⟨vp, vs, i, j, l, rfl, rfl, rfl⟩ := csplit3 g1
      have q := fun c (hc : 0 < c) => by have := g3 c hc; rw [cls_app, cls_app] at this; exact srt3 this
      have hi : i ≤ k := g2 (x, i) (by simp)
      have hj : j ≤ k := g2 (z, j) (by simp)
      have hl : l ≤ k := g2 (y, l) (by simp)
      by_cases hs : i = j ∧ 0 < j
      · obtain ⟨rfl, hi0⟩ := hs
        obtain ⟨q1, q2, q3, q4, q5, q6⟩ := q i hi0
        have hil : l ≠ i := fun e => by
          rw [cls3, if_pos rfl, if_pos rfl, if_pos e, List.append_assoc] at q1
          have := (srt_cons.1 (srt_app.1 q1).2.1).1 y (by simp)
          omega
        rw [cls3, if_pos rfl, if_pos rfl, if_neg hil] at q1 q2 q3
        have z1 : ∀ b ∈ cls i vs, z ≤ b := fun b hb => q3 z (by simp) b hb
        have z2 : ∀ a ∈ cls i vp, a ≤ x := fun a ha => q2 a ha x (by simp)
        by_cases hl0 : l = 0
        · subst hl0
          have := fam_one (c := i) (t' := [(z, 0), (x, i), (y, i)]) (fun e he h0 => by
            rw [cls3, cls3]
            simp [Ne.symm he, show ¬ 0 = e by omega]) (by rw [cnum3, cnum3]; simp [hi0]) (le3 (Nat.zero_le _) hi hi) g2 g3 g4 (by
            rw [cls3, if_neg (by omega), if_pos rfl, if_pos rfl]
            refine srt3_mk (srt_two hx) (fun a ha b hb => ?_) (fun a ha b hb => ?_) q4 q5 q6
            · have := z2 a ha
              simp only [List.append_nil, List.cons_append, List.nil_append, List.mem_cons, List.not_mem_nil, or_false] at hb
              rcases hb with rfl | rfl <;> omega
            · have := z1 b hb
              simp only [List.append_nil, List.cons_append, List.nil_append, List.mem_cons, List.not_mem_nil, or_false] at ha
              rcases ha with rfl | rfl <;> omega)
          simpa using this
        · obtain ⟨r1, r2, r3, r4, r5, r6⟩ := q l (by omega)
          rw [cls3, if_neg (Ne.symm hil), if_neg (Ne.symm hil), if_pos rfl] at r1 r2 r3
          have y1 : ∀ b ∈ cls l vs, y ≤ b := fun b hb => r3 y (by simp) b hb
          have y2 : ∀ a ∈ cls l vp, a ≤ y := fun a ha => r2 a ha y (by simp)
          have := fam_tail (c := i) (d := l) (t' := [(z, l), (x, i), (y, i)]) hi0 (by omega) (Ne.symm hil) hi hl (fun e h1 h2 h0 => by
            rw [cls3, cls3]
            simp [Ne.symm h1, Ne.symm h2]) (by rw [cnum3, cnum3]; simp [hi0, show 0 < l by omega]) (le3 hl hi hi) g2 g3 g4 (by
            rw [cls3, if_neg hil, if_pos rfl, if_pos rfl]
            refine srt3_mk (srt_two hx) (fun a ha b hb => ?_) (fun a ha b hb => ?_) q4 r5 (fun a ha b hb => ?_)
            · have := z2 a ha
              simp only [List.append_nil, List.cons_append, List.nil_append, List.mem_cons, List.not_mem_nil, or_false] at hb
              rcases hb with rfl | rfl <;> omega
            · have := y1 b hb
              simp only [List.append_nil, List.cons_append, List.nil_append, List.mem_cons, List.not_mem_nil, or_false] at ha
              rcases ha with rfl | rfl <;> omega
            · have := z2 a ha
              have := y1 b hb
              omega) (by
            rw [cls3, if_pos rfl, if_neg (Ne.symm hil), if_neg (Ne.symm hil)]
            refine srt3_mk (List.pairwise_singleton _ _) (fun a ha b hb => ?_) (fun a ha b hb => ?_) r4 q5 (fun a ha b hb => ?_)
            · have := y2 a ha
              obtain rfl : b = z := by simpa using hb
              omega
            · have := z1 b hb
              obtain rfl : a = z := by simpa using ha
              exact this
            · have := y2 a ha
              have := z1 b hb
              omega)
          simpa using this
      · have := fam_swap (t' := [(z, j), (x, i), (y, l)]) (fun c hc => by
          rw [cls3, cls3]
          by_cases e1 : j = c <;> by_cases e2 : i = c
          · exact absurd ⟨e2.trans e1.symm, by omega⟩ hs
          all_goals simp [e1, e2]) (by rw [cnum3, cnum3]; omega) (le3 hj hi hl) g2 g3 g4
        simpa using this
    · rintro ⟨w, g1, g2, g3, g4⟩
      obtain ⟨vp, vs, j, i, l, rfl, rfl, rfl⟩ := csplit3 g1
      have q := fun c (hc : 0 < c) => by have := g3 c hc; rw [cls_app, cls_app] at this; exact srt3 this
      have hi : i ≤ k := g2 (x, i) (by simp)
      have hj : j ≤ k := g2 (z, j) (by simp)
      have hl : l ≤ k := g2 (y, l) (by simp)
      have := fam_swap (t' := [(x, i), (z, j), (y, l)]) (fun c hc => by
        rw [cls3, cls3]
        by_cases e1 : j = c <;> by_cases e2 : i = c
        · have h1 := (q c hc).1
          rw [cls3, if_pos e1, if_pos e2, List.append_assoc] at h1
          have := (srt_cons.1 h1).1 x (by simp)
          omega
        all_goals simp [e1, e2]) (by rw [cnum3, cnum3]; omega) (le3 hi hj hl) g2 g3 g4
      simpa using this
theorem fam_kn {u v : List Int} (h : KN u v) (k m : Nat) : Fam k u m ↔ Fam k v m := by
  induction h with
  | refl w => exact Iff.rfl
  | step p s h => exact fam_ke h p s k m
  | symm _ ih => exact ih.symm
  | trans _ _ i1 i2 => exact i1.trans i2

end Fer
