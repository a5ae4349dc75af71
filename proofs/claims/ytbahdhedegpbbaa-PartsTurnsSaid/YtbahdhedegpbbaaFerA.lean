/- Typed data in the model's memory: what reads as what, who owns which blocks; frame, freeze, punch and fill. It imports no program. -/
import Derived.Laws.OwnMore
import Derived.Laws.CopyRow
import Derived.Below
namespace Fer
open Go

inductive Ty where
  | int (k : IntKind) | bool | str | raw
  | list (e : Nat) (t : Ty)
  | prod (a b : Ty)
  deriving DecidableEq, Inhabited

@[reducible] def Ty.den : Ty → Type
  | .int _ => Int | .bool => Bool | .str => ByteArray | .raw => Value
  | .list _ t => List t.den
  | .prod a b => a.den × b.den

def Ty.dflt : (t : Ty) → t.den
  | .int _ => (0 : Int) | .bool => false | .str => ByteArray.empty | .raw => Value.bool false
  | .list _ _ => []
  | .prod a b => (a.dflt, b.dflt)

def Ty.width : Ty → Nat
  | .prod a b => a.width + b.width
  | _ => 1

/-- No slices inside. -/
def Ty.flat : Ty → Bool
  | .list _ _ => false
  | .prod a b => a.flat && b.flat
  | _ => true

theorem Ty.width_pos : (t : Ty) → 0 < t.width
  | .prod a b => by have := a.width_pos; simp only [Ty.width]; omega
  | .int _ | .bool | .str | .raw | .list _ _ => Nat.one_pos

/-- Concrete trees: which blocks an owned value takes. -/
inductive CT where
  | leaf | nil
  | node (b cap : Nat) (kids : Nat → CT)
  | pair (a b : CT)
  deriving Inhabited

def hsub : Option (List Nat) → Nat → Option (List Nat)
  | some (j :: p), i => if j = i then some p else none
  | _, _ => none

@[simp] theorem hsub_none (i : Nat) : hsub none i = none := rfl
@[simp] theorem hsub_same (i : Nat) (p : List Nat) : hsub (some (i :: p)) i = some p := by simp [hsub]
theorem hsub_other {i j : Nat} (p : List Nat) (h : j ≠ i) : hsub (some (j :: p)) i = none := by simp [hsub, h]

def cellsAt (arr : Array Value) (o n : Nat) : List Value := (arr.toList.drop o).take n

theorem length_cellsAt {arr : Array Value} {o n : Nat} (h : o + n ≤ arr.size) : (cellsAt arr o n).length = n := by
  simp [cellsAt]; omega

/-- Stable data: value cells 'cs' read as x, and all that is reached lies in stable blocks. -/
def RO (w : World) (S : Nat → Prop) : (t : Ty) → t.den → List Value → Prop
  | .int k, n, cs => cs = [.int k n]
  | .bool, b, cs => cs = [.bool b]
  | .str, s, cs => cs = [.string s]
  | .raw, v, cs => cs = [v] ∧ v.oneCell' = true
  | .list _ t, xs, cs => ∃ a cap, cs = [.slice a xs.length cap] ∧ xs.length ≤ cap ∧ cap ≤ maxLen ∧
      (xs ≠ [] → ∃ b off arr E fr, a = some ⟨b, off, none⟩ ∧ S b ∧ w.heap[b]? = some (.cells arr E fr) ∧ off + xs.length * t.width ≤ arr.size ∧
        ∀ i, i < xs.length → RO w S t (xs.getD i t.dflt) (cellsAt arr (off + i * t.width) t.width))
  | .prod a b, x, cs => ∃ c1 c2, cs = c1 ++ c2 ∧ RO w S a x.1 c1 ∧ RO w S b x.2 c2

/-- Owned data: the first k levels of slices are owned, each block by this value alone; F: the blocks; h: where (if anywhere) a node has been taken out. -/
def Own (w : World) (S : Nat → Prop) : (t : Ty) → Nat → t.den → Option (List Nat) → CT → List Value → (Nat → Prop) → Prop
  | .list e t, k, xs, h, ct, cs, F =>
    (h = some [] ∧ cs.length = 1 ∧ ∀ n, ¬ F n) ∨
    (h ≠ some [] ∧ match k with
      | 0 => h = none ∧ RO w S (.list e t) xs cs ∧ ∀ n, ¬ F n
      | k + 1 => match ct with
        | .nil => xs = [] ∧ cs = [.slice none 0 0] ∧ ∀ n, ¬ F n
        | .node b cap kids => cs = [.slice (some ⟨b, 0, none⟩) xs.length cap] ∧ xs.length ≤ cap ∧ cap ≤ maxLen ∧
            ∃ arr, w.heap[b]? = some (.cells arr e (0, 0)) ∧ arr.size = cap * t.width ∧
            ∃ Fs : Nat → Nat → Prop, (∀ n, F n ↔ n = b ∨ ∃ i, i < xs.length ∧ Fs i n) ∧ (∀ i, i < xs.length → ¬ Fs i b) ∧
              (∀ i j n, i < xs.length → j < xs.length → Fs i n → Fs j n → i = j) ∧
              ∀ i, i < xs.length → Own w S t k (xs.getD i t.dflt) (hsub h i) (kids i) (cellsAt arr (i * t.width) t.width) (Fs i)
        | _ => False)
  | .prod a b, k, x, h, ct, cs, F =>
    (h = some [] ∧ cs.length = a.width + b.width ∧ ∀ n, ¬ F n) ∨
    (h ≠ some [] ∧ match ct with
      | .pair c d => ∃ c1 c2 F1 F2, cs = c1 ++ c2 ∧ (∀ n, F n ↔ F1 n ∨ F2 n) ∧ (∀ n, F1 n → ¬ F2 n) ∧
          Own w S a k x.1 (hsub h 0) c c1 F1 ∧ Own w S b k x.2 (hsub h 1) d c2 F2
      | _ => False)
  | .int k', _, n, h, _, cs, F => (∀ n, ¬ F n) ∧ ((h = some [] ∧ cs.length = 1) ∨ (h = none ∧ RO w S (.int k') n cs))
  | .bool, _, n, h, _, cs, F => (∀ n, ¬ F n) ∧ ((h = some [] ∧ cs.length = 1) ∨ (h = none ∧ RO w S .bool n cs))
  | .str, _, n, h, _, cs, F => (∀ n, ¬ F n) ∧ ((h = some [] ∧ cs.length = 1) ∨ (h = none ∧ RO w S .str n cs))
  | .raw, _, n, h, _, cs, F => (∀ n, ¬ F n) ∧ ((h = some [] ∧ cs.length = 1) ∨ (h = none ∧ RO w S .raw n cs))

theorem RO.length {w : World} {S : Nat → Prop} : ∀ {t : Ty} {x : t.den} {cs : List Value}, RO w S t x cs → cs.length = t.width
  | .int _, _, _, h => by simp [RO] at h; simp [h, Ty.width]
  | .bool, _, _, h => by simp [RO] at h; simp [h, Ty.width]
  | .str, _, _, h => by simp [RO] at h; simp [h, Ty.width]
  | .raw, _, _, h => by simp [RO] at h; simp [h.1, Ty.width]
  | .list _ _, _, _, h => by obtain ⟨a, cap, h, _⟩ := h; simp [h, Ty.width]
  | .prod a b, _, _, h => by
    obtain ⟨c1, c2, rfl, h1, h2⟩ := h
    simp [h1.length, h2.length, Ty.width]

theorem RO.oneCell {w : World} {S : Nat → Prop} : ∀ {t : Ty} {x : t.den} {cs : List Value}, RO w S t x cs → ∀ u ∈ cs, u.oneCell' = true
  | .int _, _, _, h => by simp only [RO] at h; simp [h, Value.oneCell']
  | .bool, _, _, h => by simp only [RO] at h; simp [h, Value.oneCell']
  | .str, _, _, h => by simp only [RO] at h; simp [h, Value.oneCell']
  | .raw, _, _, h => by simp only [RO] at h; simp [h.1, h.2]
  | .list _ _, _, _, h => by obtain ⟨a, cap, h, _⟩ := h; simp [h, Value.oneCell']
  | .prod a b, _, _, h => by
    obtain ⟨c1, c2, rfl, h1, h2⟩ := h
    intro u hu
    rcases List.mem_append.1 hu with hu | hu
    · exact h1.oneCell u hu
    · exact h2.oneCell u hu

theorem RO.frame {w w' : World} {S S' : Nat → Prop} (hS : ∀ b, S b → S' b ∧ w'.heap[b]? = w.heap[b]?) :
    ∀ {t : Ty} {x : t.den} {cs : List Value}, RO w S t x cs → RO w' S' t x cs
  | .int _, _, _, h => h
  | .bool, _, _, h => h
  | .str, _, _, h => h
  | .raw, _, _, h => h
  | .list _ t, xs, cs, h => by
    obtain ⟨a, cap, h1, h2, h3, h4⟩ := h
    refine ⟨a, cap, h1, h2, h3, fun hne => ?_⟩
    obtain ⟨b, off, arr, E, fr, e1, e2, e3, e4, e5⟩ := h4 hne
    exact ⟨b, off, arr, E, fr, e1, (hS b e2).1, ((hS b e2).2).trans e3, e4, fun i hi => (e5 i hi).frame hS⟩
  | .prod a b, x, cs, h => by
    obtain ⟨c1, c2, h0, h1, h2⟩ := h
    exact ⟨c1, c2, h0, h1.frame hS, h2.frame hS⟩

theorem Own.length {w : World} {S : Nat → Prop} : ∀ {t : Ty} {k : Nat} {x : t.den} {h : Option (List Nat)} {ct : CT} {cs : List Value} {F : Nat → Prop},
    Own w S t k x h ct cs F → cs.length = t.width
  | .int _, _, _, _, _, _, _, h => by
    rcases h.2 with h | h
    · simp [h.2, Ty.width]
    · exact h.2.length
  | .bool, _, _, _, _, _, _, h => by
    rcases h.2 with h | h
    · simp [h.2, Ty.width]
    · exact h.2.length
  | .str, _, _, _, _, _, _, h => by
    rcases h.2 with h | h
    · simp [h.2, Ty.width]
    · exact h.2.length
  | .raw, _, _, _, _, _, _, h => by
    rcases h.2 with h | h
    · simp [h.2, Ty.width]
    · exact h.2.length
  | .list e t, k, xs, h, ct, cs, F, H => by
    rcases H with H | ⟨_, H⟩
    · simp [H.2.1, Ty.width]
    · cases k with
      | zero => exact H.2.1.length
      | succ k =>
        cases ct with
        | nil => simp [H.2.1, Ty.width]
        | node b cap kids => simp [H.1, Ty.width]
        | leaf => exact H.elim
        | pair => exact H.elim
  | .prod a b, k, x, h, ct, cs, F, H => by
    rcases H with H | ⟨_, H⟩
    · simp [H.2.1, Ty.width]
    · cases ct with
      | pair c d =>
        obtain ⟨c1, c2, F1, F2, rfl, _, _, h1, h2⟩ := H
        simp [h1.length, h2.length, Ty.width]
      | nil => exact H.elim
      | node => exact H.elim
      | leaf => exact H.elim

theorem Own.frame {w w' : World} {S S' : Nat → Prop} (hS : ∀ b, S b → S' b ∧ w'.heap[b]? = w.heap[b]?) :
    ∀ {t : Ty} {k : Nat} {x : t.den} {h : Option (List Nat)} {ct : CT} {cs : List Value} {F : Nat → Prop},
    Own w S t k x h ct cs F → (∀ b, F b → w'.heap[b]? = w.heap[b]?) → Own w' S' t k x h ct cs F
  | .int _, _, _, _, _, _, _, h, _ => h
  | .bool, _, _, _, _, _, _, h, _ => h
  | .str, _, _, _, _, _, _, h, _ => h
  | .raw, _, _, _, _, _, _, h, _ => h
  | .list e t, k, xs, h, ct, cs, F, H, hF => by
    rcases H with H | ⟨h0, H⟩
    · exact .inl H
    · refine .inr ⟨h0, ?_⟩
      cases k with
      | zero => exact ⟨H.1, H.2.1.frame hS, H.2.2⟩
      | succ k =>
        cases ct with
        | nil => exact H
        | node b cap kids =>
          obtain ⟨h1, h2, h3, arr, h4, h5, Fs, g1, g2, g3, g4⟩ := H
          exact ⟨h1, h2, h3, arr, (hF b ((g1 b).2 (.inl rfl))).trans h4, h5, Fs, g1, g2, g3,
            fun i hi => (g4 i hi).frame hS fun n hn => hF n ((g1 n).2 (.inr ⟨i, hi, hn⟩))⟩
        | leaf => exact H.elim
        | pair => exact H.elim
  | .prod a b, k, x, h, ct, cs, F, H, hF => by
    rcases H with H | ⟨h0, H⟩
    · exact .inl H
    · refine .inr ⟨h0, ?_⟩
      cases ct with
      | pair c d =>
        obtain ⟨c1, c2, F1, F2, h1, g1, g2, g3, g4⟩ := H
        exact ⟨c1, c2, F1, F2, h1, g1, g2, g3.frame hS fun n hn => hF n ((g1 n).2 (.inl hn)), g4.frame hS fun n hn => hF n ((g1 n).2 (.inr hn))⟩
      | nil => exact H.elim
      | node => exact H.elim
      | leaf => exact H.elim

/-- Given up: what was owned is stable from now on. -/
theorem Own.freeze {w : World} {S S' : Nat → Prop} :
    ∀ {t : Ty} {k : Nat} {x : t.den} {ct : CT} {cs : List Value} {F : Nat → Prop},
    Own w S t k x none ct cs F → (∀ b, S b → S' b) → (∀ b, F b → S' b) → RO w S' t x cs
  | .int _, _, _, _, _, _, h, _, _ => by rcases h.2 with h | h; simp at h; exact h.2
  | .bool, _, _, _, _, _, h, _, _ => by rcases h.2 with h | h; simp at h; exact h.2
  | .str, _, _, _, _, _, h, _, _ => by rcases h.2 with h | h; simp at h; exact h.2
  | .raw, _, _, _, _, _, h, _, _ => by rcases h.2 with h | h; simp at h; exact h.2
  | .list e t, k, xs, ct, cs, F, H, hS, hF => by
    rcases H with H | ⟨_, H⟩
    · simp at H
    · cases k with
      | zero => exact H.2.1.frame fun b hb => ⟨hS b hb, rfl⟩
      | succ k =>
        cases ct with
        | nil =>
          obtain ⟨rfl, rfl, _⟩ := H
          exact ⟨none, 0, rfl, by simp, Nat.zero_le _, fun hne => absurd rfl hne⟩
        | node b cap kids =>
          obtain ⟨h1, h2, h3, arr, h4, h5, Fs, g1, g2, g3, g4⟩ := H
          refine ⟨_, cap, h1, h2, h3, fun _ => ⟨b, 0, arr, e, _, rfl, hF b ((g1 b).2 (.inl rfl)), h4, ?_, fun i hi => ?_⟩⟩
          · rw [h5, Nat.zero_add]; exact Nat.mul_le_mul_right _ h2
          · rw [Nat.zero_add]
            exact (g4 i hi).freeze hS fun n hn => hF n ((g1 n).2 (.inr ⟨i, hi, hn⟩))
        | leaf => exact H.elim
        | pair => exact H.elim
  | .prod a b, k, x, ct, cs, F, H, hS, hF => by
    rcases H with H | ⟨_, H⟩
    · simp at H
    · cases ct with
      | pair c d =>
        obtain ⟨c1, c2, F1, F2, h1, g1, g2, g3, g4⟩ := H
        exact ⟨c1, c2, h1, g3.freeze hS fun n hn => hF n ((g1 n).2 (.inl hn)), g4.freeze hS fun n hn => hF n ((g1 n).2 (.inr hn))⟩
      | nil => exact H.elim
      | node => exact H.elim
      | leaf => exact H.elim

def noF : Nat → Prop := fun _ => False

/-- A tree of leaves. -/
def CT.of : Ty → CT
  | .prod a b => .pair (CT.of a) (CT.of b)
  | _ => .leaf

/-- What is stable, and has no slices or counts none as owned, is owned as it stands. -/
theorem RO.own {w : World} {S : Nat → Prop} :
    ∀ {t : Ty} {k : Nat} {x : t.den} {cs : List Value}, (t.flat = true ∨ k = 0) → RO w S t x cs → Own w S t k x none (CT.of t) cs noF
  | .int _, _, _, _, _, h => ⟨fun _ h => h, .inr ⟨rfl, h⟩⟩
  | .bool, _, _, _, _, h => ⟨fun _ h => h, .inr ⟨rfl, h⟩⟩
  | .str, _, _, _, _, h => ⟨fun _ h => h, .inr ⟨rfl, h⟩⟩
  | .raw, _, _, _, _, h => ⟨fun _ h => h, .inr ⟨rfl, h⟩⟩
  | .list e t, k, xs, cs, hk, h => by
    rcases hk with hk | rfl
    · simp [Ty.flat] at hk
    · exact .inr ⟨by simp, rfl, h, fun _ h => h⟩
  | .prod a b, k, x, cs, hk, h => by
    obtain ⟨c1, c2, rfl, h1, h2⟩ := h
    refine .inr ⟨by simp, c1, c2, noF, noF, rfl, by simp [noF], by simp [noF], h1.own ?_, h2.own ?_⟩
    · rcases hk with hk | hk
      · simp [Ty.flat] at hk; exact .inl hk.1
      · exact .inr hk
    · rcases hk with hk | hk
      · simp [Ty.flat] at hk; exact .inl hk.2
      · exact .inr hk

/-- Fewer levels are owned; what is given up becomes stable. -/
theorem Own.weaken {w : World} {S : Nat → Prop} :
    ∀ {t : Ty} {k k' : Nat} {x : t.den} {ct : CT} {cs : List Value} {F : Nat → Prop}, k' ≤ k →
    Own w S t k x none ct cs F → ∃ ct' F', (∀ n, F' n → F n) ∧ Own w (fun n => S n ∨ (F n ∧ ¬ F' n)) t k' x none ct' cs F'
  | .int _, _, _, _, _, _, F, _, h => ⟨.leaf, F, fun _ h => h, h⟩
  | .bool, _, _, _, _, _, F, _, h => ⟨.leaf, F, fun _ h => h, h⟩
  | .str, _, _, _, _, _, F, _, h => ⟨.leaf, F, fun _ h => h, h⟩
  | .raw, _, _, _, _, _, F, _, h => ⟨.leaf, F, fun _ h => h, h⟩
  | .list e t, k, k', xs, ct, cs, F, hk, H => by
    cases k' with
    | zero =>
      refine ⟨.leaf, noF, fun _ h => h.elim, .inr ⟨by simp, rfl, H.freeze (fun b hb => .inl hb) (fun b hb => .inr ⟨hb, fun h => h⟩), fun _ h => h⟩⟩
    | succ k' =>
      rcases H with H | ⟨h0, H⟩
      · simp at H
      · cases k with
        | zero => omega
        | succ k =>
          cases ct with
          | nil => exact ⟨.nil, F, fun _ h => h, .inr ⟨h0, H⟩⟩
          | node b cap kids =>
            obtain ⟨h1, h2, h3, arr, h4, h5, Fs, g1, g2, g3, g4⟩ := H
            have hx : ∀ i, ∃ ct' F', ∀ (hi : i < xs.length), (∀ n, F' n → Fs i n) ∧ Own w (fun n => S n ∨ (Fs i n ∧ ¬ F' n)) t k' (xs.getD i t.dflt) none ct' (cellsAt arr (i * t.width) t.width) F' := by
              intro i
              by_cases hi : i < xs.length
              · obtain ⟨c, f, e1, e2⟩ := (g4 i hi).weaken (k' := k') (by omega)
                exact ⟨c, f, fun _ => ⟨e1, e2⟩⟩
              · exact ⟨.leaf, noF, fun h => absurd h hi⟩
            let kids' : Nat → CT := fun i => (hx i).choose
            let Fs' : Nat → Nat → Prop := fun i => (hx i).choose_spec.choose
            have hs : ∀ i (hi : i < xs.length), (∀ n, Fs' i n → Fs i n) ∧ Own w (fun n => S n ∨ (Fs i n ∧ ¬ Fs' i n)) t k' (xs.getD i t.dflt) none (kids' i) (cellsAt arr (i * t.width) t.width) (Fs' i) :=
              fun i hi => (hx i).choose_spec.choose_spec hi
            refine ⟨.node b cap kids', fun n => n = b ∨ ∃ i, i < xs.length ∧ Fs' i n, ?_, .inr ⟨by simp, h1, h2, h3, arr, h4, h5, Fs', fun n => Iff.rfl, ?_, ?_, ?_⟩⟩
            · intro n hn
              rcases hn with rfl | ⟨i, hi, hn⟩
              · exact (g1 _).2 (.inl rfl)
              · exact (g1 n).2 (.inr ⟨i, hi, (hs i hi).1 n hn⟩)
            · intro i hi hb; exact g2 i hi ((hs i hi).1 b hb)
            · intro i j n hi hj h1 h2; exact g3 i j n hi hj ((hs i hi).1 n h1) ((hs j hj).1 n h2)
            · intro i hi
              refine ((hs i hi).2).frame (fun n hn => ⟨?_, rfl⟩) (fun _ _ => rfl)
              rcases hn with hn | ⟨hn1, hn2⟩
              · exact .inl hn
              · refine .inr ⟨(g1 n).2 (.inr ⟨i, hi, hn1⟩), ?_⟩
                rintro (rfl | ⟨j, hj, hn⟩)
                · exact g2 i hi hn1
                · have := g3 i j n hi hj hn1 ((hs j hj).1 n hn)
                  subst this
                  exact hn2 hn
          | leaf => exact H.elim
          | pair => exact H.elim
  | .prod a b, k, k', x, ct, cs, F, hk, H => by
    rcases H with H | ⟨h0, H⟩
    · simp at H
    · cases ct with
      | pair c d =>
        obtain ⟨c1, c2, F1, F2, h1, g1, g2, g3, g4⟩ := H
        obtain ⟨ca, Fa, ea, oa⟩ := g3.weaken hk
        obtain ⟨cb, Fb, eb, ob⟩ := g4.weaken hk
        refine ⟨.pair ca cb, fun n => Fa n ∨ Fb n, ?_, .inr ⟨by simp, c1, c2, Fa, Fb, h1, fun n => Iff.rfl, fun n h1 h2 => g2 n (ea n h1) (eb n h2), ?_, ?_⟩⟩
        · rintro n (h | h)
          · exact (g1 n).2 (.inl (ea n h))
          · exact (g1 n).2 (.inr (eb n h))
        · refine oa.frame (fun n hn => ⟨?_, rfl⟩) (fun _ _ => rfl)
          rcases hn with hn | ⟨hn1, hn2⟩
          · exact .inl hn
          · refine .inr ⟨(g1 n).2 (.inl hn1), ?_⟩
            rintro (h | h)
            · exact hn2 h
            · exact g2 n hn1 (eb n h)
        · refine ob.frame (fun n hn => ⟨?_, rfl⟩) (fun _ _ => rfl)
          rcases hn with hn | ⟨hn1, hn2⟩
          · exact .inl hn
          · refine .inr ⟨(g1 n).2 (.inr hn1), ?_⟩
            rintro (h | h)
            · exact g2 n (ea n h) hn1
            · exact hn2 h
      | nil => exact H.elim
      | node => exact H.elim
      | leaf => exact H.elim

end Fer
