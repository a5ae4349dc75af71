import Derived.Laws.OwnMore
import Derived.Laws.CopyRow
import Derived.Below
import Derived.Still
import Derived.Laws.Entries
import Derived.RowKit3
import Derived.Laws.Slices
import Derived.WideLaws
import Derived.WalkKit
import Derived.Laws.StructEq
import Derived.Laws.Tables
import Derived.Great.FillDense
namespace Fer
open Go

inductive Ty where
  | int (k : IntKind) | bool | str | raw
  | list (e : Nat) (t : Ty)
  | prod (a b : Ty)
  | fn (f : Nat) (t : Ty)
  | row (e : Nat) (t : Ty)
  | ro (e : Nat) (t : Ty)
  | func
  deriving DecidableEq, Inhabited

@[reducible] def Ty.den : Ty → Type
  | .int _ => Int | .bool => Bool | .str => ByteArray | .raw => Value
  | .list _ t => List t.den
  | .prod a b => a.den × b.den
  | .fn _ t => t.den
  | .row _ t => List t.den
  | .ro _ t => Value × List t.den
  | .func => Option (Nat × List Nat)

def Ty.dflt : (t : Ty) → t.den
  | .int _ => (0 : Int) | .bool => false | .str => ByteArray.empty | .raw => Value.pointer none
  | .list _ _ => []
  | .prod a b => (a.dflt, b.dflt)
  | .fn _ t => t.dflt
  | .row _ _ => []
  | .ro _ _ => (.slice none 0 0, [])
  | .func => none

def Ty.width : Ty → Nat
  | .prod a b => a.width + b.width
  | _ => 1

def Ty.flat : Ty → Bool
  | .list _ _ => false
  | .fn _ _ => false
  | .row _ _ => false
  | .ro _ _ => false
  | .prod a b => a.flat && b.flat
  | _ => true

theorem Ty.width_pos : (t : Ty) → 0 < t.width
  | .prod a b => by have := a.width_pos; simp only [Ty.width]; omega
  | .int _ | .bool | .str | .raw | .list _ _ | .fn _ _ | .row _ _ | .ro _ _ | .func => Nat.one_pos

inductive CT where
  | leaf | nil
  | node (b cap : Nat) (kids : Nat → CT)
  | pair (a b : CT)
  deriving Inhabited

def hsub : Option (List Nat) → Nat → Option (List Nat)
  | some (j :: p), i => if j = i then some p else none
  | _, _ => none

@[simp] theorem hsub_none (i : Nat) : hsub none i = none := rfl
@[simp] theorem hsub_same (i : Nat) (p : List Nat) : hsub (some (i :: p)) i = some p := by simp [hsub]
theorem hsub_other {i j : Nat} (p : List Nat) (h : j ≠ i) : hsub (some (j :: p)) i = none := by simp [hsub, h]

def cellsAt (arr : Array Value) (o n : Nat) : List Value := (arr.toList.drop o).take n

theorem length_cellsAt {arr : Array Value} {o n : Nat} (h : o + n ≤ arr.size) : (cellsAt arr o n).length = n := by
  simp [cellsAt]; omega

def RO (w : World) (S : Nat → Prop) : (t : Ty) → t.den → List Value → Prop
  | .int k, n, cs => cs = [.int k n]
  | .bool, b, cs => cs = [.bool b]
  | .str, s, cs => cs = [.string s]
  | .raw, v, cs => cs = [v] ∧ v.oneCell' = true
  | .list _ t, xs, cs => ∃ a cap, cs = [.slice a xs.length cap] ∧ xs.length ≤ cap ∧ cap ≤ maxLen ∧
      (xs ≠ [] → ∃ b off arr E fr, a = some ⟨b, off, none⟩ ∧ S b ∧ w.heap[b]? = some (.cells arr E fr) ∧ off + xs.length * t.width ≤ arr.size ∧
        ∀ i, i < xs.length → RO w S t (xs.getD i t.dflt) (cellsAt arr (off + i * t.width) t.width))
  | .prod a b, x, cs => ∃ c1 c2, cs = c1 ++ c2 ∧ RO w S a x.1 c1 ∧ RO w S b x.2 c2
  | .fn f t, x, cs => ∃ b o arr E fr, cs = [.func (.func f) #[] #[.pointer (some ⟨b, o, none⟩)]] ∧ S b ∧ w.heap[b]? = some (.cells arr E fr) ∧ o + t.width ≤ arr.size ∧ RO w S t x (cellsAt arr o t.width)
  | .row e t, xs, cs => ∃ b cap arr, cs = [.slice (some ⟨b, 0, none⟩) xs.length cap] ∧ xs.length ≤ cap ∧ cap ≤ maxLen ∧ S b ∧ w.heap[b]? = some (.cells arr e (0, 0)) ∧ arr.size = cap * t.width ∧
      ∀ i, i < xs.length → RO w S t (xs.getD i t.dflt) (cellsAt arr (i * t.width) t.width)
  | .ro _ t, x, cs => cs = [x.1] ∧ ∃ a cap, x.1 = .slice a x.2.length cap ∧ x.2.length ≤ cap ∧ cap ≤ maxLen ∧
      (x.2 ≠ [] → ∃ b off arr E fr, a = some ⟨b, off, none⟩ ∧ S b ∧ w.heap[b]? = some (.cells arr E fr) ∧ off + x.2.length * t.width ≤ arr.size ∧
        ∀ i, i < x.2.length → RO w S t (x.2.getD i t.dflt) (cellsAt arr (off + i * t.width) t.width))
  | .func, x, cs => cs = [match x with | none => .nilFunc | some (f, bl) => .func (.func f) #[] (bl.map fun b => Value.pointer (some ⟨b, 0, none⟩)).toArray]

def Own (w : World) (S : Nat → Prop) : (t : Ty) → Nat → t.den → Option (List Nat) → CT → List Value → (Nat → Prop) → Prop
  | .list e t, k, xs, h, ct, cs, F =>
    (h = some [] ∧ cs.length = 1 ∧ ∀ n, ¬ F n) ∨
    (h ≠ some [] ∧ match k with
      | 0 => h = none ∧ RO w S (.list e t) xs cs ∧ ∀ n, ¬ F n
      | k + 1 => match ct with
        | .nil => xs = [] ∧ cs = [.slice none 0 0] ∧ ∀ n, ¬ F n
        | .node b cap kids => cs = [.slice (some ⟨b, 0, none⟩) xs.length cap] ∧ xs.length ≤ cap ∧ cap ≤ maxLen ∧
            ∃ arr, w.heap[b]? = some (.cells arr e (0, 0)) ∧ arr.size = cap * t.width ∧
            ∃ Fs : Nat → Nat → Prop, (∀ n, F n ↔ n = b ∨ ∃ i, i < xs.length ∧ Fs i n) ∧ (∀ i, i < xs.length → ¬ Fs i b) ∧
              (∀ i j n, i < xs.length → j < xs.length → Fs i n → Fs j n → i = j) ∧
              ∀ i, i < xs.length → Own w S t k (xs.getD i t.dflt) (hsub h i) (kids i) (cellsAt arr (i * t.width) t.width) (Fs i)
        | _ => False)
  | .prod a b, k, x, h, ct, cs, F =>
    (h = some [] ∧ cs.length = a.width + b.width ∧ ∀ n, ¬ F n) ∨
    (h ≠ some [] ∧ match ct with
      | .pair c d => ∃ c1 c2 F1 F2, cs = c1 ++ c2 ∧ (∀ n, F n ↔ F1 n ∨ F2 n) ∧ (∀ n, F1 n → ¬ F2 n) ∧
          Own w S a k x.1 (hsub h 0) c c1 F1 ∧ Own w S b k x.2 (hsub h 1) d c2 F2
      | _ => False)
  | .int k', _, n, h, _, cs, F => (∀ n, ¬ F n) ∧ ((h = some [] ∧ cs.length = 1) ∨ (h = none ∧ RO w S (.int k') n cs))
  | .bool, _, n, h, _, cs, F => (∀ n, ¬ F n) ∧ ((h = some [] ∧ cs.length = 1) ∨ (h = none ∧ RO w S .bool n cs))
  | .str, _, n, h, _, cs, F => (∀ n, ¬ F n) ∧ ((h = some [] ∧ cs.length = 1) ∨ (h = none ∧ RO w S .str n cs))
  | .raw, _, n, h, _, cs, F => (∀ n, ¬ F n) ∧ ((h = some [] ∧ cs.length = 1) ∨ (h = none ∧ RO w S .raw n cs))
  | .fn f t, k, n, h, _, cs, F => (∀ n, ¬ F n) ∧ ((h = some [] ∧ cs.length = 1) ∨ (h = none ∧ k = 0 ∧ RO w S (.fn f t) n cs))
  | .row e t, k, n, h, _, cs, F => (∀ n, ¬ F n) ∧ ((h = some [] ∧ cs.length = 1) ∨ (h = none ∧ k = 0 ∧ RO w S (.row e t) n cs))
  | .ro e t, _, n, h, _, cs, F => (∀ n, ¬ F n) ∧ ((h = some [] ∧ cs.length = 1) ∨ (h = none ∧ RO w S (.ro e t) n cs))
  | .func, _, n, h, _, cs, F => (∀ n, ¬ F n) ∧ ((h = some [] ∧ cs.length = 1) ∨ (h = none ∧ RO w S .func n cs))

theorem RO.length {w : World} {S : Nat → Prop} : ∀ {t : Ty} {x : t.den} {cs : List Value}, RO w S t x cs → cs.length = t.width
  | .int _, _, _, h => by simp [RO] at h; simp [h, Ty.width]
  | .bool, _, _, h => by simp [RO] at h; simp [h, Ty.width]
  | .str, _, _, h => by simp [RO] at h; simp [h, Ty.width]
  | .raw, _, _, h => by simp [RO] at h; simp [h.1, Ty.width]
  | .fn _ _, _, _, h => by obtain ⟨b, o, arr, E, fr, h, _⟩ := h; simp [h, Ty.width]
  | .row _ _, _, _, h => by obtain ⟨b, cap, arr, h, _⟩ := h; simp [h, Ty.width]
  | .ro _ _, _, _, h => by obtain ⟨h, _⟩ := h; simp [h, Ty.width]
  | .func, _, _, h => by simp only [RO] at h; simp [h, Ty.width]
  | .list _ _, _, _, h => by obtain ⟨a, cap, h, _⟩ := h; simp [h, Ty.width]
  | .prod a b, _, _, h => by
    obtain ⟨c1, c2, rfl, h1, h2⟩ := h
    simp [h1.length, h2.length, Ty.width]

theorem RO.oneCell {w : World} {S : Nat → Prop} : ∀ {t : Ty} {x : t.den} {cs : List Value}, RO w S t x cs → ∀ u ∈ cs, u.oneCell' = true
  | .int _, _, _, h => by simp only [RO] at h; simp [h, Value.oneCell']
  | .bool, _, _, h => by simp only [RO] at h; simp [h, Value.oneCell']
  | .str, _, _, h => by simp only [RO] at h; simp [h, Value.oneCell']
  | .raw, _, _, h => by simp only [RO] at h; simp [h.1, h.2]
  | .fn _ _, _, _, h => by obtain ⟨b, o, arr, E, fr, h, _⟩ := h; simp [h, Value.oneCell']
  | .row _ _, _, _, h => by obtain ⟨b, cap, arr, h, _⟩ := h; simp [h, Value.oneCell']
  | .ro _ _, _, _, h => by obtain ⟨h, a, cap, h2, _⟩ := h; simp [h, h2, Value.oneCell']
  | .func, x, _, h => by simp only [RO] at h; rcases x with _ | ⟨f, bl⟩ <;> simp [h, Value.oneCell']
  | .list _ _, _, _, h => by obtain ⟨a, cap, h, _⟩ := h; simp [h, Value.oneCell']
  | .prod a b, _, _, h => by
    obtain ⟨c1, c2, rfl, h1, h2⟩ := h
    intro u hu
    rcases List.mem_append.1 hu with hu | hu
    · exact h1.oneCell u hu
    · exact h2.oneCell u hu

theorem RO.frame {w w' : World} {S S' : Nat → Prop} (hS : ∀ b, S b → S' b ∧ w'.heap[b]? = w.heap[b]?) :
    ∀ {t : Ty} {x : t.den} {cs : List Value}, RO w S t x cs → RO w' S' t x cs
  | .int _, _, _, h => h
  | .bool, _, _, h => h
  | .str, _, _, h => h
  | .raw, _, _, h => h
  | .func, _, _, h => h
  | .ro _ t, x, cs, h => by
    obtain ⟨h0, a, cap, h1, h2, h3, h4⟩ := h
    refine ⟨h0, a, cap, h1, h2, h3, fun hne => ?_⟩
    obtain ⟨b, off, arr, E, fr, e1, e2, e3, e4, e5⟩ := h4 hne
    exact ⟨b, off, arr, E, fr, e1, (hS b e2).1, ((hS b e2).2).trans e3, e4, fun i hi => (e5 i hi).frame hS⟩
  | .row _ t, x, cs, h => by
    obtain ⟨b, cap, arr, h1, h2, h3, h4, h5, h6, h7⟩ := h
    exact ⟨b, cap, arr, h1, h2, h3, (hS b h4).1, ((hS b h4).2).trans h5, h6, fun i hi => (h7 i hi).frame hS⟩
  | .fn _ t, x, cs, h => by
    obtain ⟨b, o, arr, E, fr, h1, h2, h3, h4, h5⟩ := h
    exact ⟨b, o, arr, E, fr, h1, (hS b h2).1, ((hS b h2).2).trans h3, h4, h5.frame hS⟩
  | .list _ t, xs, cs, h => by
    obtain ⟨a, cap, h1, h2, h3, h4⟩ := h
    refine ⟨a, cap, h1, h2, h3, fun hne => ?_⟩
    obtain ⟨b, off, arr, E, fr, e1, e2, e3, e4, e5⟩ := h4 hne
    exact ⟨b, off, arr, E, fr, e1, (hS b e2).1, ((hS b e2).2).trans e3, e4, fun i hi => (e5 i hi).frame hS⟩
  | .prod a b, x, cs, h => by
    obtain ⟨c1, c2, h0, h1, h2⟩ := h
    exact ⟨c1, c2, h0, h1.frame hS, h2.frame hS⟩

theorem Own.length {w : World} {S : Nat → Prop} : ∀ {t : Ty} {k : Nat} {x : t.den} {h : Option (List Nat)} {ct : CT} {cs : List Value} {F : Nat → Prop},
    Own w S t k x h ct cs F → cs.length = t.width
  | .int _, _, _, _, _, _, _, h => by
    rcases h.2 with h | h
    · simp [h.2, Ty.width]
    · exact h.2.length
  | .bool, _, _, _, _, _, _, h => by
    rcases h.2 with h | h
    · simp [h.2, Ty.width]
    · exact h.2.length
  | .str, _, _, _, _, _, _, h => by
    rcases h.2 with h | h
    · simp [h.2, Ty.width]
    · exact h.2.length
  | .raw, _, _, _, _, _, _, h => by
    rcases h.2 with h | h
    · simp [h.2, Ty.width]
    · exact h.2.length
  | .fn _ _, _, _, _, _, _, _, h | .row _ _, _, _, _, _, _, _, h => by
    rcases h.2 with h | h
    · simp [h.2, Ty.width]
    · exact h.2.2.length
  | .ro _ _, _, _, _, _, _, _, h | .func, _, _, _, _, _, _, h => by
    rcases h.2 with h | h
    · simp [h.2, Ty.width]
    · exact h.2.length
  | .list e t, k, xs, h, ct, cs, F, H => by
    rcases H with H | ⟨_, H⟩
    · simp [H.2.1, Ty.width]
    · cases k with
      | zero => exact H.2.1.length
      | succ k =>
        cases ct with
        | nil => simp [H.2.1, Ty.width]
        | node b cap kids => simp [H.1, Ty.width]
        | leaf => exact H.elim
        | pair => exact H.elim
  | .prod a b, k, x, h, ct, cs, F, H => by
    rcases H with H | ⟨_, H⟩
    · simp [H.2.1, Ty.width]
    · cases ct with
      | pair c d =>
        obtain ⟨c1, c2, F1, F2, rfl, _, _, h1, h2⟩ := H
        simp [h1.length, h2.length, Ty.width]
      | nil => exact H.elim
      | node => exact H.elim
      | leaf => exact H.elim

theorem Own.frame {w w' : World} {S S' : Nat → Prop} (hS : ∀ b, S b → S' b ∧ w'.heap[b]? = w.heap[b]?) :
    ∀ {t : Ty} {k : Nat} {x : t.den} {h : Option (List Nat)} {ct : CT} {cs : List Value} {F : Nat → Prop},
    Own w S t k x h ct cs F → (∀ b, F b → w'.heap[b]? = w.heap[b]?) → Own w' S' t k x h ct cs F
  | .int _, _, _, _, _, _, _, h, _ => h
  | .bool, _, _, _, _, _, _, h, _ => h
  | .str, _, _, _, _, _, _, h, _ => h
  | .raw, _, _, _, _, _, _, h, _ => h
  | .fn _ _, _, _, _, _, _, _, h, _ | .row _ _, _, _, _, _, _, _, h, _ => ⟨h.1, h.2.imp id fun q => ⟨q.1, q.2.1, q.2.2.frame hS⟩⟩
  | .ro _ _, _, _, _, _, _, _, h, _ => ⟨h.1, h.2.imp id fun q => ⟨q.1, q.2.frame hS⟩⟩
  | .func, _, _, _, _, _, _, h, _ => h
  | .list e t, k, xs, h, ct, cs, F, H, hF => by
    rcases H with H | ⟨h0, H⟩
    · exact .inl H
    · refine .inr ⟨h0, ?_⟩
      cases k with
      | zero => exact ⟨H.1, H.2.1.frame hS, H.2.2⟩
      | succ k =>
        cases ct with
        | nil => exact H
        | node b cap kids =>
          obtain ⟨h1, h2, h3, arr, h4, h5, Fs, g1, g2, g3, g4⟩ := H
          exact ⟨h1, h2, h3, arr, (hF b ((g1 b).2 (.inl rfl))).trans h4, h5, Fs, g1, g2, g3,
            fun i hi => (g4 i hi).frame hS fun n hn => hF n ((g1 n).2 (.inr ⟨i, hi, hn⟩))⟩
        | leaf => exact H.elim
        | pair => exact H.elim
  | .prod a b, k, x, h, ct, cs, F, H, hF => by
    rcases H with H | ⟨h0, H⟩
    · exact .inl H
    · refine .inr ⟨h0, ?_⟩
      cases ct with
      | pair c d =>
        obtain ⟨c1, c2, F1, F2, h1, g1, g2, g3, g4⟩ := H
        exact ⟨c1, c2, F1, F2, h1, g1, g2, g3.frame hS fun n hn => hF n ((g1 n).2 (.inl hn)), g4.frame hS fun n hn => hF n ((g1 n).2 (.inr hn))⟩
      | nil => exact H.elim
      | node => exact H.elim
      | leaf => exact H.elim

theorem Own.freeze {w : World} {S S' : Nat → Prop} :
    ∀ {t : Ty} {k : Nat} {x : t.den} {ct : CT} {cs : List Value} {F : Nat → Prop},
    Own w S t k x none ct cs F → (∀ b, S b → S' b) → (∀ b, F b → S' b) → RO w S' t x cs
  | .int _, _, _, _, _, _, h, _, _ => by rcases h.2 with h | h; simp at h; exact h.2
  | .bool, _, _, _, _, _, h, _, _ => by rcases h.2 with h | h; simp at h; exact h.2
  | .str, _, _, _, _, _, h, _, _ => by rcases h.2 with h | h; simp at h; exact h.2
  | .raw, _, _, _, _, _, h, _, _ => by rcases h.2 with h | h; simp at h; exact h.2
  | .fn _ _, _, _, _, _, _, h, hS, _ | .row _ _, _, _, _, _, _, h, hS, _ => by
    rcases h.2 with h | h
    · simp at h
    · exact h.2.2.frame fun b hb => ⟨hS b hb, rfl⟩
  | .ro _ _, _, _, _, _, _, h, hS, _ => by
    rcases h.2 with h | h
    · simp at h
    · exact h.2.frame fun b hb => ⟨hS b hb, rfl⟩
  | .func, _, _, _, _, _, h, _, _ => by rcases h.2 with h | h; simp at h; exact h.2
  | .list e t, k, xs, ct, cs, F, H, hS, hF => by
    rcases H with H | ⟨_, H⟩
    · simp at H
    · cases k with
      | zero => exact H.2.1.frame fun b hb => ⟨hS b hb, rfl⟩
      | succ k =>
        cases ct with
        | nil =>
          obtain ⟨rfl, rfl, _⟩ := H
          exact ⟨none, 0, rfl, by simp, Nat.zero_le _, fun hne => absurd rfl hne⟩
        | node b cap kids =>
          obtain ⟨h1, h2, h3, arr, h4, h5, Fs, g1, g2, g3, g4⟩ := H
          refine ⟨_, cap, h1, h2, h3, fun _ => ⟨b, 0, arr, e, _, rfl, hF b ((g1 b).2 (.inl rfl)), h4, ?_, fun i hi => ?_⟩⟩
          · rw [h5, Nat.zero_add]; exact Nat.mul_le_mul_right _ h2
          · rw [Nat.zero_add]
            exact (g4 i hi).freeze hS fun n hn => hF n ((g1 n).2 (.inr ⟨i, hi, hn⟩))
        | leaf => exact H.elim
        | pair => exact H.elim
  | .prod a b, k, x, ct, cs, F, H, hS, hF => by
    rcases H with H | ⟨_, H⟩
    · simp at H
    · cases ct with
      | pair c d =>
        obtain ⟨c1, c2, F1, F2, h1, g1, g2, g3, g4⟩ := H
        exact ⟨c1, c2, h1, g3.freeze hS fun n hn => hF n ((g1 n).2 (.inl hn)), g4.freeze hS fun n hn => hF n ((g1 n).2 (.inr hn))⟩
      | nil => exact H.elim
      | node => exact H.elim
      | leaf => exact H.elim

def noF : Nat → Prop := fun _ => False

def CT.of : Ty → CT
  | .prod a b => .pair (CT.of a) (CT.of b)
  | _ => .leaf

theorem RO.own {w : World} {S : Nat → Prop} :
    ∀ {t : Ty} {k : Nat} {x : t.den} {cs : List Value}, (t.flat = true ∨ k = 0) → RO w S t x cs → Own w S t k x none (CT.of t) cs noF
  | .int _, _, _, _, _, h => ⟨fun _ h => h, .inr ⟨rfl, h⟩⟩
  | .bool, _, _, _, _, h => ⟨fun _ h => h, .inr ⟨rfl, h⟩⟩
  | .str, _, _, _, _, h => ⟨fun _ h => h, .inr ⟨rfl, h⟩⟩
  | .raw, _, _, _, _, h => ⟨fun _ h => h, .inr ⟨rfl, h⟩⟩
  | .fn _ _, k, _, _, hk, h | .row _ _, k, _, _, hk, h => ⟨fun _ h => h, .inr ⟨rfl, by rcases hk with hk | hk; simp [Ty.flat] at hk; exact hk, h⟩⟩
  | .ro _ _, _, _, _, _, h => ⟨fun _ h => h, .inr ⟨rfl, h⟩⟩
  | .func, _, _, _, _, h => ⟨fun _ h => h, .inr ⟨rfl, h⟩⟩
  | .list e t, k, xs, cs, hk, h => by
    rcases hk with hk | rfl
    · simp [Ty.flat] at hk
    · exact .inr ⟨by simp, rfl, h, fun _ h => h⟩
  | .prod a b, k, x, cs, hk, h => by
    obtain ⟨c1, c2, rfl, h1, h2⟩ := h
    refine .inr ⟨by simp, c1, c2, noF, noF, rfl, by simp [noF], by simp [noF], h1.own ?_, h2.own ?_⟩
    · rcases hk with hk | hk
      · simp [Ty.flat] at hk; exact .inl hk.1
      · exact .inr hk
    · rcases hk with hk | hk
      · simp [Ty.flat] at hk; exact .inl hk.2
      · exact .inr hk

end Fer

namespace Fer
open Go

structure TV where
  t : Ty
  x : t.den

def getS : List Nat → (t : Ty) → t.den → TV
  | [], t, x => ⟨t, x⟩
  | i :: p, .list _ t, xs => getS p t (xs.getD i t.dflt)
  | 0 :: p, .prod a _, x => getS p a x.1
  | 1 :: p, .prod _ b, x => getS p b x.2
  | (_ + 2) :: _, .prod a b, x => ⟨.prod a b, x⟩
  | _ :: _, .int k, x => ⟨.int k, x⟩
  | _ :: _, .bool, x => ⟨.bool, x⟩
  | _ :: _, .str, x => ⟨.str, x⟩
  | _ :: _, .raw, x => ⟨.raw, x⟩
  | _ :: _, .fn f t, x => ⟨.fn f t, x⟩
  | _ :: _, .row f t, x => ⟨.row f t, x⟩
  | _ :: _, .ro f t, x => ⟨.ro f t, x⟩
  | _ :: _, .func, x => ⟨.func, x⟩

def setT : List Nat → (t : Ty) → t.den → TV → t.den
  | [], t, x, y => if h : y.t = t then h ▸ y.x else x
  | i :: p, .list _ t, xs, y => xs.set i (setT p t (xs.getD i t.dflt) y)
  | 0 :: p, .prod a _, x, y => (setT p a x.1 y, x.2)
  | 1 :: p, .prod _ b, x, y => (x.1, setT p b x.2 y)
  | (_ + 2) :: _, .prod _ _, x, _ => x
  | _ :: _, .int _, x, _ => x
  | _ :: _, .bool, x, _ => x
  | _ :: _, .str, x, _ => x
  | _ :: _, .raw, x, _ => x
  | _ :: _, .fn _ _, x, _ => x
  | _ :: _, .row _ _, x, _ => x
  | _ :: _, .ro _ _, x, _ => x
  | _ :: _, .func, x, _ => x

def okS : List Nat → (t : Ty) → t.den → Nat → Prop
  | [], _, _, _ => True
  | i :: p, .list _ t, xs, k => 0 < k ∧ i < xs.length ∧ okS p t (xs.getD i t.dflt) (k - 1)
  | 0 :: p, .prod a _, x, k => okS p a x.1 k
  | 1 :: p, .prod _ b, x, k => okS p b x.2 k
  | _ :: _, _, _, _ => False

def dep : List Nat → Ty → Nat → Nat
  | [], _, k => k
  | _ :: p, .list _ t, k => dep p t (k - 1)
  | 0 :: p, .prod a _, k => dep p a k
  | 1 :: p, .prod _ b, k => dep p b k
  | _ :: _, _, k => k

def atCT : List Nat → Ty → CT → CT
  | [], _, c => c
  | i :: p, .list _ t, .node _ _ kids => atCT p t (kids i)
  | 0 :: p, .prod a _, .pair c _ => atCT p a c
  | 1 :: p, .prod _ b, .pair _ d => atCT p b d
  | _ :: _, _, _ => .leaf

def setCT : List Nat → Ty → CT → CT → CT
  | [], _, _, c => c
  | i :: p, .list _ t, .node b cap kids, c => .node b cap fun j => if j = i then setCT p t (kids i) c else kids j
  | 0 :: p, .prod a _, .pair x y, c => .pair (setCT p a x c) y
  | 1 :: p, .prod _ b, .pair x y, c => .pair x (setCT p b y c)
  | _ :: _, _, c, _ => c

def addrOf : List Nat → Ty → CT → Nat × Nat → Nat × Nat
  | [], _, _, a => a
  | i :: p, .list _ t, .node b _ kids, _ => addrOf p t (kids i) (b, i * t.width)
  | 0 :: p, .prod a _, .pair c _, x => addrOf p a c x
  | 1 :: p, .prod a b, .pair _ d, x => addrOf p b d (x.1, x.2 + a.width)
  | _ :: _, _, _, a => a

def Loc (w : World) (b o : Nat) (cs : List Value) : Prop :=
  ∃ arr E, w.heap[b]? = some (.cells arr E (0, 0)) ∧ o + cs.length ≤ arr.size ∧ cellsAt arr o cs.length = cs

def spl (arr : Array Value) (o : Nat) (cs : List Value) : Array Value := (arr.toList.take o ++ cs ++ arr.toList.drop (o + cs.length)).toArray

theorem size_spl {arr : Array Value} {o : Nat} {cs : List Value} (h : o + cs.length ≤ arr.size) : (spl arr o cs).size = arr.size := by
  simp [spl]; omega

theorem cellsAt_spl_other {arr : Array Value} {o o2 n2 : Nat} {cs : List Value} (h : o + cs.length ≤ arr.size) (hd : o2 + n2 ≤ o ∨ o + cs.length ≤ o2) :
    cellsAt (spl arr o cs) o2 n2 = cellsAt arr o2 n2 := by
  have h1 : (arr.toList.take o).length = o := by simp; omega
  apply List.ext_getElem?
  intro j
  simp only [cellsAt, spl, List.getElem?_take, List.getElem?_drop]
  split
  · rename_i hj
    rcases hd with hd | hd
    · have : o2 + j < o := by omega
      rw [List.append_assoc, List.getElem?_append_left (by rw [h1]; omega), List.getElem?_take, if_pos this]
    · rw [List.append_assoc, List.getElem?_append_right (by rw [h1]; omega), List.getElem?_append_right (by rw [h1]; omega), h1, List.getElem?_drop]
      congr 1
      omega
  · rfl

theorem get3 {α : Type} (A C B : List α) (i : Nat) :
    (A ++ (C ++ B))[i]? = if i < A.length then A[i]? else if i < A.length + C.length then C[i - A.length]? else B[i - A.length - C.length]? := by
  by_cases h1 : i < A.length
  · rw [if_pos h1, List.getElem?_append_left h1]
  · rw [if_neg h1, List.getElem?_append_right (by omega)]
    by_cases h2 : i < A.length + C.length
    · rw [if_pos h2, List.getElem?_append_left (by omega)]
    · rw [if_neg h2, List.getElem?_append_right (by omega)]

theorem cellsAt_spl_inside {arr : Array Value} {o o2 n2 : Nat} {cs : List Value} (h : o2 + n2 ≤ arr.size) (h1 : o2 ≤ o) (h2 : o + cs.length ≤ o2 + n2) :
    cellsAt (spl arr o cs) o2 n2 = (cellsAt arr o2 n2).take (o - o2) ++ cs ++ (cellsAt arr o2 n2).drop (o - o2 + cs.length) := by
  have e1 : (arr.toList.take o).length = o := by simp; omega
  have e2 : (cellsAt arr o2 n2).length = n2 := length_cellsAt h
  have e3 : ((cellsAt arr o2 n2).take (o - o2)).length = o - o2 := by rw [List.length_take, e2]; omega
  have e4 : ∀ j, j < n2 → (cellsAt arr o2 n2)[j]? = arr.toList[o2 + j]? := fun j hj => by
    simp only [cellsAt, List.getElem?_take, List.getElem?_drop]; rw [if_pos hj]
  apply List.ext_getElem?
  intro j
  by_cases hj : j < n2
  · have e5 : (cellsAt (spl arr o cs) o2 n2)[j]? = (arr.toList.take o ++ (cs ++ arr.toList.drop (o + cs.length)))[o2 + j]? := by
      simp only [cellsAt, spl, List.getElem?_take, List.getElem?_drop, List.append_assoc]; rw [if_pos hj]
    rw [e5, List.append_assoc, get3, get3, e1, e3]
    by_cases hj1 : j < o - o2
    · rw [if_pos (by omega), if_pos hj1, List.getElem?_take, List.getElem?_take, if_pos (by omega), if_pos hj1, e4 j hj]
    · rw [if_neg (by omega), if_neg hj1]
      by_cases hj2 : j < o - o2 + cs.length
      · rw [if_pos (by omega), if_pos hj2]
        congr 1; omega
      · rw [if_neg (by omega), if_neg hj2, List.getElem?_drop, List.getElem?_drop, e4 _ (by omega)]
        congr 1; omega
  · rw [List.getElem?_eq_none (by simp [cellsAt]; omega), List.getElem?_eq_none (by simp only [List.length_append, e3, List.length_drop, e2]; omega)]

@[simp] theorem getS_nil (t : Ty) (x : t.den) : getS [] t x = ⟨t, x⟩ := rfl

theorem Own.hole {w : World} {S : Nat → Prop} {t : Ty} {k : Nat} {x : t.den} {ct : CT} {cs : List Value} {F : Nat → Prop}
    (h : cs.length = t.width) (hF : ∀ n, ¬ F n) : Own w S t k x (some []) ct cs F := by
  cases t <;> simp only [Own, Ty.width] at * <;> simp [h] <;> assumption

def LocOr (p : List Nat) (t : Ty) (w : World) (b o : Nat) (cs : List Value) : Prop := (∃ e t' i q, t = .list e t' ∧ p = i :: q) ∨ Loc w b o cs

theorem punch {w : World} {S : Nat → Prop} : ∀ (p : List Nat) (t : Ty) (k : Nat) (x : t.den) (ct : CT) (cs : List Value) (F : Nat → Prop) (b o : Nat),
    Own w S t k x none ct cs F → okS p t x k → LocOr p t w b o cs →
    ∃ cs' F' b' o', addrOf p t ct (b, o) = (b', o') ∧ Loc w b' o' cs' ∧
      Own w S (getS p t x).t (dep p t k) (getS p t x).x none (atCT p t ct) cs' F' ∧ (∀ n, F' n → F n) ∧
      Own w S t k x (some p) ct cs (fun n => F n ∧ ¬ F' n) ∧
      ((b' = b ∧ o ≤ o' ∧ o' + cs'.length ≤ o + cs.length) ∨ (F b' ∧ ¬ F' b'))
  | [], t, k, x, ct, cs, F, b, o, H, _, hl => by
    have hl : Loc w b o cs := by
      rcases hl with ⟨_, _, _, _, _, h⟩ | hl
      · cases h
      · exact hl
    refine ⟨cs, F, b, o, rfl, hl, H, fun _ h => h, ?_, .inl ⟨rfl, Nat.le_refl _, Nat.le_refl _⟩⟩
    exact Own.hole H.length fun n hn => hn.2 hn.1
  | i :: p, .list e t, k, xs, ct, cs, F, b, o, H, hok, _ => by
    obtain ⟨hk, hi, hok⟩ := hok
    obtain ⟨k, rfl⟩ : ∃ k', k = k' + 1 := ⟨k - 1, by omega⟩
    rcases H with H | ⟨_, H⟩
    · simp at H
    · cases ct with
      | nil => obtain ⟨rfl, _⟩ := H; simp at hi
      | leaf => exact H.elim
      | pair => exact H.elim
      | node blk cap kids =>
        obtain ⟨h1, h2, h3, arr, h4, h5, Fs, g1, g2, g3, g4⟩ := H
        have hfit : i * t.width + t.width ≤ arr.size := by
          rw [h5, ← Nat.succ_mul]; exact Nat.mul_le_mul_right _ (by omega)
        have hlen : (cellsAt arr (i * t.width) t.width).length = t.width := length_cellsAt hfit
        have hloc : Loc w blk (i * t.width) (cellsAt arr (i * t.width) t.width) := ⟨arr, e, h4, by rw [hlen]; exact hfit, by rw [hlen]⟩
        have Hi := g4 i hi
        simp only [hsub_none] at Hi
        obtain ⟨cs', F', b', o', e1, e2, e3, e4, e5, e6⟩ := punch p t k (xs.getD i t.dflt) (kids i) _ (Fs i) blk (i * t.width) Hi hok (.inr hloc)
        have hF'b : ¬ F' blk := fun h => g2 i hi (e4 _ h)
        refine ⟨cs', F', b', o', by simpa [addrOf] using e1, e2, ?_, fun n hn => (g1 n).2 (.inr ⟨i, hi, e4 n hn⟩), ?_, ?_⟩
        · exact e3
        · refine .inr ⟨by simp, h1, h2, h3, arr, h4, h5, fun j n => Fs j n ∧ ¬ F' n, ?_, ?_, ?_, ?_⟩
          · intro n
            constructor
            · rintro ⟨hn, hn'⟩
              rcases (g1 n).1 hn with h | ⟨j, hj, h⟩
              · exact .inl h
              · exact .inr ⟨j, hj, h, hn'⟩
            · rintro (rfl | ⟨j, hj, h, hn'⟩)
              · exact ⟨(g1 _).2 (.inl rfl), hF'b⟩
              · exact ⟨(g1 n).2 (.inr ⟨j, hj, h⟩), hn'⟩
          · intro j hj h; exact g2 j hj h.1
          · intro j l n hj hl h1 h2; exact g3 j l n hj hl h1.1 h2.1
          · intro j hj
            by_cases hji : j = i
            · subst hji
              rw [hsub_same]
              exact e5
            · rw [hsub_other _ (Ne.symm hji)]
              have Hj := g4 j hj
              simp only [hsub_none] at Hj
              have : (fun n => Fs j n ∧ ¬ F' n) = Fs j := by
                funext n
                apply propext
                constructor
                · exact fun h => h.1
                · exact fun h => ⟨h, fun h' => hji (g3 j i n hj hi h (e4 n h'))⟩
              show Own w S t k _ none (kids j) _ (fun n => Fs j n ∧ ¬ F' n)
              rw [this]
              exact Hj
        · right
          rcases e6 with ⟨rfl, _⟩ | ⟨h, h'⟩
          · exact ⟨(g1 _).2 (.inl rfl), hF'b⟩
          · exact ⟨(g1 _).2 (.inr ⟨i, hi, h⟩), h'⟩
  | 0 :: p, .prod a c, k, x, ct, cs, F, b, o, H, hok, hl => by
    have hl : Loc w b o cs := by
      rcases hl with ⟨_, _, _, _, h, _⟩ | hl
      · cases h
      · exact hl
    rcases H with H | ⟨_, H⟩
    · simp at H
    · cases ct with
      | nil => exact H.elim
      | leaf => exact H.elim
      | node => exact H.elim
      | pair u v =>
        obtain ⟨c1, c2, F1, F2, rfl, g1, g2, g3, g4⟩ := H
        simp only [hsub_none] at g3 g4
        have hl1 : Loc w b o c1 := by
          obtain ⟨arr, E, q1, q2, q3⟩ := hl
          rw [List.length_append] at q2
          refine ⟨arr, E, q1, by omega, ?_⟩
          have := congrArg (List.take c1.length) q3
          simpa [cellsAt, List.take_take, Nat.min_eq_left (Nat.le_add_right c1.length c2.length)] using this
        obtain ⟨cs', F', b', o', e1, e2, e3, e4, e5, e6⟩ := punch p a k x.1 u c1 F1 b o g3 hok (.inr hl1)
        refine ⟨cs', F', b', o', by simpa [addrOf] using e1, e2, by simpa [getS, dep, atCT] using e3, fun n hn => (g1 n).2 (.inl (e4 n hn)), ?_, ?_⟩
        · refine .inr ⟨by simp, c1, c2, fun n => F1 n ∧ ¬ F' n, F2, rfl, ?_, ?_, ?_, ?_⟩
          · intro n
            constructor
            · rintro ⟨hn, hn'⟩
              rcases (g1 n).1 hn with h | h
              · exact .inl ⟨h, hn'⟩
              · exact .inr h
            · rintro (⟨h, hn'⟩ | h)
              · exact ⟨(g1 n).2 (.inl h), hn'⟩
              · exact ⟨(g1 n).2 (.inr h), fun h' => g2 n (e4 n h') h⟩
          · exact fun n h h2 => g2 n h.1 h2
          · simpa using e5
          · simpa [hsub] using g4
        · rcases e6 with ⟨rfl, q1, q2⟩ | ⟨h, h'⟩
          · exact .inl ⟨rfl, q1, by rw [List.length_append]; omega⟩
          · exact .inr ⟨(g1 _).2 (.inl h), h'⟩
  | 1 :: p, .prod a c, k, x, ct, cs, F, b, o, H, hok, hl => by
    have hl : Loc w b o cs := by
      rcases hl with ⟨_, _, _, _, h, _⟩ | hl
      · cases h
      · exact hl
    rcases H with H | ⟨_, H⟩
    · simp at H
    · cases ct with
      | nil => exact H.elim
      | leaf => exact H.elim
      | node => exact H.elim
      | pair u v =>
        obtain ⟨c1, c2, F1, F2, rfl, g1, g2, g3, g4⟩ := H
        simp only [hsub_none] at g3 g4
        have hw : c1.length = a.width := g3.length
        have hl2 : Loc w b (o + a.width) c2 := by
          obtain ⟨arr, E, q1, q2, q3⟩ := hl
          rw [List.length_append] at q2
          refine ⟨arr, E, q1, by omega, ?_⟩
          have := congrArg (List.drop c1.length) q3
          rw [List.drop_left] at this
          rw [← hw, ← this]
          simp [cellsAt, List.drop_take, List.drop_drop]
        obtain ⟨cs', F', b', o', e1, e2, e3, e4, e5, e6⟩ := punch p c k x.2 v c2 F2 b (o + a.width) g4 hok (.inr hl2)
        refine ⟨cs', F', b', o', by simpa [addrOf] using e1, e2, by simpa [getS, dep, atCT] using e3, fun n hn => (g1 n).2 (.inr (e4 n hn)), ?_, ?_⟩
        · refine .inr ⟨by simp, c1, c2, F1, fun n => F2 n ∧ ¬ F' n, rfl, ?_, ?_, ?_, ?_⟩
          · intro n
            constructor
            · rintro ⟨hn, hn'⟩
              rcases (g1 n).1 hn with h | h
              · exact .inl h
              · exact .inr ⟨h, hn'⟩
            · rintro (h | ⟨h, hn'⟩)
              · exact ⟨(g1 n).2 (.inl h), fun h' => g2 n h (e4 n h')⟩
              · exact ⟨(g1 n).2 (.inr h), hn'⟩
          · exact fun n h h2 => g2 n h h2.1
          · simpa [hsub] using g3
          · simpa using e5
        · rcases e6 with ⟨rfl, q1, q2⟩ | ⟨h, h'⟩
          · exact .inl ⟨rfl, by omega, by rw [List.length_append]; omega⟩
          · exact .inr ⟨(g1 _).2 (.inr h), h'⟩
  | (_ + 2) :: _, .prod _ _, _, _, _, _, _, _, _, _, hok, _ => hok.elim
  | _ :: _, .int _, _, _, _, _, _, _, _, _, hok, _ => hok.elim
  | _ :: _, .bool, _, _, _, _, _, _, _, _, hok, _ => hok.elim
  | _ :: _, .str, _, _, _, _, _, _, _, _, hok, _ => hok.elim
  | _ :: _, .raw, _, _, _, _, _, _, _, _, hok, _ => hok.elim
  | _ :: _, .fn _ _, _, _, _, _, _, _, _, _, hok, _ => hok.elim
  | _ :: _, .row _ _, _, _, _, _, _, _, _, _, hok, _ => hok.elim
  | _ :: _, .ro _ _, _, _, _, _, _, _, _, _, hok, _ => hok.elim
  | _ :: _, .func, _, _, _, _, _, _, _, _, hok, _ => hok.elim

theorem getD_set {α : Type} (l : List α) (i j : Nat) (v d : α) (hi : i < l.length) : (l.set i v).getD j d = if j = i then v else l.getD j d := by
  simp only [List.getD_eq_getElem?_getD, List.getElem?_set]
  by_cases h : i = j
  · subst h; simp [hi]
  · rw [if_neg h, if_neg (fun e => h e.symm)]

theorem setT_nil (t : Ty) (x y : t.den) : setT [] t x ⟨t, y⟩ = y := by simp [setT]

theorem fill {w w' : World} {S : Nat → Prop} (y : TV) (kk : Nat) (ct' : CT) (cs' : List Value) (F' : Nat → Prop) (b' o' : Nat)
    (Hy : Own w S y.t kk y.x none ct' cs' F') (hw : ∀ n, n ≠ b' → w'.heap[n]? = w.heap[n]?)
    (hb : ∀ arr E, w.heap[b']? = some (.cells arr E (0, 0)) → w'.heap[b']? = some (.cells (spl arr o' cs') E (0, 0)))
    (hSb : ¬ S b') (hFb : ¬ F' b') : ∀ (p : List Nat) (t : Ty) (k : Nat) (x : t.den) (ct : CT) (cs : List Value) (F : Nat → Prop) (b o : Nat),
    Own w S t k x (some p) ct cs F → okS p t x k → LocOr p t w b o cs → ¬ F b → y.t = (getS p t x).t → kk = dep p t k → (∀ n, F n → ¬ F' n) →
    addrOf p t ct (b, o) = (b', o') →
    ∃ cs2, Own w' S t k (setT p t x y) none (setCT p t ct ct') cs2 (fun n => F n ∨ F' n) ∧
      ((b' = b ∧ o ≤ o' ∧ o' + cs'.length ≤ o + cs.length ∧ cs2 = cs.take (o' - o) ++ cs' ++ cs.drop (o' - o + cs'.length)) ∨ (F b' ∧ b' ≠ b ∧ cs2 = cs)) := by
  have hfr : ∀ n, S n → S n ∧ w'.heap[n]? = w.heap[n]? := fun n hn => ⟨hn, hw n fun e => hSb (e ▸ hn)⟩
  have Hy' : Own w' S y.t kk y.x none ct' cs' F' := Hy.frame hfr fun n hn => hw n fun e => hFb (e ▸ hn)
  intro p
  induction p with
  | nil =>
    intro t k x ct cs F b o H _ _ _ hyt hkk _ ha
    obtain ⟨yt, yx⟩ := y
    simp only [getS] at hyt
    subst hyt
    simp only [dep] at hkk
    subst hkk
    simp only [addrOf, Prod.mk.injEq] at ha
    obtain ⟨rfl, rfl⟩ := ha
    have hF : ∀ n, ¬ F n := by
      cases yt <;> simp only [Own] at H
      case list => rcases H with H | H; exact H.2.2; exact absurd rfl H.1
      case prod => rcases H with H | H; exact H.2.2; exact absurd rfl H.1
      all_goals exact H.1
    have e : (fun n => F n ∨ F' n) = F' := by
      funext n; simp [hF n]
    refine ⟨cs', ?_, .inl ⟨rfl, Nat.le_refl _, ?_, ?_⟩⟩
    · rw [setT_nil, e]; exact Hy'
    · rw [Hy.length, H.length]; exact Nat.le_refl _
    · rw [Nat.sub_self, List.take_zero, List.nil_append, Nat.zero_add, List.drop_of_length_le (by rw [Hy.length, H.length]; exact Nat.le_refl _), List.append_nil]
  | cons i p ih =>
    intro t k x ct cs F b o H hok hl hFbase hyt hkk hdis ha
    cases t with
    | list e t =>
      have xs : List t.den := x
      obtain ⟨hk, hi, hok⟩ := hok
      obtain ⟨k, rfl⟩ : ∃ k', k = k' + 1 := ⟨k - 1, by omega⟩
      rcases H with H | ⟨_, H⟩
      · simp at H
      · cases ct with
        | nil => obtain ⟨rfl, _⟩ := H; simp at hi
        | leaf => exact H.elim
        | pair => exact H.elim
        | node blk cap kids =>
          obtain ⟨h1, h2, h3, arr, h4, h5, Fs, g1, g2, g3, g4⟩ := H
          have hfit : i * t.width + t.width ≤ arr.size := by
            rw [h5, ← Nat.succ_mul]; exact Nat.mul_le_mul_right _ (by omega)
          have hlen : (cellsAt arr (i * t.width) t.width).length = t.width := length_cellsAt hfit
          have hloc : Loc w blk (i * t.width) (cellsAt arr (i * t.width) t.width) := ⟨arr, e, h4, by rw [hlen]; exact hfit, by rw [hlen]⟩
          have Hi := g4 i hi
          rw [hsub_same] at Hi
          have hblkF : F blk := (g1 _).2 (.inl rfl)
          have hblkF' : ¬ F' blk := hdis _ hblkF
          obtain ⟨cs2, e1, e2⟩ := ih t k (List.getD x i t.dflt) (kids i) _ (Fs i) blk (i * t.width) Hi hok (.inr hloc) (g2 i hi) hyt hkk
            (fun n hn => hdis n ((g1 n).2 (.inr ⟨i, hi, hn⟩))) ha
          have hFb' : F b' := by
            rcases e2 with ⟨rfl, _⟩ | ⟨h, _⟩
            · exact hblkF
            · exact (g1 _).2 (.inr ⟨i, hi, h⟩)
          have harr : ∃ arr', w'.heap[blk]? = some (.cells arr' e (0, 0)) ∧ arr'.size = arr.size ∧ cellsAt arr' (i * t.width) t.width = cs2 ∧
              ∀ j, j < List.length x → j ≠ i → cellsAt arr' (j * t.width) t.width = cellsAt arr (j * t.width) t.width := by
            rcases e2 with ⟨rfl, q1, q2, q3⟩ | ⟨q1, q2, q3⟩
            · rw [hlen] at q2
              refine ⟨spl arr o' cs', hb arr e h4, size_spl (by omega), ?_, fun j hj hji => ?_⟩
              · rw [cellsAt_spl_inside hfit q1 q2, q3]
              · refine cellsAt_spl_other (by omega) ?_
                rcases Nat.lt_or_gt_of_ne hji with h | h
                · left
                  have := Nat.mul_le_mul_right t.width (show j + 1 ≤ i by omega)
                  rw [Nat.succ_mul] at this
                  omega
                · right
                  have := Nat.mul_le_mul_right t.width (show i + 1 ≤ j by omega)
                  rw [Nat.succ_mul] at this
                  omega
            · exact ⟨arr, (hw blk (fun e => q2 e.symm)).trans h4, rfl, q3.symm, fun _ _ _ => rfl⟩
          obtain ⟨arr', a1, a2, a3, a4⟩ := harr
          obtain ⟨G, hGi, hGj⟩ : ∃ G : Nat → Nat → Prop, (∀ n, G i n ↔ Fs i n ∨ F' n) ∧ (∀ j, j ≠ i → ∀ n, G j n ↔ Fs j n) :=
            ⟨fun j n => (j = i ∧ (Fs i n ∨ F' n)) ∨ (j ≠ i ∧ Fs j n), fun n => by simp, fun j hj n => by simp [hj]⟩
          refine ⟨cs, .inr ⟨by simp, ?_⟩, .inr ⟨hFb', fun e => hFbase (e ▸ hFb'), rfl⟩⟩
          simp only [setT, setCT]
          refine ⟨by rw [List.length_set]; exact h1, by rw [List.length_set]; exact h2, h3, arr', a1, by rw [a2]; exact h5, G, ?_, ?_, ?_, ?_⟩
          · intro n
            rw [List.length_set]
            constructor
            · rintro (hn | hn)
              · rcases (g1 n).1 hn with h | ⟨j, hj, h⟩
                · exact .inl h
                · refine .inr ⟨j, hj, ?_⟩
                  by_cases hji : j = i
                  · subst hji; exact (hGi n).2 (.inl h)
                  · exact (hGj j hji n).2 h
              · exact .inr ⟨i, hi, (hGi n).2 (.inr hn)⟩
            · rintro (rfl | ⟨j, hj, h⟩)
              · exact .inl hblkF
              · by_cases hji : j = i
                · subst hji
                  rcases (hGi n).1 h with h | h
                  · exact .inl ((g1 n).2 (.inr ⟨j, hj, h⟩))
                  · exact .inr h
                · exact .inl ((g1 n).2 (.inr ⟨j, hj, (hGj j hji n).1 h⟩))
          · intro j hj
            rw [List.length_set] at hj
            by_cases hji : j = i
            · subst hji
              intro h
              rcases (hGi blk).1 h with h | h
              · exact g2 j hi h
              · exact hblkF' h
            · exact fun h => g2 j hj ((hGj j hji blk).1 h)
          · intro j l n hj hl' q1 q2
            rw [List.length_set] at hj hl'
            have key : ∀ j, j < List.length x → Fs j n → ¬ F' n := fun j hj h => hdis n ((g1 n).2 (.inr ⟨j, hj, h⟩))
            by_cases hji : j = i
            · by_cases hli : l = i
              · rw [hji, hli]
              · rw [hji] at q1
                have q2 := (hGj l hli n).1 q2
                rcases (hGi n).1 q1 with q1 | q1
                · rw [hji]; exact g3 i l n hi hl' q1 q2
                · exact absurd q1 (key l hl' q2)
            · have q1 := (hGj j hji n).1 q1
              by_cases hli : l = i
              · rw [hli] at q2
                rcases (hGi n).1 q2 with q2 | q2
                · rw [hli]; exact g3 j i n hj hi q1 q2
                · exact absurd q2 (key j hj q1)
              · exact g3 j l n hj hl' q1 ((hGj l hli n).1 q2)
          · intro j hj
            rw [List.length_set] at hj
            rw [getD_set _ _ _ _ _ hi, hsub_none]
            by_cases hji : j = i
            · subst hji
              simp only [if_true]
              rw [a3]
              have : G j = fun n => Fs j n ∨ F' n := funext fun n => propext (hGi n)
              rw [this]
              exact e1
            · simp only [if_neg hji]
              rw [a4 j hj hji]
              have Hj := g4 j hj
              rw [hsub_other _ (Ne.symm hji)] at Hj
              have : G j = Fs j := funext fun n => propext (hGj j hji n)
              rw [this]
              refine Hj.frame hfr fun n hn => hw n ?_
              rintro rfl
              rcases e2 with ⟨rfl, _⟩ | ⟨q1, _⟩
              · exact g2 j hj hn
              · exact hji (g3 j i _ hj hi hn q1)
    | prod a c =>
      have hl : Loc w b o cs := by
        rcases hl with ⟨_, _, _, _, h, _⟩ | hl
        · cases h
        · exact hl
      rcases H with H | ⟨_, H⟩
      · simp at H
      · cases ct with
        | nil => exact H.elim
        | leaf => exact H.elim
        | node => exact H.elim
        | pair u v =>
          obtain ⟨c1, c2, F1, F2, rfl, g1, g2, g3, g4⟩ := H
          have hw1 : c1.length = a.width := g3.length
          have hl1 : Loc w b o c1 := by
            obtain ⟨arr, E, q1, q2, q3⟩ := hl
            rw [List.length_append] at q2
            refine ⟨arr, E, q1, by omega, ?_⟩
            have := congrArg (List.take c1.length) q3
            simpa [cellsAt, List.take_take, Nat.min_eq_left (Nat.le_add_right c1.length c2.length)] using this
          have hl2 : Loc w b (o + a.width) c2 := by
            obtain ⟨arr, E, q1, q2, q3⟩ := hl
            rw [List.length_append] at q2
            refine ⟨arr, E, q1, by omega, ?_⟩
            have := congrArg (List.drop c1.length) q3
            rw [List.drop_left] at this
            rw [← hw1, ← this]
            simp [cellsAt, List.drop_take, List.drop_drop]
          have hd1 : ∀ n, F1 n → ¬ F' n := fun n hn => hdis n ((g1 n).2 (.inl hn))
          have hd2 : ∀ n, F2 n → ¬ F' n := fun n hn => hdis n ((g1 n).2 (.inr hn))
          have hb1 : ¬ F1 b := fun h => hFbase ((g1 _).2 (.inl h))
          have hb2 : ¬ F2 b := fun h => hFbase ((g1 _).2 (.inr h))
          match i, hok, hyt, hkk, ha, g3, g4 with
          | 0, hok, hyt, hkk, ha, g3, g4 =>
            rw [hsub_same] at g3
            rw [hsub_other _ (by omega)] at g4
            obtain ⟨cs2, e1, e2⟩ := ih a k x.1 u c1 F1 b o g3 hok (.inr hl1) hb1 hyt hkk hd1 ha
            refine ⟨cs2 ++ c2, .inr ⟨by simp, cs2, c2, fun n => F1 n ∨ F' n, F2, rfl, ?_, ?_, by simpa [setT] using e1, ?_⟩, ?_⟩
            · intro n
              constructor
              · rintro (h | h)
                · rcases (g1 n).1 h with h | h
                  · exact .inl (.inl h)
                  · exact .inr h
                · exact .inl (.inr h)
              · rintro ((h | h) | h)
                · exact .inl ((g1 n).2 (.inl h))
                · exact .inr h
                · exact .inl ((g1 n).2 (.inr h))
            · rintro n (h | h) h2
              · exact g2 n h h2
              · exact hd2 n h2 h
            · refine (show Own w S c k x.2 none v c2 F2 from g4).frame hfr fun n hn => hw n ?_
              rintro rfl
              rcases e2 with ⟨rfl, _⟩ | ⟨h, _⟩
              · exact hb2 hn
              · exact g2 _ h hn
            · rcases e2 with ⟨rfl, q1, q2, q3⟩ | ⟨h, h', rfl⟩
              · refine .inl ⟨rfl, q1, by rw [List.length_append]; omega, ?_⟩
                rw [q3, List.take_append_of_le_length (by omega), List.drop_append_of_le_length (by omega)]
                simp
              · exact .inr ⟨(g1 _).2 (.inl h), h', rfl⟩
          | 1, hok, hyt, hkk, ha, g3, g4 =>
            rw [hsub_other _ (by omega)] at g3
            rw [hsub_same] at g4
            obtain ⟨cs2, e1, e2⟩ := ih c k x.2 v c2 F2 b (o + a.width) g4 hok (.inr hl2) hb2 hyt hkk hd2 ha
            refine ⟨c1 ++ cs2, .inr ⟨by simp, c1, cs2, F1, fun n => F2 n ∨ F' n, rfl, ?_, ?_, ?_, by simpa [setT] using e1⟩, ?_⟩
            · intro n
              constructor
              · rintro (h | h)
                · rcases (g1 n).1 h with h | h
                  · exact .inl h
                  · exact .inr (.inl h)
                · exact .inr (.inr h)
              · rintro (h | (h | h))
                · exact .inl ((g1 n).2 (.inl h))
                · exact .inl ((g1 n).2 (.inr h))
                · exact .inr h
            · rintro n h (h2 | h2)
              · exact g2 n h h2
              · exact hd1 n h h2
            · refine (show Own w S a k x.1 none u c1 F1 from g3).frame hfr fun n hn => hw n ?_
              rintro rfl
              rcases e2 with ⟨rfl, _⟩ | ⟨h, _⟩
              · exact hb1 hn
              · exact g2 _ hn h
            · rcases e2 with ⟨rfl, q1, q2, q3⟩ | ⟨h, h', rfl⟩
              · refine .inl ⟨rfl, by omega, by rw [List.length_append]; omega, ?_⟩
                have e3 : o' - o = c1.length + (o' - (o + a.width)) := by omega
                rw [q3, e3, List.take_length_add_append, Nat.add_assoc, List.drop_length_add_append]
                simp
              · exact .inr ⟨(g1 _).2 (.inr h), h', rfl⟩
          | (_ + 2), hok, _, _, _, _, _ => exact hok.elim
    | int => exact hok.elim
    | bool => exact hok.elim
    | str => exact hok.elim
    | raw => exact hok.elim
    | fn => exact hok.elim
    | row => exact hok.elim
    | ro => exact hok.elim
    | func => exact hok.elim

def hclear (p : List Nat) : Option (List Nat) → Bool
  | none => true
  | some q => decide (p.length < q.length)

def hclear0 (p : List Nat) : Option (List Nat) → Bool
  | none => true
  | some q => decide (p.length ≤ q.length)

theorem hclear_sub {i : Nat} {p : List Nat} {h : Option (List Nat)} (hc : hclear (i :: p) h = true) : hclear p (hsub h i) = true := by
  cases h with
  | none => rfl
  | some q =>
    cases q with
    | nil => simp [hclear] at hc
    | cons j q =>
      simp only [hsub]
      split
      · simp [hclear] at hc ⊢; exact hc
      · rfl

theorem hclear_0 {p : List Nat} {h : Option (List Nat)} (hc : hclear p h = true) : hclear0 p h = true := by
  cases h with
  | none => rfl
  | some q => simp [hclear, hclear0] at hc ⊢; omega

theorem nodeAt0 {w : World} {S : Nat → Prop} : ∀ (p : List Nat) (t : Ty) (k : Nat) (x : t.den) (h : Option (List Nat)) (ct : CT) (cs : List Value) (F : Nat → Prop) (b o : Nat),
    Own w S t k x h ct cs F → okS p t x k → hclear0 p h = true → LocOr p t w b o cs →
    ∃ cs' F' h', Loc w (addrOf p t ct (b, o)).1 (addrOf p t ct (b, o)).2 cs' ∧
      Own w S (getS p t x).t (dep p t k) (getS p t x).x h' (atCT p t ct) cs' F' ∧ (∀ n, F' n → F n) ∧ (hclear p h = true → h' ≠ some []) ∧ (h = none → h' = none) ∧
      ((addrOf p t ct (b, o)).1 = b ∨ F (addrOf p t ct (b, o)).1)
  | [], t, k, x, h, ct, cs, F, b, o, H, _, hc, hl => by
    have hl : Loc w b o cs := by
      rcases hl with ⟨_, _, _, _, _, h⟩ | hl
      · cases h
      · exact hl
    refine ⟨cs, F, h, hl, H, fun _ h => h, ?_, id, .inl rfl⟩
    rintro hc rfl
    simp [hclear] at hc
  | i :: p, .list e t, k, xs, h, ct, cs, F, b, o, H, hok, hc, _ => by
    obtain ⟨hk, hi, hok⟩ := hok
    obtain ⟨k, rfl⟩ : ∃ k', k = k' + 1 := ⟨k - 1, by omega⟩
    rcases H with H | ⟨_, H⟩
    · obtain ⟨rfl, _⟩ := H; simp [hclear0] at hc
    · cases ct with
      | nil => obtain ⟨rfl, _⟩ := H; simp at hi
      | leaf => exact H.elim
      | pair => exact H.elim
      | node blk cap kids =>
        obtain ⟨h1, h2, h3, arr, h4, h5, Fs, g1, g2, g3, g4⟩ := H
        have hfit : i * t.width + t.width ≤ arr.size := by
          rw [h5, ← Nat.succ_mul]; exact Nat.mul_le_mul_right _ (by omega)
        have hlen : (cellsAt arr (i * t.width) t.width).length = t.width := length_cellsAt hfit
        have hloc : Loc w blk (i * t.width) (cellsAt arr (i * t.width) t.width) := ⟨arr, e, h4, by rw [hlen]; exact hfit, by rw [hlen]⟩
        have hc' : hclear0 p (hsub h i) = true := by
          cases h with
          | none => rfl
          | some q =>
            cases q with
            | nil => simp [hclear0] at hc
            | cons j q =>
              simp only [hsub]
              split
              · simp [hclear0] at hc ⊢; exact hc
              · rfl
        obtain ⟨cs', F', h', e1, e2, e3, e4, e5, e6⟩ := nodeAt0 p t k (xs.getD i t.dflt) (hsub h i) (kids i) _ (Fs i) blk (i * t.width) (g4 i hi) hok hc' (.inr hloc)
        refine ⟨cs', F', h', e1, e2, fun n hn => (g1 n).2 (.inr ⟨i, hi, e3 n hn⟩), fun hh => e4 (hclear_sub hh), fun hh => e5 (by rw [hh]; rfl), .inr ?_⟩
        show F (addrOf p t (kids i) (blk, i * t.width)).1
        rcases e6 with e | e
        · rw [e]; exact (g1 _).2 (.inl rfl)
        · exact (g1 _).2 (.inr ⟨i, hi, e⟩)
  | 0 :: p, .prod a c, k, x, h, ct, cs, F, b, o, H, hok, hc, hl => by
    have hl : Loc w b o cs := by
      rcases hl with ⟨_, _, _, _, h, _⟩ | hl
      · cases h
      · exact hl
    rcases H with H | ⟨_, H⟩
    · obtain ⟨rfl, _⟩ := H; simp [hclear0] at hc
    · cases ct with
      | nil => exact H.elim
      | leaf => exact H.elim
      | node => exact H.elim
      | pair u v =>
        obtain ⟨c1, c2, F1, F2, rfl, g1, g2, g3, g4⟩ := H
        have hl1 : Loc w b o c1 := by
          obtain ⟨arr, E, q1, q2, q3⟩ := hl
          rw [List.length_append] at q2
          refine ⟨arr, E, q1, by omega, ?_⟩
          have := congrArg (List.take c1.length) q3
          simpa [cellsAt, List.take_take, Nat.min_eq_left (Nat.le_add_right c1.length c2.length)] using this
        have hc' : hclear0 p (hsub h 0) = true := by
          cases h with
          | none => rfl
          | some q =>
            cases q with
            | nil => simp [hclear0] at hc
            | cons j q =>
              simp only [hsub]
              split
              · simp [hclear0] at hc ⊢; exact hc
              · rfl
        obtain ⟨cs', F', h', e1, e2, e3, e4, e5, e6⟩ := nodeAt0 p a k x.1 _ u c1 F1 b o g3 hok hc' (.inr hl1)
        refine ⟨cs', F', h', e1, e2, fun n hn => (g1 n).2 (.inl (e3 n hn)), fun hh => e4 (hclear_sub hh), fun hh => e5 (by rw [hh]; rfl), ?_⟩
        rcases e6 with e | e
        · exact .inl e
        · exact .inr ((g1 _).2 (.inl e))
  | 1 :: p, .prod a c, k, x, h, ct, cs, F, b, o, H, hok, hc, hl => by
    have hl : Loc w b o cs := by
      rcases hl with ⟨_, _, _, _, h, _⟩ | hl
      · cases h
      · exact hl
    rcases H with H | ⟨_, H⟩
    · obtain ⟨rfl, _⟩ := H; simp [hclear0] at hc
    · cases ct with
      | nil => exact H.elim
      | leaf => exact H.elim
      | node => exact H.elim
      | pair u v =>
        obtain ⟨c1, c2, F1, F2, rfl, g1, g2, g3, g4⟩ := H
        have hw1 : c1.length = a.width := g3.length
        have hl2 : Loc w b (o + a.width) c2 := by
          obtain ⟨arr, E, q1, q2, q3⟩ := hl
          rw [List.length_append] at q2
          refine ⟨arr, E, q1, by omega, ?_⟩
          have := congrArg (List.drop c1.length) q3
          rw [List.drop_left] at this
          rw [← hw1, ← this]
          simp [cellsAt, List.drop_take, List.drop_drop]
        have hc' : hclear0 p (hsub h 1) = true := by
          cases h with
          | none => rfl
          | some q =>
            cases q with
            | nil => simp [hclear0] at hc
            | cons j q =>
              simp only [hsub]
              split
              · simp [hclear0] at hc ⊢; exact hc
              · rfl
        obtain ⟨cs', F', h', e1, e2, e3, e4, e5, e6⟩ := nodeAt0 p c k x.2 _ v c2 F2 b (o + a.width) g4 hok hc' (.inr hl2)
        refine ⟨cs', F', h', e1, e2, fun n hn => (g1 n).2 (.inr (e3 n hn)), fun hh => e4 (hclear_sub hh), fun hh => e5 (by rw [hh]; rfl), ?_⟩
        rcases e6 with e | e
        · exact .inl e
        · exact .inr ((g1 _).2 (.inr e))
  | (_ + 2) :: _, .prod _ _, _, _, _, _, _, _, _, _, _, hok, _, _ => hok.elim
  | _ :: _, .int _, _, _, _, _, _, _, _, _, _, hok, _, _ => hok.elim
  | _ :: _, .bool, _, _, _, _, _, _, _, _, _, hok, _, _ => hok.elim
  | _ :: _, .str, _, _, _, _, _, _, _, _, _, hok, _, _ => hok.elim
  | _ :: _, .raw, _, _, _, _, _, _, _, _, _, hok, _, _ => hok.elim
  | _ :: _, .fn _ _, _, _, _, _, _, _, _, _, _, hok, _, _ => hok.elim
  | _ :: _, .row _ _, _, _, _, _, _, _, _, _, _, hok, _, _ => hok.elim
  | _ :: _, .ro _ _, _, _, _, _, _, _, _, _, _, hok, _, _ => hok.elim
  | _ :: _, .func, _, _, _, _, _, _, _, _, _, hok, _, _ => hok.elim

theorem nodeAt {w : World} {S : Nat → Prop} (p : List Nat) (t : Ty) (k : Nat) (x : t.den) (h : Option (List Nat)) (ct : CT) (cs : List Value) (F : Nat → Prop) (b o : Nat)
    (H : Own w S t k x h ct cs F) (hok : okS p t x k) (hc : hclear p h = true) (hl : LocOr p t w b o cs) :
    ∃ cs' F' h', Loc w (addrOf p t ct (b, o)).1 (addrOf p t ct (b, o)).2 cs' ∧
      Own w S (getS p t x).t (dep p t k) (getS p t x).x h' (atCT p t ct) cs' F' ∧ (∀ n, F' n → F n) ∧ h' ≠ some [] ∧ (h = none → h' = none) ∧
      ((addrOf p t ct (b, o)).1 = b ∨ F (addrOf p t ct (b, o)).1) := by
  obtain ⟨cs', F', h', e1, e2, e3, e4, e5, e6⟩ := nodeAt0 p t k x h ct cs F b o H hok (hclear_0 hc) hl
  exact ⟨cs', F', h', e1, e2, e3, e4 hc, e5, e6⟩

end Fer

namespace Fer
open Go

def okind : Op → Nat
  | .move _ | .assign _ | .pick _ _ _ | .nilCheck _ | .binOp _ _ _ _ _ | .unOp _ _ _ | .convert _ _ _ | .makeInterface _ _
  | .slice _ _ _ _ _ | .fieldAddr _ _ _ | .field _ _ _ | .indexAddr _ _ _ | .index _ _ _ | .extract _ _ | .makeFunc _ _ _ | .build _ _ => 0
  | .call { callee := .builtin .len, .. } | .call { callee := .builtin .max, .. } | .call { callee := .builtin .min, .. } => 0
  | .load _ _ => 1
  | _ => 2

def okMate (i j : Nat) : Bool := decide (i ≤ 1) || j == 0

abbrev Pins := Nat → Nat → Prop
def noPins : Pins := fun _ _ => False
def addPin (i b : Nat) (p : Pins) : Pins := fun i' b' => (i' = i ∧ b' = b) ∨ p i' b'
theorem addPin_comm (i b j c : Nat) (p : Pins) : addPin i b (addPin j c p) = addPin j c (addPin i b p) := by
  funext x y; apply propext; unfold addPin
  constructor
  · rintro (h | h | h)
    · exact .inr (.inl h)
    · exact .inl h
    · exact .inr (.inr h)
  · rintro (h | h | h)
    · exact .inr (.inl h)
    · exact .inl h
    · exact .inr (.inr h)

def waitsOn (o : Oper) (i : Nat) : Bool := o.after.any fun e => Region.binds .any e && e.on == i

def kept (o : Oper) (pins : Pins) (w w' : World) : Prop := ∀ i b, pins i b → waitsOn o i = false → w'.heap[b]? = w.heap[b]?

section
variable {P : Program} {ops : Array Oper}

def noQ : Exit → Act → World → Prop := fun _ _ _ => False

def kUpon (P : Program) (o : Oper) (i : Nat) (pins : Pins) (a : Act) (w : World) (K : Pins → Act → World → Prop) : Prop :=
  match okind o.op with
  | 0 => ∃ v, (∀ w', (execOp a.eval o).run P w' = .ok (.value v) w') ∧ K pins (a.put o.dst v) w
  | 1 => ∃ v b, (∀ w', w'.heap[b]? = w.heap[b]? → (execOp a.eval o).run P w' = .ok (.value v) w') ∧ K (addPin i b pins) (a.put o.dst v) w
  | _ => o.wp P a w (fun a' w' => kept o pins w w' ∧ K pins a' w') noQ

variable {o : Oper} {i : Nat} {pins : Pins} {a : Act} {w : World} {K K' : Pins → Act → World → Prop}

theorem kU0 (h : okind o.op = 0) :
    kUpon P o i pins a w K ↔ ∃ v, (∀ w', (execOp a.eval o).run P w' = .ok (.value v) w') ∧ K pins (a.put o.dst v) w := by unfold kUpon; simp only [h]
theorem kU1 (h : okind o.op = 1) :
    kUpon P o i pins a w K ↔ ∃ v b, (∀ w', w'.heap[b]? = w.heap[b]? → (execOp a.eval o).run P w' = .ok (.value v) w') ∧ K (addPin i b pins) (a.put o.dst v) w := by
  unfold kUpon; simp only [h]
theorem kU2 (h0 : okind o.op ≠ 0) (h1 : okind o.op ≠ 1) :
    kUpon P o i pins a w K ↔ o.wp P a w (fun a' w' => kept o pins w w' ∧ K pins a' w') noQ := by
  unfold kUpon
  split
  · rename_i e; exact absurd e h0
  · rename_i e; exact absurd e h1
  · rfl

def kOper (P : Program) (ops : Array Oper) (o : Oper) (i : Nat) (pins : Pins) (a : Act) (w : World) (K : Pins → Act → World → Prop) : Prop :=
  if Region.wanted o (yielded ops a.tmps) then kUpon P o i pins a w K else K pins (a.put o.dst undef) w

def wpOrd (P : Program) (ops : Array Oper) (Q : Pins → Act → World → Prop) : List Nat → Pins → Act → World → Prop
  | [], pins, a, w => Q pins a w
  | i :: rest, pins, a, w =>
    match ops[i]? with
    | none => False
    | some o => kOper P ops o i pins a w (wpOrd P ops Q rest)

def kOp (P : Program) (ops : Array Oper) (i : Nat) (pins : Pins) (K : Pins → Act → World → Prop) (a : Act) (w : World) : Prop :=
  match ops[i]? with
  | none => K pins a w
  | some o => kOper P ops o i pins a w K

def wpAnyX (P : Program) (ops : Array Oper) (Q : Pins → Act → World → Prop) : Nat → Array Bool → Pins → Act → World → Prop
  | 0, listed, pins, a, w => Region.ready .any ops listed = [] ∧ Q pins a w
  | fuel + 1, listed, pins, a, w =>
    (Region.ready .any ops listed = [] → Q pins a w) ∧
    ∀ i ∈ Region.ready .any ops listed, kOp P ops i pins (wpAnyX P ops Q fuel (listed.setIfInBounds i true)) a w

theorem upon_noQ {o : Oper} {a : Act} {K : Act → World → Prop} {Q : Exit → Act → World → Prop} {r : Result Next}
    (h : o.upon P a K noQ r) : o.upon P a K Q r := by
  cases r with
  | ok n w' =>
    cases n <;> simp only [Oper.upon] at h ⊢ <;> try exact h
    refine Calls.mono h fun e w'' he => ?_
    cases e with
    | returned v => exact he
    | panicked c => exact he.elim
    | outgrown => obtain ⟨_, _, h⟩ := he; exact h.elim
  | halt x w' => cases x <;> simp only [Oper.upon] at h ⊢ <;> exact h.elim

theorem kUpon_wp {Q : Exit → Act → World → Prop} {K : Act → World → Prop} (h : kUpon P o i pins a w (fun _ => K)) : o.wp P a w K Q := by
  unfold kUpon at h
  split at h
  · obtain ⟨v, h1, h2⟩ := h
    unfold Oper.wp; rw [h1 w]; exact h2
  · obtain ⟨v, b, h1, h2⟩ := h
    unfold Oper.wp; rw [h1 w rfl]; exact h2
  · exact upon_noQ (Oper.wp_mono (fun a w h => h.2) h)

theorem kOp_wp {Q : Exit → Act → World → Prop} {K : Act → World → Prop} (h : kOp P ops i pins (fun _ => K) a w) : wpOp P ops Q i K a w := by
  unfold kOp kOper at h
  unfold wpOp
  split
  · rename_i ho; simpa [ho] using h
  · rename_i o ho
    simp only [ho] at h
    split
    · rename_i hw; simp only [hw, if_true] at h; exact .inl (kUpon_wp h)
    · rename_i hw; simp only [hw] at h; exact h

theorem kUpon_mono (hk : ∀ p a w, K p a w → K' p a w) (h : kUpon P o i pins a w K) : kUpon P o i pins a w K' := by
  unfold kUpon at *
  split at h
  · obtain ⟨v, h1, h2⟩ := h; exact ⟨v, h1, hk _ _ _ h2⟩
  · obtain ⟨v, b, h1, h2⟩ := h; exact ⟨v, b, h1, hk _ _ _ h2⟩
  · exact Oper.wp_mono (fun a w h => ⟨h.1, hk _ _ _ h.2⟩) h

theorem kOper_mono (hk : ∀ p a w, K p a w → K' p a w) (h : kOper P ops o i pins a w K) : kOper P ops o i pins a w K' := by
  unfold kOper at *
  split
  · rename_i hw; rw [if_pos hw] at h; exact kUpon_mono hk h
  · rename_i hw; rw [if_neg hw] at h; exact hk _ _ _ h

theorem kOp_mono (hk : ∀ p a w, K p a w → K' p a w) (h : kOp P ops i pins K a w) : kOp P ops i pins K' a w := by
  unfold kOp at *
  split
  · rename_i ho; simp only [ho] at h; exact hk _ _ _ h
  · rename_i o ho; simp only [ho] at h; exact kOper_mono hk h

theorem kOp_wp' {Q : Exit → Act → World → Prop} {K' : Act → World → Prop} (hk : ∀ p a w, K p a w → K' a w) (h : kOp P ops i pins K a w) : wpOp P ops Q i K' a w :=
  kOp_wp (kOp_mono (K' := fun _ => K') hk h)

theorem wpAny_of_X {Q : Pins → Act → World → Prop} {Q' : Exit → Act → World → Prop} (hQ : ∀ p a w, Q p a w → Q' .normal a w) : ∀ (fuel : Nat) (listed : Array Bool) (pins : Pins) (a : Act) (w : World),
    wpAnyX P ops Q fuel listed pins a w → wpAny P .any ops Q' fuel listed a w
  | 0, _, _, _, _, h => ⟨h.1, hQ _ _ _ h.2⟩
  | fuel + 1, _, _, _, _, h => ⟨fun h0 => hQ _ _ _ (h.1 h0), fun i hi => kOp_wp' (fun p a' w' h' => wpAny_of_X hQ fuel _ p a' w' h') (h.2 i hi)⟩

theorem upon_some {o : Oper} {a : Act} {K : Act → World → Prop} {r : Result Next} {Z : Prop} (h : o.upon P a K noQ r)
    (hz : ∀ (a' : Act) (v : Value) (w' : World), (∃ ds, a' = ({ a with defers := ds } : Act).put o.dst v) → K a' w' → Z) : Z := by
  cases r with
  | ok n w' =>
    cases n <;> simp only [Oper.upon] at h
    case value v => exact hz _ v w' ⟨a.defers, rfl⟩ h
    case skip => exact hz _ undef w' ⟨a.defers, rfl⟩ h
    case defer d => exact hz _ undef w' ⟨d :: a.defers, rfl⟩ h
    case enter f args =>
      obtain ⟨e, w'', fr, hR, _⟩ := h []
      cases e with
      | returned v => exact hz _ v w'' ⟨a.defers, rfl⟩ hR
      | panicked c => exact hR.elim
      | outgrown => obtain ⟨_, _, h⟩ := hR; exact h.elim
    case row row args =>
      obtain ⟨v, w'', hR, _⟩ := h default []
      exact hz _ v w'' ⟨a.defers, rfl⟩ hR
  | halt x w' => cases x <;> simp only [Oper.upon] at h <;> exact h.elim

theorem kOper_yes (h : Region.wanted o (yielded ops a.tmps) = true) : kOper P ops o i pins a w K ↔ kUpon P o i pins a w K := by
  unfold kOper; rw [if_pos h]
theorem kOper_no (h : ¬ Region.wanted o (yielded ops a.tmps) = true) : kOper P ops o i pins a w K ↔ K pins (a.put o.dst undef) w := by
  unfold kOper; rw [if_neg h]

theorem put_defers' (a : Act) (ds : List Deferred) (d : Option Tmp) (u : Value) : ({ a with defers := ds } : Act).put d u = ({ a.put d u with defers := ds } : Act) := by cases d <;> rfl
theorem defers_put (a : Act) (d : Option Tmp) (u : Value) : (a.put d u).defers = a.defers := by cases d <;> rfl

theorem upon_put {o : Oper} {a : Act} {d : Option Tmp} {u : Value} {K K' : Act → World → Prop} (h2 : ∀ e, d = some e → o.dst ≠ some e) (r : Result Next)
    (hK : ∀ (a' : Act) (w' : World), (∃ ds v, a' = ({ a with defers := ds } : Act).put o.dst v) → K' (a'.put d u) w' → K a' w')
    (h : o.upon P (a.put d u) K' noQ r) : o.upon P a K noQ r := by
  have pc : ∀ (a : Act) v, (a.put d u).put o.dst v = (a.put o.dst v).put d u := fun a v => Act.put_comm a u v h2
  cases r with
  | ok n w' =>
    cases n <;> simp only [Oper.upon] at h ⊢
    case value v => exact hK _ _ ⟨a.defers, v, rfl⟩ (by rw [← pc]; exact h)
    case skip => exact hK _ _ ⟨a.defers, undef, rfl⟩ (by rw [← pc]; exact h)
    case defer dd =>
      refine hK _ _ ⟨dd :: a.defers, undef, rfl⟩ ?_
      rw [← pc]
      rw [defers_put] at h
      have e : ({ a with defers := dd :: a.defers } : Act).put d u = ({ a.put d u with defers := dd :: a.defers } : Act) := put_defers' a _ d u
      rw [e]
      exact h
    case enter f args =>
      refine Calls.mono h fun e w'' he => ?_
      cases e with
      | returned v => exact hK _ _ ⟨a.defers, v, rfl⟩ (by rw [← pc]; exact he)
      | panicked c => exact he
      | outgrown => exact he
    case row row args => exact Rows.mono h fun v w'' he => hK _ _ ⟨a.defers, v, rfl⟩ (by rw [← pc]; exact he)
  | halt x w' => cases x <;> simp only [Oper.upon] at h ⊢ <;> exact h

theorem upon_unput {o : Oper} {a : Act} {d : Option Tmp} {u : Value} {K K' : Act → World → Prop} (h2 : ∀ e, d = some e → o.dst ≠ some e) (r : Result Next)
    (hK : ∀ (a' : Act) (w' : World), (∃ ds v, a' = ({ a with defers := ds } : Act).put o.dst v) → K a' w' → K' (a'.put d u) w')
    (h : o.upon P a K noQ r) : o.upon P (a.put d u) K' noQ r := by
  have pc : ∀ (a : Act) v, (a.put d u).put o.dst v = (a.put o.dst v).put d u := fun a v => Act.put_comm a u v h2
  cases r with
  | ok n w' =>
    cases n <;> simp only [Oper.upon] at h ⊢
    case value v => rw [pc]; exact hK _ _ ⟨a.defers, v, rfl⟩ h
    case skip => rw [pc]; exact hK _ _ ⟨a.defers, undef, rfl⟩ h
    case defer dd =>
      have := hK _ _ ⟨dd :: a.defers, undef, rfl⟩ h
      have e : ({ a with defers := dd :: a.defers } : Act).put d u = ({ a.put d u with defers := dd :: a.defers } : Act) := put_defers' a _ d u
      rw [← pc, e] at this
      rw [defers_put]
      exact this
    case enter f args =>
      refine Calls.mono h fun e w'' he => ?_
      cases e with
      | returned v => simp only at he ⊢; rw [pc]; exact hK _ _ ⟨a.defers, v, rfl⟩ he
      | panicked c => exact he
      | outgrown => exact he
    case row row args => exact Rows.mono h fun v w'' he => by rw [pc]; exact hK _ _ ⟨a.defers, v, rfl⟩ he
  | halt x w' => cases x <;> simp only [Oper.upon] at h ⊢ <;> exact h

theorem k_swap {oi oj : Oper} {i j : Nat} (hap : oi.apart ops oj = true) (hsi : ∀ cs b, oi.op ≠ .select cs b) (hsj : ∀ cs b, oj.op ≠ .select cs b)
    (hm : okMate (okind oi.op) (okind oj.op) = true) (hnw : waitsOn oj i = false) {K : Pins → Act → World → Prop} {pins : Pins} {a : Act} {w : World}
    (h : kOper P ops oi i pins a w (fun p a' w' => kOper P ops oj j p a' w' K)) : kOper P ops oj j pins a w (fun p a' w' => kOper P ops oi i p a' w' K) := by
  obtain ⟨h1, h2, h3⟩ := Oper.apart_spec hap
  have h2' : ∀ d, oj.dst = some d → oi.dst ≠ some d := fun d hd e => h2 d e hd
  have ei : ∀ (a : Act) u, execOp (a.put oj.dst u).eval oi = execOp a.eval oi := fun a u => execOp_put oi hsi a oj.dst u h3
  have ej : ∀ (a : Act) u, execOp (a.put oi.dst u).eval oj = execOp a.eval oj := fun a u => execOp_put oj hsj a oi.dst u h1
  have wi : ∀ (a : Act) u, Region.wanted oi (yielded ops (a.put oj.dst u).tmps) = Region.wanted oi (yielded ops a.tmps) := fun a u => wanted_put oi a oj.dst u h3
  have wj : ∀ (a : Act) u, Region.wanted oj (yielded ops (a.put oi.dst u).tmps) = Region.wanted oj (yielded ops a.tmps) := fun a u => wanted_put oj a oi.dst u h1
  have pc : ∀ (a : Act) v u, (a.put oi.dst v).put oj.dst u = (a.put oj.dst u).put oi.dst v := fun a v u => Act.put_comm a v u h2
  have ejd : ∀ (a' : Act) (ds : List Deferred) v, a' = ({ a with defers := ds } : Act).put oi.dst v → execOp a'.eval oj = execOp a.eval oj ∧ Region.wanted oj (yielded ops a'.tmps) = Region.wanted oj (yielded ops a.tmps) := by
    rintro a' ds v rfl
    exact ⟨by rw [put_defers']; exact ej a v, by rw [put_defers']; exact wj a v⟩
  have eid : ∀ (a' : Act) (ds : List Deferred) v, a' = ({ a with defers := ds } : Act).put oj.dst v → execOp a'.eval oi = execOp a.eval oi ∧ Region.wanted oi (yielded ops a'.tmps) = Region.wanted oi (yielded ops a.tmps) := by
    rintro a' ds v rfl
    exact ⟨by rw [put_defers']; exact ei a v, by rw [put_defers']; exact wi a v⟩
  by_cases hwi : Region.wanted oi (yielded ops a.tmps) = true
  · rw [kOper_yes hwi] at h
    by_cases hki : okind oi.op = 0
    · -- i looks at no memory
      obtain ⟨v, hv, h⟩ := (kU0 hki).1 h
      have back : ∀ (p : Pins) (a' : Act) (w' : World), (∃ ds u, a' = ({ a with defers := ds } : Act).put oj.dst u) → K p (a'.put oi.dst v) w' → kOper P ops oi i p a' w' K := by
        rintro p a' w' ⟨ds, u, ha⟩ hK
        obtain ⟨q1, q2⟩ := eid a' ds u ha
        rw [kOper_yes (by rw [q2]; exact hwi), kU0 hki]
        exact ⟨v, fun w'' => by rw [q1]; exact hv w'', hK⟩
      by_cases hwj : Region.wanted oj (yielded ops a.tmps) = true
      · rw [kOper_yes (by rw [wj]; exact hwj)] at h
        rw [kOper_yes hwj]
        by_cases hkj : okind oj.op = 0
        · obtain ⟨u, hu, hK⟩ := (kU0 hkj).1 h
          exact (kU0 hkj).2 ⟨u, fun w'' => by rw [← ej a v]; exact hu w'', back _ _ _ ⟨a.defers, u, rfl⟩ (by rw [← pc]; exact hK)⟩
        · by_cases hkj1 : okind oj.op = 1
          · obtain ⟨u, b, hu, hK⟩ := (kU1 hkj1).1 h
            exact (kU1 hkj1).2 ⟨u, b, fun w'' hw'' => by rw [← ej a v]; exact hu w'' hw'', back _ _ _ ⟨a.defers, u, rfl⟩ (by rw [← pc]; exact hK)⟩
          · rw [kU2 hkj hkj1] at h ⊢
            unfold Oper.wp at *
            rw [ej] at h
            exact upon_put h2 _ (fun a' w' ha hK => ⟨hK.1, back _ a' w' ha hK.2⟩) h
      · rw [kOper_no (by rw [wj]; exact hwj)] at h
        rw [kOper_no hwj]
        exact back _ _ _ ⟨a.defers, undef, rfl⟩ (by rw [← pc]; exact h)
    · by_cases hki1 : okind oi.op = 1
      · -- i looks at memory: its block is pinned
        obtain ⟨v, b, hv, h⟩ := (kU1 hki1).1 h
        have back : ∀ (p : Pins) (a' : Act) (w' : World), (∃ ds u, a' = ({ a with defers := ds } : Act).put oj.dst u) → w'.heap[b]? = w.heap[b]? → K (addPin i b p) (a'.put oi.dst v) w' → kOper P ops oi i p a' w' K := by
          rintro p a' w' ⟨ds, u, ha⟩ hb hK
          obtain ⟨q1, q2⟩ := eid a' ds u ha
          rw [kOper_yes (by rw [q2]; exact hwi), kU1 hki1]
          exact ⟨v, b, fun w'' hw'' => by rw [q1]; exact hv w'' (hw''.trans hb), hK⟩
        by_cases hwj : Region.wanted oj (yielded ops a.tmps) = true
        · rw [kOper_yes (by rw [wj]; exact hwj)] at h
          rw [kOper_yes hwj]
          by_cases hkj : okind oj.op = 0
          · obtain ⟨u, hu, hK⟩ := (kU0 hkj).1 h
            exact (kU0 hkj).2 ⟨u, fun w'' => by rw [← ej a v]; exact hu w'', back _ _ _ ⟨a.defers, u, rfl⟩ rfl (by rw [← pc]; exact hK)⟩
          · by_cases hkj1 : okind oj.op = 1
            · obtain ⟨u, c, hu, hK⟩ := (kU1 hkj1).1 h
              exact (kU1 hkj1).2 ⟨u, c, fun w'' hw'' => by rw [← ej a v]; exact hu w'' hw'', back _ _ _ ⟨a.defers, u, rfl⟩ rfl (by rw [← pc, addPin_comm]; exact hK)⟩
            · rw [kU2 hkj hkj1] at h ⊢
              unfold Oper.wp at *
              rw [ej] at h
              refine upon_put h2 _ (fun a' w' ha hK => ?_) h
              obtain ⟨hk, hK⟩ := hK
              exact ⟨fun i' b' hp hw' => hk i' b' (.inr hp) hw', back _ a' w' ha (hk i b (.inl ⟨rfl, rfl⟩) hnw) hK⟩
        · rw [kOper_no (by rw [wj]; exact hwj)] at h
          rw [kOper_no hwj]
          exact back _ _ _ ⟨a.defers, undef, rfl⟩ rfl (by rw [← pc]; exact h)
      · -- i may do anything: j looks at no memory
        have hkj : okind oj.op = 0 := by
          simp only [okMate, Bool.or_eq_true, beq_iff_eq, decide_eq_true_eq] at hm
          rcases hm with hm | hm
          · omega
          · exact hm
        rw [kU2 hki hki1] at h
        by_cases hwj : Region.wanted oj (yielded ops a.tmps) = true
        · have hu : ∃ u, ∀ w'', (execOp a.eval oj).run P w'' = .ok (.value u) w'' := by
            refine upon_some h fun a' v w' ⟨ds, ha'⟩ hK => ?_
            obtain ⟨q1, q2⟩ := ejd a' ds v ha'
            have hK := hK.2
            rw [kOper_yes (by rw [q2]; exact hwj), kU0 hkj] at hK
            obtain ⟨u, hu, _⟩ := hK
            exact ⟨u, fun w'' => by rw [← q1]; exact hu w''⟩
          obtain ⟨u, hu⟩ := hu
          rw [kOper_yes hwj, kU0 hkj]
          refine ⟨u, hu, ?_⟩
          rw [kOper_yes (by rw [wi]; exact hwi), kU2 hki hki1]
          unfold Oper.wp at *
          rw [ei]
          refine upon_unput h2' _ ?_ h
          rintro a' w' ⟨ds, v, ha'⟩ ⟨hkp, hK⟩
          obtain ⟨q1, q2⟩ := ejd a' ds v ha'
          rw [kOper_yes (by rw [q2]; exact hwj), kU0 hkj] at hK
          obtain ⟨u', hu', hK⟩ := hK
          have e3 := hu' w'
          rw [q1, hu w'] at e3
          simp only [Result.ok.injEq, Next.value.injEq, and_true] at e3
          rw [e3]
          exact ⟨hkp, hK⟩
        · rw [kOper_no hwj, kOper_yes (by rw [wi]; exact hwi), kU2 hki hki1]
          unfold Oper.wp at *
          rw [ei]
          refine upon_unput h2' _ ?_ h
          rintro a' w' ⟨ds, v, ha'⟩ ⟨hkp, hK⟩
          obtain ⟨q1, q2⟩ := ejd a' ds v ha'
          rw [kOper_no (by rw [q2]; exact hwj)] at hK
          exact ⟨hkp, hK⟩
  · -- i is not wanted
    rw [kOper_no hwi] at h
    have back : ∀ (p : Pins) (a' : Act) (w' : World), (∃ ds u, a' = ({ a with defers := ds } : Act).put oj.dst u) → K p (a'.put oi.dst undef) w' → kOper P ops oi i p a' w' K := by
      rintro p a' w' ⟨ds, u, ha⟩ hK
      obtain ⟨q1, q2⟩ := eid a' ds u ha
      rw [kOper_no (by rw [q2]; exact hwi)]
      exact hK
    by_cases hwj : Region.wanted oj (yielded ops a.tmps) = true
    · rw [kOper_yes (by rw [wj]; exact hwj)] at h
      rw [kOper_yes hwj]
      by_cases hkj : okind oj.op = 0
      · obtain ⟨u, hu, hK⟩ := (kU0 hkj).1 h
        exact (kU0 hkj).2 ⟨u, fun w'' => by rw [← ej a undef]; exact hu w'', back _ _ _ ⟨a.defers, u, rfl⟩ (by rw [← pc]; exact hK)⟩
      · by_cases hkj1 : okind oj.op = 1
        · obtain ⟨u, b, hu, hK⟩ := (kU1 hkj1).1 h
          exact (kU1 hkj1).2 ⟨u, b, fun w'' hw'' => by rw [← ej a undef]; exact hu w'' hw'', back _ _ _ ⟨a.defers, u, rfl⟩ (by rw [← pc]; exact hK)⟩
        · rw [kU2 hkj hkj1] at h ⊢
          unfold Oper.wp at *
          rw [ej] at h
          exact upon_put h2 _ (fun a' w' ha hK => ⟨hK.1, back _ a' w' ha hK.2⟩) h
    · rw [kOper_no (by rw [wj]; exact hwj)] at h
      rw [kOper_no hwj]
      exact back _ _ _ ⟨a.defers, undef, rfl⟩ (by rw [← pc]; exact h)

theorem kOper_false (h : kOper P ops o i pins a w (fun _ _ _ => False)) : False := by
  unfold kOper at h
  split at h
  · by_cases h0 : okind o.op = 0
    · obtain ⟨_, _, h⟩ := (kU0 h0).1 h; exact h
    · by_cases h1 : okind o.op = 1
      · obtain ⟨_, _, _, h⟩ := (kU1 h1).1 h; exact h
      · rw [kU2 h0 h1] at h
        exact upon_some h fun _ _ _ _ h => h.2
  · exact h

theorem anyX_first {Q : Pins → Act → World → Prop} {i : Nat} {oi : Oper} (hi : ops[i]? = some oi) (hsel : ∀ (j : Nat) (o : Oper) cs b, ops[j]? = some o → o.op ≠ .select cs b) :
    ∀ (fuel : Nat) (listed : Array Bool) (pins : Pins) (a : Act) (w : World),
      (∀ j oj, ops[j]? = some oj → j ≠ i → listed.getD j true = false → waitsOn oj i = false → oi.apart ops oj = true ∧ okMate (okind oi.op) (okind oj.op) = true) →
      i ∈ Region.ready .any ops listed →
      kOper P ops oi i pins a w (wpAnyX P ops Q fuel (listed.setIfInBounds i true)) → wpAnyX P ops Q (fuel + 1) listed pins a w := by
  intro fuel
  induction fuel with
  | zero =>
    intro listed pins a w hfree hr H
    refine ⟨fun h => (by rw [h] at hr; cases hr), fun j hj => ?_⟩
    by_cases hji : j = i
    · subst hji; unfold kOp; rw [hi]; exact H
    · have hj' := ready_mono hj hji
      exact (kOper_false (kOper_mono (fun p a' w' h => by
        have h1 := h.1
        rw [h1] at hj'
        cases hj') H)).elim
  | succ fuel ih =>
    intro listed pins a w hfree hr H
    refine ⟨fun h => (by rw [h] at hr; cases hr), fun j hj => ?_⟩
    by_cases hji : j = i
    · subst hji; unfold kOp; rw [hi]; exact H
    · obtain ⟨hjun, oj, hoj, hall⟩ := mem_ready.1 hj
      have hnot : waitsOn oj i = false := by
        cases hw : waitsOn oj i with
        | false => rfl
        | true =>
          obtain ⟨e, he, hb⟩ := Array.any_eq_true'.1 hw
          simp only [Bool.and_eq_true, beq_iff_eq] at hb
          have h1 := hall e he hb.1
          have h0 := (mem_ready.1 hr).1
          rw [hb.2] at h1
          rcases Nat.lt_or_ge i listed.size with h' | h'
          · simp [h'] at h0 h1; rw [h0] at h1; cases h1
          · simp [Array.getElem?_eq_none h'] at h1
      obtain ⟨hap, hmate⟩ := hfree j oj hoj hji hjun hnot
      have H1 : kOper P ops oi i pins a w (fun p a' w' => kOper P ops oj j p a' w' (wpAnyX P ops Q fuel ((listed.setIfInBounds i true).setIfInBounds j true))) := by
        refine kOper_mono (fun p a' w' h => ?_) H
        have := h.2 j (ready_mono hj hji)
        unfold kOp at this
        rw [hoj] at this
        exact this
      have H2 := k_swap hap (fun cs b => hsel i oi cs b hi) (fun cs b => hsel j oj cs b hoj) hmate hnot H1
      unfold kOp
      rw [hoj]
      refine kOper_mono (fun p a' w' h => ih (listed.setIfInBounds j true) p a' w' ?_ (ready_mono hr (Ne.symm hji)) ?_) H2
      · intro k ok hk hki hun hno
        refine hfree k ok hk hki ?_ hno
        by_cases hjk : j = k
        · subst hjk; exact hjun
        · rw [getD_set_ne true hjk] at hun; exact hun
      · rw [Array.setIfInBounds_comm _ _ hji]
        exact h

def freeX (ops : Array Oper) (listed : Array Bool) (k : Nat) : Bool :=
  match ops[k]? with
  | none => false
  | some ok => (List.range ops.size).all fun j => j == k || listed.getD j true ||
      match ops[j]? with
      | none => true
      | some oj => waitsOn oj k || (ok.apart ops oj && okMate (okind ok.op) (okind oj.op))

def ordFrom (ops : Array Oper) : List Nat → Array Bool → Bool
  | [], listed => (Region.ready .any ops listed).isEmpty
  | k :: l, listed => (((Region.ready .any ops listed).contains k && freeX ops listed k) || Region.ready .any ops listed == [k]) && ordFrom ops l (listed.setIfInBounds k true)

def ordOK (ops : Array Oper) (l : List Nat) : Bool := Region.noSelect ops && l.length == ops.size && ordFrom ops l (Array.replicate ops.size false)

theorem freeX_spec {listed : Array Bool} {k : Nat} {ok : Oper} (hk : ops[k]? = some ok) (h : freeX ops listed k = true) :
    ∀ j oj, ops[j]? = some oj → j ≠ k → listed.getD j true = false → waitsOn oj k = false → ok.apart ops oj = true ∧ okMate (okind ok.op) (okind oj.op) = true := by
  intro j oj hj hjk hun hno
  unfold freeX at h
  rw [hk] at h
  have hlt : j < ops.size := (Array.getElem?_eq_some_iff.1 hj).1
  have h1 := List.all_eq_true.1 h j (List.mem_range.2 hlt)
  simp only [hj, Bool.or_eq_true, Bool.and_eq_true, beq_iff_eq] at h1
  rcases h1 with (h1 | h1) | h1 | h1
  · exact absurd h1 hjk
  · rw [hun] at h1; cases h1
  · rw [hno] at h1; cases h1
  · exact h1

theorem anyX_ord {Q : Pins → Act → World → Prop} (hs : Region.noSelect ops = true) : ∀ (l : List Nat) (listed : Array Bool) (pins : Pins) (a : Act) (w : World),
    ordFrom ops l listed = true → wpOrd P ops Q l pins a w → wpAnyX P ops Q l.length listed pins a w
  | [], _, _, _, _, hB, h => ⟨by simpa [ordFrom] using hB, h⟩
  | k :: l, listed, pins, a, w, hB, h => by
    simp only [ordFrom, Bool.and_eq_true, Bool.or_eq_true, beq_iff_eq] at hB
    obtain ⟨hrf, hB'⟩ := hB
    simp only [wpOrd] at h
    cases h0 : ops[k]? with
    | none => rw [h0] at h; exact h.elim
    | some o =>
      rw [h0] at h
      rcases hrf with ⟨hr, hf⟩ | hr
      case inr =>
        refine ⟨fun h1 => (by rw [h1] at hr; cases hr), fun j hj => ?_⟩
        rw [hr, List.mem_singleton] at hj
        subst hj
        unfold kOp
        rw [h0]
        exact kOper_mono (fun p a' w' h' => anyX_ord hs l _ p a' w' hB' h') h
      refine anyX_first h0 (Region.noSelect_spec hs) l.length listed pins a w (freeX_spec h0 hf) (by simpa using hr) ?_
      exact kOper_mono (fun p a' w' h' => anyX_ord hs l _ p a' w' hB' h') h

theorem wp_region_ord {id : Nat} {Q : Exit → Act → World → Prop} {a : Act} {w : World} (l : List Nat) (hm : P.follows .mixedOrders = true) (hB : ordOK ops l = true)
    (h : wpOrd P ops (fun _ a' w' => Q .normal a' w') l noPins a { w with drawn := w.drawn + 1 }) : (Code.region id ops true).wp P Q a w := by
  simp only [ordOK, Bool.and_eq_true, beq_iff_eq] at hB
  refine wp_region_any hm (wpAny_of_X (Q := fun _ a' w' => Q .normal a' w') (fun _ _ _ h => h) _ _ noPins _ _ ?_)
  have := anyX_ord hB.1.1 l (Array.replicate ops.size false) noPins a { w with drawn := w.drawn + 1 } hB.2 h
  rwa [hB.1.2] at this

end
end Fer

namespace Fer
open Go

def prV (k : Int × Int) : Value := .agg #[.int .i64 k.1, .int .i64 k.2]
def prsE : Nat → List ((Int × Int) × Int) → List MapEntry
  | _, [] => []
  | i, x :: l => { key := prV x.1, val := .int .i64 x.2, born := i } :: prsE (i + 1) l
inductive MD where
  | ints (f : Int → Int)
  | prs (l : List ((Int × Int) × Int))
  | look (b n : Nat) (seen : List Nat)

inductive AV where
  | dat (t : Ty) (x : t.den)
  | ref (r : Nat) (p : List Nat)
  | sub (r : Nat) (p : List Nat) (lo hi : Nat)
  | ptr (r : Nat) (p : List Nat)
  | rptr (t : Ty) (x : t.den)
  | rpl (b : Nat) (t : Ty) (x : t.den)
  | clo (f : Nat) (caps : List Nat)
  | tup (l : List AV)
  | agg (l : List AV)
  | mp (b : Nat) (d : MD)
  | loc (r b : Nat)
  | one (r : Nat)
  | junk

def AV.plain : AV → Bool
  | .mp _ _ => false
  | _ => true
def AV.isNew (m : Nat) : AV → Prop
  | .mp b _ => m ≤ b
  | _ => True
theorem AV.plain_new {av : AV} {m : Nat} (h : av.plain = true) : av.isNew m := by
  cases av <;> first | trivial | (cases h; done)

def mget : List MapEntry → Int → Int
  | [], _ => 0
  | e :: es, k => match e.key, e.val with
    | .int _ j, .int _ v => if j = k then v else mget es k
    | _, _ => mget es k
def MD.val (b : Nat) : MD → Value
  | .look _ _ _ => .pointer (some ⟨b, 0, none⟩)
  | _ => .map (some b)
def MD.holds : MD → Obj → Prop
  | .ints f, .map es _ => (∀ e ∈ es.toList, ∃ k v, e.key = .int .i64 k ∧ e.val = .int .i64 v) ∧ ∀ k, f k = mget es.toList k
  | .prs l, .map es c => c = l.length ∧ es.toList = prsE 0 l
  | .look b n seen, .mapIter m n1 s n2 => m = some b ∧ n1 = n ∧ s = seen.toArray ∧ n2 = n
  | _, _ => False
def MapAt (w : World) (b : Nat) (d : MD) : Prop := ∃ o, w.heap[b]? = some o ∧ d.holds o
theorem MD.not_cells {d : MD} {o : Obj} (h : d.holds o) {arr : Array Value} {E : TypeId} {fr : Nat × Nat} : o ≠ .cells arr E fr := fun e => by
  subst e
  cases d <;> exact h
theorem MD.val_same {d d' : MD} {o : Obj} (h : d.holds o) (h' : d'.holds o) (b : Nat) : d.val b = d'.val b := by
  cases d <;> cases d' <;> first | rfl | (cases o <;> first | exact h.elim | exact h'.elim)

structure RT where
  e : Nat
  t : Ty
  k : Nat
  x : List t.den
  h : Option (List Nat)

structure XS where
  env : List (Nat × AV)
  rts : List (Nat × RT)
  nxt : Nat
  pins : List (Nat × Option Nat)

def lk {α : Type} : List (Nat × α) → Nat → Option α
  | [], _ => none
  | (i, x) :: l, j => if i = j then some x else lk l j

def rm {α : Type} : List (Nat × α) → Nat → List (Nat × α)
  | [], _ => []
  | (i, x) :: l, j => if i = j then rm l j else (i, x) :: rm l j

theorem lk_rm_same {α : Type} (j : Nat) : ∀ l : List (Nat × α), lk (rm l j) j = none
  | [] => rfl
  | (i, x) :: l => by
    simp only [rm]; split
    · exact lk_rm_same j l
    · rename_i h; simp [lk, h, lk_rm_same j l]

theorem lk_rm_ne {α : Type} {j k : Nat} (h : k ≠ j) : ∀ l : List (Nat × α), lk (rm l j) k = lk l k
  | [] => rfl
  | (i, x) :: l => by
    simp only [rm, lk]; split
    · rename_i hi; subst hi; rw [if_neg (fun e => h e.symm)]; exact lk_rm_ne h l
    · simp only [lk, lk_rm_ne h l]

theorem lk_rm_some {α : Type} {j k : Nat} {l : List (Nat × α)} {x : α} (h : lk (rm l j) k = some x) : k ≠ j ∧ lk l k = some x := by
  by_cases hk : k = j
  · subst hk; rw [lk_rm_same] at h; cases h
  · exact ⟨hk, by rwa [lk_rm_ne hk] at h⟩

def XS.get (s : XS) (i : Nat) : Option AV := lk s.env i
def XS.put (s : XS) (d : Option Nat) (av : AV) : XS := match d with | some i => { s with env := (i, av) :: s.env } | none => s
def XS.root (s : XS) (r : Nat) : Option RT := lk s.rts r

structure PL where
  ct : CT
  F : Nat → Prop

def hdr : CT → Nat → Value
  | .node b cap _, len => .slice (some ⟨b, 0, none⟩) len cap
  | _, _ => .slice none 0 0

def subR (c : CT) (w lo hi : Nat) (v : Value) : Prop :=
  match c with
  | .node b cap _ => ∃ ad, v = .slice ad (hi - lo) (cap - lo) ∧ (lo < cap ∨ lo = 0 → ad = some ⟨b, lo * w, none⟩)
  | _ => v = .slice none 0 0

def pack : Ty → List Value → Value
  | .prod _ _, cs => .agg cs.toArray
  | _, cs => cs.headD undef

@[reducible] def RT.ty (rt : RT) : Ty := .list rt.e rt.t
def RT.at (rt : RT) (p : List Nat) : TV := getS p rt.ty rt.x

def TV.len (v : TV) : Nat := match v with | ⟨.list _ _, l⟩ => List.length l | _ => 0
def TV.ew (v : TV) : Nat := match v.t with | .list _ t => t.width | _ => 0

def addrP (pl : PL) (rt : RT) (p : List Nat) : Value := .pointer (some ⟨(addrOf p rt.ty pl.ct (0, 0)).1, (addrOf p rt.ty pl.ct (0, 0)).2, none⟩)

def BVR (w : World) (S : Nat → Prop) (rts : List (Nat × RT)) (pl : Nat → PL) : AV → Value → Prop
  | .dat t x, v => ∃ cs, v = pack t cs ∧ RO w S t x cs
  | .ref r p, v => ∀ rt, lk rts r = some rt → v = hdr (atCT p rt.ty (pl r).ct) (rt.at p).len
  | .sub r p lo hi, v => ∀ rt, lk rts r = some rt → lo ≤ hi ∧ hi ≤ (rt.at p).len ∧ subR (atCT p rt.ty (pl r).ct) (rt.at p).ew lo hi v
  | .ptr r p, v => ∀ rt, lk rts r = some rt → v = addrP (pl r) rt p
  | .rptr t x, v => ∃ b o arr E fr, v = .pointer (some ⟨b, o, none⟩) ∧ S b ∧ w.heap[b]? = some (.cells arr E fr) ∧ o + t.width ≤ arr.size ∧ RO w S t x (cellsAt arr o t.width)
  | .rpl b t x, v => v = .pointer (some ⟨b, 0, none⟩) ∧ ∃ arr E fr, S b ∧ w.heap[b]? = some (.cells arr E fr) ∧ t.width ≤ arr.size ∧ RO w S t x (cellsAt arr 0 t.width)
  | .clo f caps, v => ∃ vs : List Value, v = .func (.func f) #[] vs.toArray ∧ vs.length = caps.length ∧
      ∀ (i c : Nat) (rt : RT) (u : Value), caps[i]? = some c → lk rts c = some rt → vs[i]? = some u → u = addrP (pl c) rt [0]
  | .loc r b, _ => ∀ rt, lk rts r = some rt → addrOf [0] rt.ty (pl r).ct (0, 0) = (b, 0)
  | .one r, _ => ∀ rt, lk rts r = some rt → ∃ b, hdr (atCT [] rt.ty (pl r).ct) (rt.at []).len = .slice (some ⟨b, 0, none⟩) 1 1
  | .junk, _ => True
  | _, _ => False

inductive BVRs (w : World) (S : Nat → Prop) (rts : List (Nat × RT)) (pl : Nat → PL) : List AV → List Value → Prop
  | nil : BVRs w S rts pl [] []
  | cons {a v l vs} (h : BVR w S rts pl a v) (t : BVRs w S rts pl l vs) : BVRs w S rts pl (a :: l) (v :: vs)

def AVR (w : World) (S : Nat → Prop) (rts : List (Nat × RT)) (pl : Nat → PL) : AV → Value → Prop
  | .tup l, v => ∃ vs, v = .tuple vs.toArray ∧ BVRs w S rts pl l vs
  | .agg l, v => ∃ vs : List Value, v = .agg (vs.flatMap fun u => u.cells.toList).toArray ∧ BVRs w S rts pl l vs
  | .mp b d, v => v = d.val b ∧ S b ∧ MapAt w b d
  | av, v => BVR w S rts pl av v

def AV.ids : AV → List Nat
  | .ref r _ => [r] | .sub r _ _ _ => [r] | .ptr r _ => [r] | .clo _ c => c | .loc r _ => [r] | .one r => [r]
  | _ => []
def AV.lt (n : Nat) : AV → Prop
  | .tup l => ∀ a ∈ l, ∀ r ∈ a.ids, r < n
  | .agg l => ∀ a ∈ l, ∀ r ∈ a.ids, r < n
  | a => ∀ r ∈ a.ids, r < n

def drFlag : Prop := True
structure SameOut (T : Nat → Prop) (w w' : World) : Prop where
  out : w'.output = w.output
  fz : ∀ a, T a.block → a.block < w.heap.size → w'.frozen? a = w.frozen? a
  sz : w.heap.size ≤ w'.heap.size
  dr : drFlag → w.drawn ≤ w'.drawn
def All : Nat → Prop := fun _ => True

theorem SameOut.refl {T : Nat → Prop} (w : World) : SameOut T w w := ⟨rfl, fun _ _ _ => rfl, Nat.le_refl _, fun _ => Nat.le_refl _⟩
theorem SameOut.trans {T : Nat → Prop} {a b c : World} (k : SameOut T b c) (h : SameOut T a b) : SameOut T a c := ⟨k.out.trans h.out, fun x ht hx => (k.fz x ht (Nat.lt_of_lt_of_le hx h.sz)).trans (h.fz x ht hx), Nat.le_trans h.sz k.sz, fun d => Nat.le_trans (h.dr d) (k.dr d)⟩
theorem SameOut.mono {T U : Nat → Prop} {a b : World} (h : SameOut T a b) (hU : ∀ n, U n → T n) : SameOut U a b := ⟨h.out, fun x ht hx => h.fz x (hU _ ht) hx, h.sz, h.dr⟩
theorem SameOut.all {T : Nat → Prop} {a b : World} (h : SameOut All a b) : SameOut T a b := h.mono fun _ _ => trivial
theorem SameOut.ofOld {w w' : World} (h : SameOut (fun b => b < w.heap.size) w w') : SameOut All w w' := ⟨h.out, fun x _ hx => h.fz x hx hx, h.sz, h.dr⟩

structure RelAt (w0 : World) (S0 : Nat → Prop) (N : Nat) (dr : Bool) (pc : Pins) (s : XS) (a : Act) (w : World) (S : Nat → Prop) (pl : Nat → PL) : Prop where
  defers : a.defers = []
  size : a.tmps.size = N
  os : w.os = w0.os
  tape : w.tape = w0.tape
  output : SameOut S0 w0 w
  grow : w0.heap.size ≤ w.heap.size
  stay : ∀ b, S0 b → w.heap[b]? = w0.heap[b]?
  base : ∀ b, S0 b → S b
  lt : ∀ b, S b → b < w.heap.size
  own : ∀ r rt, s.root r = some rt → ∃ hv, Own w S rt.ty (rt.k + 1) rt.x rt.h (pl r).ct [hv] (pl r).F
  Flt : ∀ r rt b, s.root r = some rt → (pl r).F b → b < w.heap.size ∧ ¬ S b
  disj : ∀ r r' rt rt' b, s.root r = some rt → s.root r' = some rt' → (pl r).F b → (pl r').F b → r = r'
  ids : ∀ r rt, s.root r = some rt → r < s.nxt
  env : ∀ i av, s.get i = some av → AVR w S s.rts pl av (a.tmps.getD i undef) ∧ av.lt s.nxt
  pins : dr = true → ∀ i b, pc i b → ∃ q, (i, q) ∈ s.pins ∧ b < w.heap.size ∧ ∀ r rt, s.root r = some rt → (pl r).F b → q = some r
  news : ∀ i b f, s.get i = some (.mp b f) → w0.heap.size ≤ b

def Rel (w0 : World) (S0 : Nat → Prop) (N : Nat) (dr : Bool) (pc : Pins) (s : XS) (a : Act) (w : World) : Prop :=
  ∃ S pl, RelAt w0 S0 N dr pc s a w S pl

theorem Own.hdr {w : World} {S : Nat → Prop} {e : Nat} {t : Ty} {k : Nat} {x : List t.den} {h : Option (List Nat)} {ct : CT} {v : Value} {F : Nat → Prop}
    (H : Own w S (.list e t) (k + 1) x h ct [v] F) (hh : h ≠ some []) : v = Fer.hdr ct x.length ∧ x.length ≤ maxLen := by
  rcases H with H | ⟨_, H⟩
  · exact absurd H.1 hh
  · cases ct with
    | nil => obtain ⟨rfl, h2, _⟩ := H; simp at h2; exact ⟨h2, Nat.zero_le _⟩
    | node b cap kids => obtain ⟨h1, h2, h3, _⟩ := H; simp at h1; exact ⟨h1, Nat.le_trans h2 h3⟩
    | leaf => exact H.elim
    | pair => exact H.elim


theorem BVR.frame {w w' : World} {S S' : Nat → Prop} {rts rts' : List (Nat × RT)} {pl pl' : Nat → PL} (hS : ∀ b, S b → S' b ∧ w'.heap[b]? = w.heap[b]?)
    {n : Nat} (hr : ∀ r, r < n → lk rts' r = none ∨ (lk rts' r = lk rts r ∧ pl' r = pl r)) {av : AV} {v : Value} (hn : ∀ r ∈ av.ids, r < n) (h : BVR w S rts pl av v) : BVR w' S' rts' pl' av v := by
  cases av with
  | dat t x => obtain ⟨cs, h1, h2⟩ := h; exact ⟨cs, h1, h2.frame hS⟩
  | rptr t x =>
    obtain ⟨b, o, arr, E, fr, h1, h2, h3, h4, h5⟩ := h
    exact ⟨b, o, arr, E, fr, h1, (hS b h2).1, ((hS b h2).2).trans h3, h4, h5.frame hS⟩
  | rpl b t x =>
    obtain ⟨h1, arr, E, fr, h2, h3, h4, h5⟩ := h
    exact ⟨h1, arr, E, fr, (hS b h2).1, ((hS b h2).2).trans h3, h4, h5.frame hS⟩
  | ref r p =>
    intro rt hrt
    rcases hr r (hn r (by simp [AV.ids])) with e | ⟨e1, e2⟩
    · rw [e] at hrt; cases hrt
    · rw [e2]; exact h rt (e1 ▸ hrt)
  | sub r p lo hi =>
    intro rt hrt
    rcases hr r (hn r (by simp [AV.ids])) with e | ⟨e1, e2⟩
    · rw [e] at hrt; cases hrt
    · rw [e2]; exact h rt (e1 ▸ hrt)
  | ptr r p =>
    intro rt hrt
    rcases hr r (hn r (by simp [AV.ids])) with e | ⟨e1, e2⟩
    · rw [e] at hrt; cases hrt
    · rw [e2]; exact h rt (e1 ▸ hrt)
  | clo f caps =>
    obtain ⟨vs, h1, h2, h3⟩ := h
    refine ⟨vs, h1, h2, fun i c rt u hc hrt hu => ?_⟩
    rcases hr c (hn c (by simp only [AV.ids]; exact List.mem_of_getElem? hc)) with e | ⟨e1, e2⟩
    · rw [e] at hrt; cases hrt
    · rw [e2]; exact h3 i c rt u hc (e1 ▸ hrt) hu
  | loc r b =>
    intro rt hrt
    rcases hr r (hn r (by simp [AV.ids])) with e | ⟨e1, e2⟩
    · rw [e] at hrt; cases hrt
    · rw [e2]; exact h rt (e1 ▸ hrt)
  | one r =>
    intro rt hrt
    rcases hr r (hn r (by simp [AV.ids])) with e | ⟨e1, e2⟩
    · rw [e] at hrt; cases hrt
    · rw [e2]; exact h rt (e1 ▸ hrt)
  | tup l => exact h.elim
  | agg l => exact h.elim
  | mp b f => exact h.elim
  | junk => trivial

theorem BVRs.frame {w w' : World} {S S' : Nat → Prop} {rts rts' : List (Nat × RT)} {pl pl' : Nat → PL} (hS : ∀ b, S b → S' b ∧ w'.heap[b]? = w.heap[b]?)
    {n : Nat} (hr : ∀ r, r < n → lk rts' r = none ∨ (lk rts' r = lk rts r ∧ pl' r = pl r)) {l : List AV} {vs : List Value} (hn : ∀ a ∈ l, ∀ r ∈ a.ids, r < n) (h : BVRs w S rts pl l vs) : BVRs w' S' rts' pl' l vs := by
  induction h with
  | nil => exact .nil
  | cons h t ih => exact .cons (h.frame hS hr (hn _ (by simp))) (ih fun a ha => hn a (by simp [ha]))

theorem AVR.frame {w w' : World} {S S' : Nat → Prop} {rts rts' : List (Nat × RT)} {pl pl' : Nat → PL} (hS : ∀ b, S b → S' b ∧ w'.heap[b]? = w.heap[b]?)
    {n : Nat} (hr : ∀ r, r < n → lk rts' r = none ∨ (lk rts' r = lk rts r ∧ pl' r = pl r)) {av : AV} {v : Value} (hn : av.lt n) (h : AVR w S rts pl av v) : AVR w' S' rts' pl' av v := by
  cases av with
  | tup l => obtain ⟨vs, h1, h2⟩ := h; exact ⟨vs, h1, h2.frame hS hr hn⟩
  | agg l => obtain ⟨vs, h1, h2⟩ := h; exact ⟨vs, h1, h2.frame hS hr hn⟩
  | mp b f =>
    obtain ⟨h1, h2, o, h3, h4⟩ := h
    exact ⟨h1, (hS b h2).1, o, ((hS b h2).2).trans h3, h4⟩
  | junk => trivial
  | _ => exact BVR.frame (n := n) (v := v) hS hr hn h

theorem RelAt.put {w0 : World} {S0 : Nat → Prop} {N : Nat} {dr : Bool} {pc : Pins} {s : XS} {a : Act} {w : World} {S : Nat → Prop} {pl : Nat → PL}
    (R : RelAt w0 S0 N dr pc s a w S pl) {d : Option Nat} {av : AV} {v : Value} (hd : ∀ i, d = some i → i < N) (h : AVR w S s.rts pl av v) (hl : av.lt s.nxt) (hm : av.isNew w0.heap.size := by trivial) :
    RelAt w0 S0 N dr pc (s.put d av) (a.put d v) w S pl := by
  cases d with
  | none => exact R
  | some i =>
    have hi := hd i rfl
    refine { defers := R.defers, size := by simp [Act.put, R.size], os := R.os, tape := R.tape, output := R.output, grow := R.grow, stay := R.stay, base := R.base, lt := R.lt, own := R.own, Flt := R.Flt, disj := R.disj, ids := R.ids, env := ?_, pins := R.pins, news := fun j b f hj => ?_ }
    rotate_left
    · simp only [XS.get, XS.put, lk] at hj
      by_cases hij : i = j
      · rw [if_pos hij] at hj
        cases hj
        exact hm
      · rw [if_neg hij] at hj
        exact R.news j b f hj
    intro j av' hj
    simp only [XS.get, XS.put, lk] at hj
    by_cases hij : i = j
    · subst hij
      simp only [if_true, Option.some.injEq] at hj
      subst hj
      refine ⟨?_, hl⟩
      have : (a.tmps.setIfInBounds i v).getD i undef = v := by simp [R.size, hi]
      simp only [Act.put]
      rw [this]
      exact h
    · rw [if_neg hij] at hj
      have : (a.tmps.setIfInBounds i v).getD j undef = a.tmps.getD j undef := by simp [Array.getElem?_setIfInBounds_ne hij]
      simp only [Act.put]
      rw [this]
      exact R.env j av' hj

theorem RelAt.junk {w0 : World} {S0 : Nat → Prop} {N : Nat} {dr : Bool} {pc : Pins} {s : XS} {a : Act} {w : World} {S : Nat → Prop} {pl : Nat → PL}
    (R : RelAt w0 S0 N dr pc s a w S pl) (d : Option Nat) (v : Value) :
    RelAt w0 S0 N dr pc (match d with | some i => { s with env := rm s.env i } | none => s) (a.put d v) w S pl := by
  cases d with
  | none => exact R
  | some i =>
    refine { defers := R.defers, size := by simp [Act.put, R.size], os := R.os, tape := R.tape, output := R.output, grow := R.grow, stay := R.stay, base := R.base, lt := R.lt, own := R.own, Flt := R.Flt, disj := R.disj, ids := R.ids, env := ?_, pins := R.pins, news := fun j b f hj => R.news j b f (lk_rm_some hj).2 }
    intro j av' hj
    obtain ⟨hij, hj⟩ := lk_rm_some hj
    have : (a.tmps.setIfInBounds i v).getD j undef = a.tmps.getD j undef := by simp [Array.getElem?_setIfInBounds_ne (Ne.symm hij)]
    simp only [Act.put]
    rw [this]
    exact R.env j av' hj

end Fer

namespace Fer
open Go

inductive TE where
  | basic (t : Ty)
  | slice (e : Nat) (t : Ty) (bytes : Nat)
  | arr (n e : Nat) (t : Ty)
  | struct (ts : List Ty)
  | pair (e : Nat) (t : Ty)
  | map (kt vt : Nat)
  | mapP (kt vt : Nat)

def prodOf : List Ty → Ty
  | [] => .raw
  | [t] => t
  | t :: ts => .prod t (prodOf ts)

def TE.ty : TE → Option Ty
  | .basic t => some t
  | .slice e t _ => some (.list e t)
  | .arr _ _ _ => none
  | .struct ts => if 2 ≤ ts.length then some (prodOf ts) else none
  | .pair _ t => some (.prod t t)
  | .map _ _ => none
  | .mapP _ _ => none

def Ty.isProd : Ty → Bool
  | .prod _ _ => true
  | _ => false

def zeroB : Ty → List Value → Bool
  | .int k, [.int k' n] => decide (k = k') && n == 0
  | .bool, [.bool b] => !b
  | .str, [.string s] => s.size == 0
  | .list _ _, [.slice none 0 0] => true
  | .raw, [.pointer none] => true
  | .ro _ _, [.slice none 0 0] => true
  | .func, [.nilFunc] => true
  | .prod a b, cs => zeroB a (cs.take a.width) && zeroB b (cs.drop a.width)
  | _, _ => false

theorem zeroB_ok (w : World) (S : Nat → Prop) : ∀ (t : Ty) (cs : List Value), zeroB t cs = true → RO w S t t.dflt cs
  | .int k, [.int k' n], h => by
    simp [zeroB] at h; obtain ⟨rfl, rfl⟩ := h; rfl
  | .bool, [.bool b], h => by simp [zeroB] at h; subst h; rfl
  | .str, [.string s], h => by
    simp [zeroB] at h
    have : s = ByteArray.empty := by
      cases s with
      | mk d =>
        first
        | (have hd : d = #[] := Array.eq_empty_of_size_eq_zero h; subst hd; rfl)
        | exact h
    subst this; rfl
  | .list _ _, [.slice none 0 0], _ => ⟨none, 0, rfl, Nat.le_refl _, Nat.zero_le _, fun h => absurd rfl h⟩
  | .prod a b, cs, h => by
    simp only [zeroB, Bool.and_eq_true] at h
    exact ⟨_, _, (List.take_append_drop a.width cs).symm, zeroB_ok w S a _ h.1, zeroB_ok w S b _ h.2⟩
  | .raw, [.pointer none], _ => ⟨rfl, rfl⟩
  | .ro _ _, cs, h => by
    have e : cs = [.slice none 0 0] := by
      unfold zeroB at h
      split at h <;> first | rfl | (simp_all; done) | skip
      all_goals simp at *
    subst e
    exact ⟨rfl, none, 0, rfl, Nat.le_refl _, Nat.zero_le _, fun h => absurd rfl h⟩
  | .func, cs, h => by
    have e : cs = [.nilFunc] := by
      unfold zeroB at h
      split at h <;> first | rfl | (simp_all; done) | skip
      all_goals simp at *
    subst e
    rfl
  | .raw, [], h => by simp [zeroB] at h
  | .raw, _ :: _ :: _, h => by simp [zeroB] at h
  | .raw, [.pointer (some _)], h => by simp [zeroB] at h
  | .raw, [.int _ _], h | .raw, [.bool _], h | .raw, [.string _], h | .raw, [.slice _ _ _], h | .raw, [.map _], h | .raw, [.chan _], h | .raw, [.func _ _ _], h | .raw, [.nilFunc], h | .raw, [.iface _ _], h | .raw, [.nilIface], h | .raw, [.agg _], h | .raw, [.tuple _], h | .raw, [.float _ _], h | .raw, [.complex _ _ _], h => by simp [zeroB] at h
  | .int _, [], h => by simp [zeroB] at h
  | .bool, [], h => by simp [zeroB] at h
  | .str, [], h => by simp [zeroB] at h
  | .list _ _, [], h => by simp [zeroB] at h
  | .int _, _ :: _ :: _, h => by simp [zeroB] at h
  | .bool, _ :: _ :: _, h => by simp [zeroB] at h
  | .str, _ :: _ :: _, h => by simp [zeroB] at h
  | .list _ _, _ :: _ :: _, h => by simp [zeroB] at h
  | .int _, [.bool _], h | .int _, [.string _], h | .int _, [.pointer _], h | .int _, [.slice _ _ _], h | .int _, [.map _], h | .int _, [.chan _], h | .int _, [.func _ _ _], h | .int _, [.nilFunc], h | .int _, [.iface _ _], h | .int _, [.nilIface], h | .int _, [.agg _], h | .int _, [.tuple _], h | .int _, [.float _ _], h | .int _, [.complex _ _ _], h => by simp [zeroB] at h
  | .bool, [.int _ _], h | .bool, [.string _], h | .bool, [.pointer _], h | .bool, [.slice _ _ _], h | .bool, [.map _], h | .bool, [.chan _], h | .bool, [.func _ _ _], h | .bool, [.nilFunc], h | .bool, [.iface _ _], h | .bool, [.nilIface], h | .bool, [.agg _], h | .bool, [.tuple _], h | .bool, [.float _ _], h | .bool, [.complex _ _ _], h => by simp [zeroB] at h
  | .str, [.int _ _], h | .str, [.bool _], h | .str, [.pointer _], h | .str, [.slice _ _ _], h | .str, [.map _], h | .str, [.chan _], h | .str, [.func _ _ _], h | .str, [.nilFunc], h | .str, [.iface _ _], h | .str, [.nilIface], h | .str, [.agg _], h | .str, [.tuple _], h | .str, [.float _ _], h | .str, [.complex _ _ _], h => by simp [zeroB] at h
  | .list _ _, [.int _ _], h | .list _ _, [.bool _], h | .list _ _, [.pointer _], h | .list _ _, [.string _], h | .list _ _, [.map _], h | .list _ _, [.chan _], h | .list _ _, [.func _ _ _], h | .list _ _, [.nilFunc], h | .list _ _, [.iface _ _], h | .list _ _, [.nilIface], h | .list _ _, [.agg _], h | .list _ _, [.tuple _], h | .list _ _, [.float _ _], h | .list _ _, [.complex _ _ _], h => by simp [zeroB] at h
  | .list _ _, [.slice (some _) _ _], h => by simp [zeroB] at h
  | .list _ _, [.slice none (_ + 1) _], h => by simp [zeroB] at h
  | .list _ _, [.slice none 0 (_ + 1)], h => by simp [zeroB] at h

def infoB (P : Program) (i : Nat) (t : Ty) : Bool :=
  match P.info? i with
  | some inf => inf.size == t.width && (match inf.zero with | some z => z.cells.toList.length == t.width && zeroB t z.cells.toList | none => false)
  | none => false

def aggB (P : Program) (i : Nat) : Bool :=
  match P.underlying i with
  | some (.struct _) | some (.array _ _) => true
  | _ => false

def fieldsB (P : Program) : List Field → List Ty → Nat → Bool
  | [], [], _ => true
  | f :: fs, t :: ts, o => f.offset == o && (match P.info? f.type with | some inf => inf.size == t.width | none => false) && aggB P f.type == t.isProd && fieldsB P fs ts (o + t.width)
  | _, _, _ => false

def intF (P : Program) : List Field → List Ty → Bool
  | [], [] => true
  | f :: fs, .int k :: ts => f.name != "_" && (match P.underlying f.type with | some (.int k') => decide (k = k') | _ => false) && intF P fs ts
  | _, _ => false

def eqB (P : Program) (i : Nat) (ts : List Ty) : Bool :=
  match P.underlying i with
  | some (.struct fs) => intF P fs.toList ts && !P.stoodInHeld i && !P.eqGuardType P.depth i
  | _ => false

def Ty.isInt : Ty → Bool
  | .int _ => true
  | _ => false

def teB (P : Program) (i : Nat) : TE → Bool
  | .basic t => infoB P i t && aggB P i == false && !t.isProd && (match t, P.underlying i with | .int k, some (.int k') => decide (k = k') | .bool, some .bool => true | .str, some .string => true | .func, some (.func ..) => true | _, _ => false)
  | .slice e t b => infoB P e t && (match P.underlying i with | some (.slice e') => e' == e | _ => false) && aggB P e == t.isProd && (match P.info? e with | some inf => inf.bytes == b | none => false) && infoB P i (.list e t)
  | .arr n e t => infoB P e t && (match P.underlying i with | some (.array n' e') => e' == e && n' == n | _ => false) && aggB P e == t.isProd &&
      (match P.info? i with
      | some inf => inf.size == n * t.width && (match inf.zero with | some z => z.cells.size == n * t.width && (List.range n).all (fun j => zeroB t (cellsAt z.cells (j * t.width) t.width)) | none => false)
      | none => false)
  | .struct ts => decide (2 ≤ ts.length) && (match P.underlying i with | some (.struct fs) => fieldsB P fs.toList ts 0 | _ => false) && infoB P i (prodOf ts) && (!ts.all Ty.isInt || eqB P i ts)
  | .pair e t => infoB P e t && (match P.underlying i with | some (.array n e') => e' == e && n == 2 | _ => false) && aggB P e == t.isProd && decide (t.width = 1) && infoB P i (.prod t t)
  | .map kt vt => (match P.underlying i with | some (.map k v) => k == kt && v == vt | _ => false) && (match P.underlying kt with | some (.int .i64) => true | _ => false) && (match P.info? vt with | some inf => (match inf.zero with | some (.int .i64 n) => n == 0 | _ => false) | none => false)
  | .mapP kt vt => (match P.underlying i with | some (.map k v) => k == kt && v == vt | _ => false) && (match P.underlying kt with | some (.array n e) => n == 2 && (match P.underlying e with | some (.int .i64) => true | _ => false) && (match P.info? e with | some inf => inf.size == 1 | none => false) | _ => false) && (match P.info? vt with | some inf => (match inf.zero with | some (.int .i64 n) => n == 0 | _ => false) | none => false)

def ttB (P : Program) (tt : List (Nat × TE)) : Bool := tt.all fun x => teB P x.1 x.2

theorem lk_mem {α : Type} {l : List (Nat × α)} {i : Nat} {x : α} (h : lk l i = some x) : (i, x) ∈ l := by
  induction l with
  | nil => cases h
  | cons y l ih =>
    obtain ⟨j, y⟩ := y
    simp only [lk] at h
    split at h
    · rename_i e; subst e; cases h; exact List.mem_cons_self
    · exact List.mem_cons_of_mem _ (ih h)

theorem ttB_get {P : Program} {tt : List (Nat × TE)} (h : ttB P tt = true) {i : Nat} {te : TE} (hi : lk tt i = some te) : teB P i te = true :=
  List.all_eq_true.1 h _ (lk_mem hi)

structure Info (P : Program) (i : Nat) (t : Ty) : Prop where
  info : ∃ inf z, P.info? i = some inf ∧ inf.size = t.width ∧ inf.zero = some z ∧ z.cells.toList.length = t.width ∧ ∀ w S, RO w S t t.dflt z.cells.toList

theorem infoB_ok {P : Program} {i : Nat} {t : Ty} (h : infoB P i t = true) : Info P i t := by
  unfold infoB at h
  split at h
  · rename_i inf hinf
    split at h
    · rename_i z hz
      simp only [Bool.and_eq_true, beq_iff_eq] at h
      exact ⟨inf, z, hinf, h.1, hz, h.2.1, fun w S => zeroB_ok w S t _ h.2.2⟩
    · simp at h
  · cases h


def Out0 (P : Program) (dr : Bool) (o : Oper) (i : Nat) (pc : Pins) (a : Act) (w : World) (K : Pins → Act → World → Prop) : Prop :=
  match okind o.op with
  | 0 => ∃ v, (∀ w', (execOp a.eval o).run P w' = .ok (.value v) w') ∧ K pc (a.put o.dst v) w
  | 1 => ∃ v b, (∀ w', w'.heap[b]? = w.heap[b]? → (execOp a.eval o).run P w' = .ok (.value v) w') ∧ K (addPin i b pc) (a.put o.dst v) w
  | _ => o.wp P a w (fun a' w' => (dr = true → kept o pc w w') ∧ K pc a' w') noQ

def Out (P : Program) (dr : Bool) (o : Oper) (i : Nat) (pc : Pins) (a : Act) (w : World) (K : Pins → Act → World → Prop) : Prop :=
  Out0 P dr o i pc a w K ∨ (dr = false ∧ o.wp P a w (fun a' w' => K pc a' w') noQ)

theorem Out.mono {P : Program} {dr : Bool} {o : Oper} {i : Nat} {pc : Pins} {a : Act} {w : World} {K K' : Pins → Act → World → Prop}
    (hk : ∀ p a w, K p a w → K' p a w) (h : Out P dr o i pc a w K) : Out P dr o i pc a w K' := by
  rcases h with h | ⟨hd, h⟩
  · refine .inl ?_
    unfold Out0 at *
    split at h
    · obtain ⟨v, h1, h2⟩ := h; exact ⟨v, h1, hk _ _ _ h2⟩
    · obtain ⟨v, b, h1, h2⟩ := h; exact ⟨v, b, h1, hk _ _ _ h2⟩
    · exact Oper.wp_mono (fun a w h => ⟨h.1, hk _ _ _ h.2⟩) h
  · exact .inr ⟨hd, Oper.wp_mono (fun a w h => hk _ _ _ h) h⟩

theorem Out.k {P : Program} {o : Oper} {i : Nat} {pc : Pins} {a : Act} {w : World} {K : Pins → Act → World → Prop}
    (h : Out P true o i pc a w K) : kUpon P o i pc a w K := by
  rcases h with h | ⟨hd, _⟩
  · revert h
    unfold Out0 kUpon
    cases okind o.op with
    | zero => exact id
    | succ n =>
      cases n with
      | zero => exact id
      | succ n => exact fun h => Oper.wp_mono (fun a w h => ⟨h.1 rfl, h.2⟩) h
  · cases hd

theorem Out.wp {P : Program} {dr : Bool} {o : Oper} {i : Nat} {pc : Pins} {a : Act} {w : World} {K : Act → World → Prop} {Q : Exit → Act → World → Prop}
    (h : Out P dr o i pc a w (fun _ => K)) : o.wp P a w K Q := by
  rcases h with h | ⟨_, h⟩
  · unfold Out0 at h
    split at h
    · obtain ⟨v, h1, h2⟩ := h
      unfold Oper.wp; rw [h1 w]; exact h2
    · obtain ⟨v, b, h1, h2⟩ := h
      unfold Oper.wp; rw [h1 w rfl]; exact h2
    · exact upon_noQ (Oper.wp_mono (fun a w h => h.2) h)
  · exact upon_noQ h

theorem Out.pure {P : Program} {dr : Bool} {o : Oper} {i : Nat} {pc : Pins} {a : Act} {w : World} {K : Pins → Act → World → Prop} (h0 : okind o.op = 0)
    (v : Value) (h1 : ∀ w', (execOp a.eval o).run P w' = .ok (.value v) w') (h2 : K pc (a.put o.dst v) w) : Out P dr o i pc a w K := by
  refine .inl ?_
  unfold Out0; simp only [h0]; exact ⟨v, h1, h2⟩


def constAV : Value → Option AV
  | .int k n => some (.dat (.int k) n)
  | .bool b => some (.dat .bool b)
  | .string s => some (.dat .str s)
  | .agg _ | .tuple _ => none
  | v => some (.dat .raw v)

def XS.ev (s : XS) : Operand → Option AV
  | .tmp i => s.get i
  | .const v => constAV v
  | .func f => some (.clo f [])
  | .global _ => none

theorem constAV_ok {w : World} {S : Nat → Prop} {rts : List (Nat × RT)} {pl : Nat → PL} {v : Value} {av : AV} (h : constAV v = some av) : AVR w S rts pl av v ∧ ∀ n, av.lt n := by
  cases v <;> simp only [constAV, Option.some.injEq] at h <;> cases h
  all_goals exact ⟨⟨[_], rfl, by first | rfl | exact ⟨rfl, rfl⟩⟩, fun n r hr => by simp [AV.ids] at hr⟩

section
variable {w0 : World} {S0 : Nat → Prop} {N : Nat} {dr : Bool} {pc : Pins} {s : XS} {a : Act} {w : World} {S : Nat → Prop} {pl : Nat → PL}

theorem RelAt.ev (R : RelAt w0 S0 N dr pc s a w S pl) {x : Operand} {av : AV} (h : s.ev x = some av) : AVR w S s.rts pl av (a.eval x) ∧ av.lt s.nxt := by
  cases x with
  | tmp i => exact R.env i av h
  | const v => exact ⟨(constAV_ok (w := w) (S := S) (rts := s.rts) (pl := pl) h).1, (constAV_ok (w := w) (S := S) (rts := s.rts) (pl := pl) h).2 _⟩
  | func f =>
    simp only [XS.ev, Option.some.injEq] at h
    subst h
    exact ⟨⟨[], rfl, rfl, by simp⟩, fun r hr => by simp [AV.ids] at hr⟩
  | global g => cases h

theorem AVR.int {k : IntKind} {n : Int} {rts : List (Nat × RT)} {v : Value} (h : AVR w S rts pl (.dat (.int k) n) v) : v = .int k n := by
  obtain ⟨cs, rfl, h⟩ := h; simp only [RO] at h; subst h; rfl
theorem AVR.bool {b : Bool} {rts : List (Nat × RT)} {v : Value} (h : AVR w S rts pl (.dat .bool b) v) : v = .bool b := by
  obtain ⟨cs, rfl, h⟩ := h; simp only [RO] at h; subst h; rfl
theorem AVR.str {b : ByteArray} {rts : List (Nat × RT)} {v : Value} (h : AVR w S rts pl (.dat .str b) v) : v = .string b := by
  obtain ⟨cs, rfl, h⟩ := h; simp only [RO] at h; subst h; rfl
theorem AVR.raw {u : Value} {rts : List (Nat × RT)} {v : Value} (h : AVR w S rts pl (.dat .raw u) v) : v = u ∧ u.oneCell' = true := by
  obtain ⟨cs, rfl, h⟩ := h; simp only [RO] at h; obtain ⟨rfl, h⟩ := h; exact ⟨rfl, h⟩
theorem AVR.list {e : Nat} {t : Ty} {l : List t.den} {rts : List (Nat × RT)} {v : Value} (h : AVR w S rts pl (.dat (.list e t) l) v) :
    ∃ ad cap, v = .slice ad l.length cap ∧ RO w S (.list e t) l [v] ∧ l.length ≤ cap ∧ cap ≤ maxLen := by
  obtain ⟨cs, rfl, h⟩ := h
  obtain ⟨ad, cap, rfl, h2, h3, h4⟩ := h
  exact ⟨ad, cap, rfl, ⟨ad, cap, rfl, h2, h3, h4⟩, h2, h3⟩

theorem AVR.mkInt (k : IntKind) (n : Int) (rts : List (Nat × RT)) : AVR w S rts pl (.dat (.int k) n) (.int k n) := ⟨[_], rfl, rfl⟩
theorem AVR.mkBool (b : Bool) (rts : List (Nat × RT)) : AVR w S rts pl (.dat .bool b) (.bool b) := ⟨[_], rfl, rfl⟩
theorem AVR.mkStr (b : ByteArray) (rts : List (Nat × RT)) : AVR w S rts pl (.dat .str b) (.string b) := ⟨[_], rfl, rfl⟩
end


def inR : IntKind → Int → Prop
  | .i64, z => -9223372036854775808 ≤ z ∧ z ≤ 9223372036854775807
  | .u8, z => 0 ≤ z ∧ z ≤ 255
  | .u64, z => 0 ≤ z ∧ z ≤ 18446744073709551615
  | k, z => k.wrap z = z

theorem inR_wrap {k : IntKind} {z : Int} (h : inR k z) : k.wrap z = z := by
  cases k <;> simp only [inR] at h <;> first | exact h | skip
  · rw [IntKind.wrap_i64]; omega
  · rw [IntKind.wrap_u8]; omega
  · rw [show IntKind.u64.wrap z = z % 18446744073709551616 by simp [IntKind.wrap, IntKind.bits, IntKind.signed]]; omega

structure PR where
  pre : Prop
  av : AV

def cmpInt (op : BinOp) (x y : Int) : Option Bool :=
  match op with
  | .eql => some (decide (x = y))
  | .neq => some (!decide (x = y))
  | .lss => some (decide (x < y))
  | .leq => some (decide (x ≤ y))
  | .gtr => some (decide (y < x))
  | .geq => some (decide (y ≤ x))
  | _ => none

def andI (k : IntKind) (x y : Int) : Int := k.wrap ((BitVec.ofInt k.bits x &&& BitVec.ofInt k.bits y).toNat : Int)

def binInt (op : BinOp) (k : IntKind) (x y : Int) : Option PR :=
  match op with
  | .add => some ⟨inR k (x + y), .dat (.int k) (x + y)⟩
  | .sub => some ⟨inR k (x - y), .dat (.int k) (x - y)⟩
  | .mul => some ⟨inR k (x * y), .dat (.int k) (x * y)⟩
  | .quo => some ⟨y ≠ 0 ∧ inR k (x.tdiv y), .dat (.int k) (x.tdiv y)⟩
  | .rem => some ⟨y ≠ 0, .dat (.int k) (x.tmod y)⟩
  | .and => some ⟨True, .dat (.int k) (andI k x y)⟩
  | .shr => if y = 1 then some ⟨True, .dat (.int k) (x / 2)⟩ else none
  | op => match cmpInt op x y with
    | some b => some ⟨True, .dat .bool b⟩
    | none => none

def binBool (op : BinOp) (x y : Bool) : Option PR :=
  match op with
  | .eql => some ⟨True, .dat .bool (x == y)⟩
  | .neq => some ⟨True, .dat .bool (x != y)⟩
  | _ => none

def binStr (op : BinOp) (x y : ByteArray) : Option PR :=
  match op with
  | .add => some ⟨x.size + y.size ≤ 9223372036854775807, .dat .str (x ++ y)⟩
  | .eql => some ⟨True, .dat .bool (x.toList == y.toList)⟩
  | .neq => some ⟨True, .dat .bool (!(x.toList == y.toList))⟩
  | .lss => some ⟨True, .dat .bool (Op.bytesLess x.toList y.toList)⟩
  | _ => none

def binAV (te : Option TE) (op : BinOp) (x y : AV) : Option PR :=
  match x, y with
  | .dat (.int k) x, .dat (.int k') y => if k = k' then binInt op k x y else none
  | .dat .bool x, .dat .bool y => match te with | some (.basic .bool) => binBool op x y | _ => none
  | .dat .str x, .dat .str y => binStr op x y
  | .dat (.prod (.int ka) (.int kb)) x, .dat (.prod (.int ka') (.int kb')) y => match te with
    | some (.struct [.int ja, .int jb]) => if ka = ja ∧ kb = jb ∧ ka' = ja ∧ kb' = jb then (match op with
      | .eql => some ⟨True, .dat .bool (decide (x.1 = y.1 ∧ x.2 = y.2))⟩
      | .neq => some ⟨True, .dat .bool (!decide (x.1 = y.1 ∧ x.2 = y.2))⟩
      | _ => none) else none
    | _ => none
  | _, _ => none

theorem binInt_ok {P : Program} {w : World} {S : Nat → Prop} {pl : Nat → PL} {op : BinOp} {T : Nat} {x y : Operand} {k : IntKind} {m n : Int} {pr : PR} (h : binInt op k m n = some pr) (hp : pr.pre) :
    ∃ v, (∀ w', (do eqGuard op T x y (.int k m) (.int k n); binOp op T (.int k m) (.int k n)).run P w' = .ok v w') ∧ (∀ rts, AVR w S rts pl pr.av v) ∧ ∀ i, pr.av.lt i := by
  have hg : ∀ w', (eqGuard op T x y (.int k m) (.int k n)).run P w' = .ok () w' := by
    intro w'; unfold eqGuard; cases op <;> rfl
  have hl : ∀ (t : Ty) (z : t.den) i, (AV.dat t z).lt i := fun t z i r hr => by simp [AV.ids] at hr
  cases op
  case shr =>
    simp only [binInt] at h
    split at h
    · rename_i hn
      cases h
      subst hn
      refine ⟨.int k (m / 2), fun w' => ?_, fun rts => AVR.mkInt _ _ _, hl _ _⟩
      simp only [binOp_shr, Sem.run_bind, hg, Result.andThen_ok]
      rw [shift_shr _ _ _ _ (by decide) (by cases k <;> decide)]
      rfl
    · cases h
  all_goals simp only [binInt, cmpInt, Option.some.injEq, reduceCtorEq] at h
  all_goals cases h
  case add => exact ⟨_, fun w' => by simp [hg, binOp, Op.intArith]; exact inR_wrap hp, fun rts => AVR.mkInt _ _ _, hl _ _⟩
  case sub => exact ⟨_, fun w' => by simp [hg, binOp, Op.intArith]; exact inR_wrap hp, fun rts => AVR.mkInt _ _ _, hl _ _⟩
  case mul => exact ⟨_, fun w' => by simp [hg, binOp, Op.intArith]; exact inR_wrap hp, fun rts => AVR.mkInt _ _ _, hl _ _⟩
  case quo => exact ⟨_, fun w' => by simp [hg, binOp, Op.intDiv, hp.1]; exact inR_wrap hp.2, fun rts => AVR.mkInt _ _ _, hl _ _⟩
  case rem =>
    have hp' : n ≠ 0 := hp
    exact ⟨_, fun w' => by simp [hg, binOp, Op.intDiv, hp'] <;> rfl, fun rts => AVR.mkInt _ _ _, hl _ _⟩
  case and => exact ⟨_, fun w' => by simp [hg, binOp, Op.intBits] <;> rfl, fun rts => AVR.mkInt _ _ _, hl _ _⟩
  case eql => exact ⟨_, fun w' => by simp [hg, binOp, Op.intCmp] <;> rfl, fun rts => AVR.mkBool _ _, hl _ _⟩
  case neq => exact ⟨_, fun w' => by simp [hg, binOp, Op.intCmp] <;> rfl, fun rts => AVR.mkBool _ _, hl _ _⟩
  case lss => exact ⟨_, fun w' => by simp [hg, binOp, Op.intCmp] <;> rfl, fun rts => AVR.mkBool _ _, hl _ _⟩
  case leq => exact ⟨_, fun w' => by simp [hg, binOp, Op.intCmp] <;> rfl, fun rts => AVR.mkBool _ _, hl _ _⟩
  case gtr => exact ⟨_, fun w' => by simp [hg, binOp, Op.intCmp] <;> rfl, fun rts => AVR.mkBool _ _, hl _ _⟩
  case geq => exact ⟨_, fun w' => by simp [hg, binOp, Op.intCmp] <;> rfl, fun rts => AVR.mkBool _ _, hl _ _⟩

end Fer

namespace Fer
open Go

structure PF where
  pre : Prop
  fact : Prop
  av : AV

def PF.of (c : Prop) (av : AV) : PF := ⟨c, True, av⟩
def PR.pf (r : PR) : PF := ⟨r.pre, True, r.av⟩

def idxRO (te : Option TE) (e : Nat) (t : Ty) (l : List t.den) (i : Int) : Option PF :=
  match te with
  | some (.slice e' t' _) => if e = e' ∧ t = t' then some (PF.of (0 ≤ i ∧ i < l.length) (.rptr t (l.getD i.toNat t.dflt))) else none
  | _ => none

def idxRef (te : Option TE) (rt : Option RT) (r : Nat) (p : List Nat) (i : Int) : Option PF :=
  match te, rt with
  | some (.slice e t _), some rt =>
    if (rt.at p).t = .list e t ∧ hclear p rt.h = true then
      some (PF.of (0 ≤ i ∧ i < (rt.at p).len ∧ okS p rt.ty rt.x (rt.k + 1) ∧ 0 < dep p rt.ty (rt.k + 1)) (.ptr r (p ++ [i.toNat])))
    else none
  | _, _ => none

def idxSub (te : Option TE) (rt : Option RT) (r : Nat) (p : List Nat) (lo hi : Nat) (i : Int) : Option PF :=
  match te, rt with
  | some (.slice e t _), some rt =>
    if (rt.at p).t = .list e t ∧ hclear p rt.h = true then
      some (PF.of (0 ≤ i ∧ i < ((hi - lo : Nat) : Int) ∧ okS p rt.ty rt.x (rt.k + 1) ∧ 0 < dep p rt.ty (rt.k + 1)) (.ptr r (p ++ [lo + i.toNat])))
    else none
  | _, _ => none

def idxArr (T : Nat) (te : Option TE) (rt : Option RT) (r : Nat) (i : Int) : Option PF :=
  match te, rt with
  | some (.arr n _ t), some rt =>
    if rt.e = T ∧ rt.t = t ∧ hclear [] rt.h = true then some (PF.of (0 ≤ i ∧ i < (n : Int) ∧ i.toNat < rt.x.length) (.ptr r [i.toNat])) else none
  | _, _ => none

def idxPair (t : Ty) (s : XS) (x : AV) (i : Int) : Option PF :=
  match x with
  | .rptr (.prod a b) v => if a = t ∧ b = t then (if i = 0 then some (PF.of True (.rptr a v.1)) else if i = 1 then some (PF.of True (.rptr b v.2)) else none) else none
  | .ptr r (j :: p) => match s.root r with
    | some rt => if (rt.at (j :: p)).t = .prod t t ∧ hclear (j :: p) rt.h = true then
        (if i = 0 then some (PF.of (okS (j :: p) rt.ty rt.x (rt.k + 1)) (.ptr r (j :: p ++ [0]))) else if i = 1 then some (PF.of (okS (j :: p) rt.ty rt.x (rt.k + 1)) (.ptr r (j :: p ++ [1]))) else none) else none
    | none => none
  | _ => none

def fldP : Nat → Nat → List Nat
  | 0, _ => []
  | _ + 1, 0 => [0]
  | n + 1, j + 1 => 1 :: fldP n j

def fldO : List Ty → Nat → Nat
  | t :: ts, j + 1 => t.width + fldO ts j
  | _, _ => 0

def fldR : Nat → Nat → (u : Ty) → u.den → Option TV
  | 0, 0, u, x => some ⟨u, x⟩
  | _ + 1, 0, .prod a _, x => some ⟨a, x.1⟩
  | n + 1, j + 1, .prod _ b, x => fldR n j b x.2
  | _, _, _, _ => none

def fldAV (te : Option TE) (s : XS) (j : Nat) (x : AV) : Option PF :=
  match te, x with
  | some (.struct ts), .rptr u v => if u = prodOf ts ∧ j < ts.length then (fldR (ts.length - 1) j u v).map fun y => PF.of True (.rptr y.t y.x) else none
  | some (.struct ts), .ptr r (i :: p) => match s.root r with
    | some rt => if (rt.at (i :: p)).t = prodOf ts ∧ hclear (p ++ fldP (ts.length - 1) j) rt.h = true ∧ j < ts.length then some (PF.of (okS (i :: p) rt.ty rt.x (rt.k + 1)) (.ptr r (i :: p ++ fldP (ts.length - 1) j))) else none
    | none => none
  | _, _ => none

def idxAV (tt : List (Nat × TE)) (s : XS) (T : Nat) (x ix : AV) : Option PF :=
  match ix with
  | .dat (.int _) i =>
    match lk tt T with
    | some (.pair _ t) => idxPair t s x i
    | _ =>
    match x with
    | .dat (.list e t) l => idxRO (lk tt T) e t l i
    | .ref r p => idxRef (lk tt T) (s.root r) r p i
    | .sub r p lo hi => idxSub (lk tt T) (s.root r) r p lo hi i
    | .ptr r [0] => idxArr T (lk tt T) (s.root r) r i
    | _ => none
  | _ => none

section
variable {P : Program} {tt : List (Nat × TE)} {w0 : World} {S0 : Nat → Prop} {N : Nat} {dr : Bool} {pc : Pins} {s : XS} {a : Act} {w : World} {S : Nat → Prop} {pl : Nat → PL}

theorem add_block (b o n : Nat) : (⟨b, o, none⟩ : Addr).add n = ⟨b, o + n, none⟩ := by
  unfold Addr.add; split <;> simp_all

theorem RelAt.node (R : RelAt w0 S0 N dr pc s a w S pl) {r : Nat} {rt : RT} (hr : s.root r = some rt) {p : List Nat} (hok : okS p rt.ty rt.x (rt.k + 1)) (hc : hclear p rt.h = true)
    {e : Nat} {t : Ty} (ht : (rt.at p).t = .list e t) (hd : 0 < dep p rt.ty (rt.k + 1)) :
    (rt.at p).len ≤ maxLen ∧ ((rt.at p).len = 0 ∨ ∃ b cap kids, atCT p rt.ty (pl r).ct = .node b cap kids ∧ (pl r).F b ∧ (rt.at p).len ≤ cap ∧
      ∃ arr, w.heap[b]? = some (.cells arr e (0, 0)) ∧ arr.size = cap * t.width) := by
  obtain ⟨hv, H⟩ := R.own r rt hr
  have main : ∃ cs' F' h', Own w S (rt.at p).t (dep p rt.ty (rt.k + 1)) (rt.at p).x h' (atCT p rt.ty (pl r).ct) cs' F' ∧ (∀ n, F' n → (pl r).F n) ∧ h' ≠ some [] := by
    cases p with
    | nil =>
      refine ⟨[hv], (pl r).F, rt.h, H, fun _ h => h, ?_⟩
      intro e; rw [e] at hc; simp [hclear] at hc
    | cons i p =>
      obtain ⟨cs', F', h', _, e2, e3, e4, _⟩ := nodeAt (i :: p) rt.ty (rt.k + 1) rt.x rt.h (pl r).ct [hv] (pl r).F 0 0 H hok hc (.inl ⟨_, _, _, _, rfl, rfl⟩)
      exact ⟨cs', F', h', e2, e3, e4⟩
  obtain ⟨cs', F', h', H', hF, hh⟩ := main
  generalize rt.at p = tv at *
  obtain ⟨tt', x⟩ := tv
  subst ht
  obtain ⟨k, hk⟩ : ∃ k, dep p rt.ty (rt.k + 1) = k + 1 := ⟨_, (Nat.succ_pred_eq_of_pos hd).symm⟩
  rw [hk] at H'
  rcases H' with H' | ⟨_, H'⟩
  · exact absurd H'.1 hh
  · generalize atCT p rt.ty (pl r).ct = c at *
    cases c with
    | nil => obtain ⟨rfl, _⟩ := H'; exact ⟨Nat.zero_le _, .inl rfl⟩
    | leaf => exact H'.elim
    | pair => exact H'.elim
    | node b cap kids =>
      obtain ⟨h1, h2, h3, arr, h4, h5, Fs, g1, g2, g3, g4⟩ := H'
      exact ⟨Nat.le_trans h2 h3, .inr ⟨b, cap, kids, rfl, hF b ((g1 b).2 (.inl rfl)), h2, arr, h4, h5⟩⟩

theorem addr_snoc : ∀ (p : List Nat) (t : Ty) (x : t.den) (ct : CT) (base : Nat × Nat) (i b cap : Nat) (kids : Nat → CT) (e : Nat) (t' : Ty),
    atCT p t ct = .node b cap kids → (getS p t x).t = .list e t' → addrOf (p ++ [i]) t ct base = (b, i * t'.width)
  | [], t, x, ct, base, i, b, cap, kids, e, t', h, ht => by
    simp only [getS] at ht; subst ht
    simp only [atCT] at h; subst h
    rfl
  | j :: p, .list e0 t, x, ct, base, i, b, cap, kids, e, t', h, ht => by
    cases ct with
    | node b0 cap0 kids0 => exact addr_snoc p t _ _ _ i b cap kids e t' h ht
    | leaf => simp [atCT] at h
    | nil => simp [atCT] at h
    | pair => simp [atCT] at h
  | 0 :: p, .prod u v, x, ct, base, i, b, cap, kids, e, t', h, ht => by
    cases ct with
    | pair c d => exact addr_snoc p u _ _ _ i b cap kids e t' h ht
    | leaf => simp [atCT] at h
    | nil => simp [atCT] at h
    | node => simp [atCT] at h
  | 1 :: p, .prod u v, x, ct, base, i, b, cap, kids, e, t', h, ht => by
    cases ct with
    | pair c d => exact addr_snoc p v _ _ _ i b cap kids e t' h ht
    | leaf => simp [atCT] at h
    | nil => simp [atCT] at h
    | node => simp [atCT] at h
  | (_ + 2) :: _, .prod _ _, _, _, _, _, _, _, _, _, _, h, _ => by simp [atCT] at h
  | _ :: _, .int _, _, _, _, _, _, _, _, _, _, h, _ => by simp [atCT] at h
  | _ :: _, .bool, _, _, _, _, _, _, _, _, _, h, _ => by simp [atCT] at h
  | _ :: _, .str, _, _, _, _, _, _, _, _, _, h, _ => by simp [atCT] at h
  | _ :: _, .raw, _, _, _, _, _, _, _, _, _, h, _ => by simp [atCT] at h
  | _ :: _, .fn _ _, _, _, _, _, _, _, _, _, _, h, _ => by simp [atCT] at h
  | _ :: _, .row _ _, _, _, _, _, _, _, _, _, _, h, _ => by simp [atCT] at h
  | _ :: _, .ro _ _, _, _, _, _, _, _, _, _, _, h, _ => by simp [atCT] at h
  | _ :: _, .func, _, _, _, _, _, _, _, _, _, h, _ => by simp [atCT] at h

theorem slice_te {i e : Nat} {t : Ty} {b : Nat} (h : teB P i (.slice e t b) = true) :
    P.underlying i = some (.slice e) ∧ Info P e t ∧ (∃ inf, P.info? e = some inf ∧ inf.size = t.width ∧ inf.bytes = b) ∧ aggB P e = t.isProd ∧ Info P i (.list e t) := by
  simp only [teB, Bool.and_eq_true, beq_iff_eq] at h
  obtain ⟨⟨⟨⟨h1, h2⟩, h3⟩, h4⟩, h5⟩ := h
  refine ⟨?_, infoB_ok h1, ?_, h3, infoB_ok h5⟩
  · split at h2
    · rename_i e' he; simp at h2; subst h2; exact he
    · cases h2
  · obtain ⟨inf, z, h6, h7, _⟩ := (infoB_ok h1).info
    refine ⟨inf, h6, h7, ?_⟩
    rw [h6] at h4
    simpa using h4

theorem arr_te {i n e : Nat} {t : Ty} (h : teB P i (.arr n e t) = true) :
    P.underlying i = some (.array n e) ∧ (∃ inf, P.info? e = some inf ∧ inf.size = t.width) ∧ aggB P e = t.isProd := by
  simp only [teB, Bool.and_eq_true, beq_iff_eq] at h
  obtain ⟨⟨⟨h1, h2⟩, h3⟩, h4⟩ := h
  refine ⟨?_, ?_, h3⟩
  · split at h2
    · rename_i n' e' he; simp at h2; obtain ⟨rfl, rfl⟩ := h2; exact he
    · cases h2
  · obtain ⟨inf, z, h6, h7, _⟩ := (infoB_ok h1).info
    exact ⟨inf, h6, h7⟩

theorem pair_te {i e : Nat} {t : Ty} (h : teB P i (.pair e t) = true) :
    P.underlying i = some (.array 2 e) ∧ (∃ inf, P.info? e = some inf ∧ inf.size = t.width) ∧ t.width = 1 ∧ infoB P i (.prod t t) = true := by
  simp only [teB, Bool.and_eq_true, beq_iff_eq, decide_eq_true_eq] at h
  obtain ⟨⟨⟨⟨h1, h2⟩, h3⟩, h4⟩, h5⟩ := h
  refine ⟨?_, ?_, h4, h5⟩
  · split at h2
    · rename_i n' e' he; simp at h2; obtain ⟨rfl, rfl⟩ := h2; exact he
    · cases h2
  · obtain ⟨inf, z, h6, h7, _⟩ := (infoB_ok h1).info
    exact ⟨inf, h6, h7⟩

theorem run_indexAt_in {T e : Nat} (hT : P.underlying T = some (.slice e)) {inf : TypeInfo} (hi : P.info? e = some inf) (b o len cap : Nat) (k : IntKind) (i : Int) (h0 : 0 ≤ i) (h1 : i < len) (w' : World) :
    (Instr.indexAt T (.slice (some ⟨b, o, none⟩) len cap) (.int k i)).run P w' = .ok (.pointer (some ⟨b, o + i.toNat * inf.size, none⟩)) w' := by
  simp [Instr.indexAt, asIntOf, run_underlying hT, Go.sizeOf, typeInfo, hi, h0, h1, add_block]

theorem run_indexAt_arr {T e n : Nat} (hT : P.underlying T = some (.array n e)) {inf : TypeInfo} (hi : P.info? e = some inf) (b o : Nat) (k : IntKind) (i : Int) (h0 : 0 ≤ i) (h1 : i < n) (w' : World) :
    (Instr.indexAt T (.pointer (some ⟨b, o, none⟩)) (.int k i)).run P w' = .ok (.pointer (some ⟨b, o + i.toNat * inf.size, none⟩)) w' := by
  simp [Instr.indexAt, asIntOf, run_underlying hT, Go.sizeOf, typeInfo, hi, h0, h1, add_block, Instr.sureAddr]

def PFok (w : World) (S : Nat → Prop) (s : XS) (pl : Nat → PL) (pf : PF) (run : World → Result Value) : Prop :=
  pf.pre → ∃ v, (∀ w', run w' = .ok v w') ∧ AVR w S s.rts pl pf.av v ∧ pf.av.lt s.nxt ∧ pf.fact

theorem AV.lt_dat {t : Ty} {x : t.den} {n : Nat} : (AV.dat t x).lt n := fun r hr => by simp [AV.ids] at hr
theorem AV.lt_ptr {r : Nat} {p : List Nat} {n : Nat} (h : r < n) : (AV.ptr r p).lt n := fun r' hr' => by simp [AV.ids] at hr'; omega
theorem AV.lt_ref {r : Nat} {p : List Nat} {n : Nat} (h : r < n) : (AV.ref r p).lt n := fun r' hr' => by simp [AV.ids] at hr'; omega
theorem AV.lt_sub {r lo hi : Nat} {p : List Nat} {n : Nat} (h : r < n) : (AV.sub r p lo hi).lt n := fun r' hr' => by simp [AV.ids] at hr'; omega
theorem AV.lt_rptr {t : Ty} {x : t.den} {n : Nat} : (AV.rptr t x).lt n := fun r hr => by simp [AV.ids] at hr

theorem addr_snoc_prod : ∀ (p : List Nat) (t : Ty) (x : t.den) (ct : CT) (base : Nat × Nat) (a b : Ty) (c d : CT), atCT p t ct = .pair c d → (getS p t x).t = .prod a b →
    addrOf (p ++ [0]) t ct base = addrOf p t ct base ∧ addrOf (p ++ [1]) t ct base = ((addrOf p t ct base).1, (addrOf p t ct base).2 + a.width)
  | [], t, x, ct, base, a, b, c, d, h, ht => by
    simp only [getS] at ht; subst ht
    simp only [atCT] at h; subst h
    exact ⟨rfl, rfl⟩
  | j :: p, .list e0 t, x, ct, base, a, b, c, d, h, ht => by
    cases ct with
    | node b0 cap0 kids0 => exact addr_snoc_prod p t _ _ _ a b c d h ht
    | leaf => simp [atCT] at h
    | nil => simp [atCT] at h
    | pair => simp [atCT] at h
  | 0 :: p, .prod u v, x, ct, base, a, b, c, d, h, ht => by
    cases ct with
    | pair c0 d0 => exact addr_snoc_prod p u _ _ _ a b c d h ht
    | leaf => simp [atCT] at h
    | nil => simp [atCT] at h
    | node => simp [atCT] at h
  | 1 :: p, .prod u v, x, ct, base, a, b, c, d, h, ht => by
    cases ct with
    | pair c0 d0 => exact addr_snoc_prod p v _ _ _ a b c d h ht
    | leaf => simp [atCT] at h
    | nil => simp [atCT] at h
    | node => simp [atCT] at h
  | (_ + 2) :: _, .prod _ _, _, _, _, _, _, _, _, h, _ => by simp [atCT] at h
  | _ :: _, .int _, _, _, _, _, _, _, _, h, _ => by simp [atCT] at h
  | _ :: _, .bool, _, _, _, _, _, _, _, h, _ => by simp [atCT] at h
  | _ :: _, .str, _, _, _, _, _, _, _, h, _ => by simp [atCT] at h
  | _ :: _, .raw, _, _, _, _, _, _, _, h, _ => by simp [atCT] at h
  | _ :: _, .fn _ _, _, _, _, _, _, _, _, h, _ => by simp [atCT] at h
  | _ :: _, .row _ _, _, _, _, _, _, _, _, h, _ => by simp [atCT] at h
  | _ :: _, .ro _ _, _, _, _, _, _, _, _, h, _ => by simp [atCT] at h
  | _ :: _, .func, _, _, _, _, _, _, _, h, _ => by simp [atCT] at h

theorem RelAt.nodeP (R : RelAt w0 S0 N dr pc s a w S pl) {r : Nat} {rt : RT} (hr : s.root r = some rt) {i : Nat} {p : List Nat} (hok : okS (i :: p) rt.ty rt.x (rt.k + 1)) (hc : hclear (i :: p) rt.h = true)
    {u v : Ty} (ht : (rt.at (i :: p)).t = .prod u v) : ∃ c d, atCT (i :: p) rt.ty (pl r).ct = .pair c d := by
  obtain ⟨hv, H⟩ := R.own r rt hr
  obtain ⟨cs', F', h', _, H', e3, hh, _⟩ := nodeAt (i :: p) rt.ty (rt.k + 1) rt.x rt.h (pl r).ct [hv] (pl r).F 0 0 H hok hc (.inl ⟨_, _, _, _, rfl, rfl⟩)
  have ht' : (getS (i :: p) rt.ty rt.x).t = .prod u v := ht
  generalize getS (i :: p) rt.ty rt.x = tv at *
  obtain ⟨tt', x⟩ := tv
  subst ht'
  rcases H' with H' | ⟨_, H'⟩
  · exact absurd H'.1 hh
  · generalize atCT (i :: p) rt.ty (pl r).ct = c at *
    cases c with
    | pair c d => exact ⟨c, d, rfl⟩
    | nil => exact H'.elim
    | leaf => exact H'.elim
    | node => exact H'.elim

theorem idxPair_ok (htt : ttB P tt = true) (R : RelAt w0 S0 N dr pc s a w S pl) {T e : Nat} {t : Ty} (hte : lk tt T = some (.pair e t)) {x : AV} {vx : Value} {k : IntKind} {i : Int} {pf : PF}
    (h : idxPair t s x i = some pf) (hx : AVR w S s.rts pl x vx ∧ x.lt s.nxt) : PFok w S s pl pf (fun w' => (Instr.indexAt T vx (.int k i)).run P w') := by
  obtain ⟨hu, ⟨inf, hinf, hsz⟩, hw1, _⟩ := pair_te (ttB_get htt hte)
  unfold idxPair at h
  split at h
  · rename_i u v x
    split at h
    · rename_i he
      obtain ⟨rfl, rfl⟩ := he
      obtain ⟨b, o, arr, E, fr, rfl, q1, q2, q3, q4⟩ := hx.1
      obtain ⟨c1, c2, e1, r1, r2⟩ := q4
      have l1 := RO.length r1
      have l2 := RO.length r2
      simp only [Ty.width] at q3 e1
      have k1 : cellsAt arr o v.width = c1 := by
        have : (cellsAt arr o (v.width + v.width)).take v.width = c1 := by rw [e1, ← l1, List.take_left]
        rw [← this]
        unfold cellsAt
        rw [List.take_take]
        congr 1
        omega
      have k2 : cellsAt arr (o + v.width) v.width = c2 := by
        have : (cellsAt arr o (v.width + v.width)).drop v.width = c2 := by rw [e1, ← l1, List.drop_left]
        rw [← this]
        unfold cellsAt
        rw [List.drop_take, List.drop_drop, Nat.add_sub_cancel]
      split at h
      · rename_i hi0
        cases h
        intro _
        subst hi0
        refine ⟨_, fun w' => run_indexAt_arr hu hinf b o k 0 (by omega) (by decide) w', ⟨b, _, arr, E, fr, rfl, q1, q2, ?_, ?_⟩, AV.lt_rptr, trivial⟩
        · simp only [Int.toNat_zero, Nat.zero_mul, Nat.add_zero]; omega
        · simp only [Int.toNat_zero, Nat.zero_mul, Nat.add_zero]; rw [k1]; exact r1
      · split at h
        · rename_i hi1
          cases h
          intro _
          subst hi1
          refine ⟨_, fun w' => run_indexAt_arr hu hinf b o k 1 (by omega) (by decide) w', ⟨b, _, arr, E, fr, rfl, q1, q2, ?_, ?_⟩, AV.lt_rptr, trivial⟩
          · rw [hsz]; simp only [Int.toNat_one, Nat.one_mul]; omega
          · rw [hsz]; simp only [Int.toNat_one, Nat.one_mul]; rw [k2]; exact r2
        · cases h
    · cases h
  · rename_i r j p
    split at h
    · rename_i rt hr
      split at h
      · rename_i hc
        have hv : vx = addrP (pl r) rt (j :: p) := hx.1 rt hr
        subst hv
        have key : okS (j :: p) rt.ty rt.x (rt.k + 1) → addrOf (j :: p ++ [0]) rt.ty (pl r).ct (0, 0) = addrOf (j :: p) rt.ty (pl r).ct (0, 0) ∧ addrOf (j :: p ++ [1]) rt.ty (pl r).ct (0, 0) = ((addrOf (j :: p) rt.ty (pl r).ct (0, 0)).1, (addrOf (j :: p) rt.ty (pl r).ct (0, 0)).2 + t.width) := fun hok => by
          obtain ⟨c, d, hcd⟩ := R.nodeP hr hok hc.2 hc.1
          exact addr_snoc_prod (j :: p) rt.ty rt.x (pl r).ct (0, 0) t t c d hcd hc.1
        split at h
        · rename_i hi0
          cases h
          intro hok
          subst hi0
          refine ⟨_, fun w' => run_indexAt_arr hu hinf _ _ k 0 (by omega) (by decide) w', fun rt' hrt' => ?_, AV.lt_ptr (R.ids r rt hr), trivial⟩
          have : rt' = rt := Option.some.inj (hrt'.symm.trans hr)
          subst this
          unfold addrP
          rw [(key hok).1]
          simp
        · split at h
          · rename_i hi1
            cases h
            intro hok
            subst hi1
            refine ⟨_, fun w' => run_indexAt_arr hu hinf _ _ k 1 (by omega) (by decide) w', fun rt' hrt' => ?_, AV.lt_ptr (R.ids r rt hr), trivial⟩
            have : rt' = rt := Option.some.inj (hrt'.symm.trans hr)
            subst this
            unfold addrP
            rw [(key hok).2, hsz]
            simp
          · cases h
      · cases h
    · cases h
  · cases h

theorem okS_snoc : ∀ (p : List Nat) (t : Ty) (x : t.den) (k : Nat) (a b : Ty), okS p t x k → (getS p t x).t = .prod a b → okS (p ++ [1]) t x k ∧ (getS (p ++ [1]) t x).t = b
  | [], t, x, k, a, b, h, ht => by
    simp only [getS] at ht; subst ht
    exact ⟨trivial, rfl⟩
  | j :: p, .list e0 t, x, k, a, b, h, ht => by
    obtain ⟨h1, h2⟩ := okS_snoc p t _ (k - 1) a b h.2.2 ht
    exact ⟨⟨h.1, h.2.1, h1⟩, h2⟩
  | 0 :: p, .prod u v, x, k, a, b, h, ht => okS_snoc p u x.1 k a b h ht
  | 1 :: p, .prod u v, x, k, a, b, h, ht => okS_snoc p v x.2 k a b h ht
  | (_ + 2) :: _, .prod _ _, _, _, _, _, h, _ => by simp [okS] at h
  | _ :: _, .int _, _, _, _, _, h, _ => by simp [okS] at h
  | _ :: _, .bool, _, _, _, _, h, _ => by simp [okS] at h
  | _ :: _, .str, _, _, _, _, h, _ => by simp [okS] at h
  | _ :: _, .raw, _, _, _, _, h, _ => by simp [okS] at h
  | _ :: _, .fn _ _, _, _, _, _, h, _ => by simp [okS] at h
  | _ :: _, .row _ _, _, _, _, _, h, _ => by simp [okS] at h
  | _ :: _, .ro _ _, _, _, _, _, h, _ => by simp [okS] at h
  | _ :: _, .func, _, _, _, _, h, _ => by simp [okS] at h

theorem hclear_none (p : List Nat) : hclear p none = true := by cases p <;> rfl

theorem hclear_cons {i : Nat} {p q : List Nat} {h : Option (List Nat)} (hc : hclear (p ++ q) h = true) (hq : 0 < q.length) : hclear (i :: p) h = true := by
  cases h with
  | none => rfl
  | some r => simp only [hclear, List.length_append, List.length_cons, decide_eq_true_eq] at hc ⊢; omega
theorem fldP_pos (t t' : Ty) (ts : List Ty) (j : Nat) : 0 < (fldP ((t :: t' :: ts).length - 1) j).length := by
  cases j <;> simp [fldP]

theorem fld_addr (R : RelAt w0 S0 N dr pc s a w S pl) {r : Nat} {rt : RT} (hr : s.root r = some rt) : ∀ (ts : List Ty) (i : Nat) (p : List Nat) (j : Nat), hclear (p ++ fldP (ts.length - 1) j) rt.h = true → okS (i :: p) rt.ty rt.x (rt.k + 1) → (rt.at (i :: p)).t = prodOf ts → j < ts.length →
    addrOf (i :: p ++ fldP (ts.length - 1) j) rt.ty (pl r).ct (0, 0) = ((addrOf (i :: p) rt.ty (pl r).ct (0, 0)).1, (addrOf (i :: p) rt.ty (pl r).ct (0, 0)).2 + fldO ts j)
  | [], _, _, _, _, _, _, hj => by simp at hj
  | [t], i, p, j, _, _, _, hj => by
    have : j = 0 := by simpa using hj
    subst this
    simp [fldP, fldO]
  | t :: t' :: ts, i, p, j, hh, hok, ht, hj => by
    obtain ⟨c, d, hcd⟩ := R.nodeP hr hok (hclear_cons hh (fldP_pos t t' ts j)) ht
    obtain ⟨e1, e2⟩ := addr_snoc_prod (i :: p) rt.ty rt.x (pl r).ct (0, 0) t (prodOf (t' :: ts)) c d hcd ht
    cases j with
    | zero =>
      show addrOf (i :: p ++ [0]) _ _ _ = _
      rw [e1]; rfl
    | succ j =>
      obtain ⟨k1, k2⟩ := okS_snoc (i :: p) rt.ty rt.x (rt.k + 1) t (prodOf (t' :: ts)) hok ht
      have k3 : okS (i :: (p ++ [1])) rt.ty rt.x (rt.k + 1) := by rw [← List.cons_append]; exact k1
      have k4 : (rt.at (i :: (p ++ [1]))).t = prodOf (t' :: ts) := by rw [← List.cons_append]; exact k2
      have ef : p ++ fldP ((t :: t' :: ts).length - 1) (j + 1) = p ++ [1] ++ fldP ((t' :: ts).length - 1) j := by simp [fldP]
      have := fld_addr R hr (t' :: ts) i (p ++ [1]) j (by rw [← ef]; exact hh) k3 k4 (by simpa using hj)
      have ep : i :: p ++ fldP ((t :: t' :: ts).length - 1) (j + 1) = i :: (p ++ [1]) ++ fldP ((t' :: ts).length - 1) j := by
        simp [fldP]
      have eq' : i :: (p ++ [1]) = i :: p ++ [1] := rfl
      rw [ep, this, eq', e2]
      simp only [fldO]
      rw [Nat.add_assoc]

theorem cells_split {arr : Array Value} {o m n : Nat} {c1 c2 : List Value} (h : cellsAt arr o (m + n) = c1 ++ c2) (h1 : c1.length = m) : cellsAt arr o m = c1 ∧ cellsAt arr (o + m) n = c2 := by
  constructor
  · have : (cellsAt arr o (m + n)).take m = c1 := by rw [h, ← h1, List.take_left]
    rw [← this]
    unfold cellsAt
    rw [List.take_take]
    congr 1
    omega
  · have : (cellsAt arr o (m + n)).drop m = c2 := by rw [h, ← h1, List.drop_left]
    rw [← this]
    unfold cellsAt
    rw [List.drop_take, List.drop_drop, Nat.add_sub_cancel_left]

theorem fld_ro {arr : Array Value} : ∀ (ts : List Ty) (j o : Nat) (v : (prodOf ts).den) (y : TV), ts ≠ [] → fldR (ts.length - 1) j (prodOf ts) v = some y → RO w S (prodOf ts) v (cellsAt arr o (prodOf ts).width) →
    RO w S y.t y.x (cellsAt arr (o + fldO ts j) y.t.width) ∧ fldO ts j + y.t.width ≤ (prodOf ts).width
  | [], _, _, _, _, h, _, _ => absurd rfl h
  | [t], j, o, v, y, _, h, H => by
    cases j with
    | zero =>
      simp only [List.length_singleton, Nat.sub_self, fldR, Option.some.injEq] at h
      subst h
      exact ⟨H, by simp [fldO, prodOf]⟩
    | succ j => simp [fldR] at h
  | t :: t' :: ts, j, o, v, y, _, h, H => by
    obtain ⟨c1, c2, e, r1, r2⟩ := H
    have e' : cellsAt arr o (t.width + (prodOf (t' :: ts)).width) = c1 ++ c2 := e
    obtain ⟨k1, k2⟩ := cells_split e' r1.length
    cases j with
    | zero =>
      have h : some (⟨t, v.1⟩ : TV) = some y := h
      cases h
      refine ⟨?_, ?_⟩
      · simp only [fldO, Nat.add_zero]
        rw [k1]; exact r1
      · simp [fldO, prodOf, Ty.width]
    | succ j =>
      have h : fldR ((t' :: ts).length - 1) j (prodOf (t' :: ts)) v.2 = some y := h
      rw [← k2] at r2
      obtain ⟨q1, q2⟩ := fld_ro (t' :: ts) j (o + t.width) v.2 y (by simp) h r2
      refine ⟨?_, ?_⟩
      · simp only [fldO]
        rw [← Nat.add_assoc]
        exact q1
      · simp only [fldO, prodOf, Ty.width]
        omega

theorem fields_get : ∀ (fs : List Field) (ts : List Ty) (o j : Nat), fieldsB P fs ts o = true → j < ts.length → ∃ f inf, fs[j]? = some f ∧ f.offset = o + fldO ts j ∧ P.info? f.type = some inf ∧ inf.size ≠ 0
  | [], [], _, _, _, hj => by simp at hj
  | f :: fs, t :: ts, o, 0, h, _ => by
    simp only [fieldsB, Bool.and_eq_true, beq_iff_eq] at h
    obtain ⟨⟨⟨h1, h2⟩, _⟩, _⟩ := h
    split at h2
    · rename_i inf hi
      have := t.width_pos
      have h2 : inf.size = t.width := by simpa using h2
      exact ⟨f, inf, rfl, by simp [fldO, h1], hi, by omega⟩
    · cases h2
  | f :: fs, t :: ts, o, j + 1, h, hj => by
    simp only [fieldsB, Bool.and_eq_true, beq_iff_eq] at h
    obtain ⟨f', inf, h1, h2, h3, h4⟩ := fields_get fs ts (o + t.width) j h.2 (by simpa using hj)
    exact ⟨f', inf, by simpa using h1, by simp only [fldO]; omega, h3, h4⟩
  | [], _ :: _, _, _, h, _ => by simp [fieldsB] at h
  | _ :: _, [], _, _, h, _ => by simp [fieldsB] at h

theorem run_fieldAt {T : Nat} {fs : Array Field} (hT : P.underlying T = some (.struct fs)) {j : Nat} {f : Field} (hf : fs[j]? = some f) {inf : TypeInfo} (hi : P.info? f.type = some inf) (h0 : inf.size ≠ 0) (b o : Nat) (w' : World) :
    (Instr.fieldAt T (.pointer (some ⟨b, o, none⟩)) j).run P w' = .ok (.pointer (some ⟨b, o + f.offset, none⟩)) w' := by
  simp [Instr.fieldAt, run_underlying hT, hf, Instr.sureAddr, fieldPlace, Go.sizeOf, typeInfo, hi, h0, add_block]

theorem struct_te {i : Nat} {ts : List Ty} (h : teB P i (.struct ts) = true) : ∃ fs, P.underlying i = some (.struct fs) ∧ fieldsB P fs.toList ts 0 = true ∧ 2 ≤ ts.length := by
  simp only [teB, Bool.and_eq_true, decide_eq_true_eq] at h
  obtain ⟨⟨⟨h1, h2⟩, _⟩, _⟩ := h
  split at h2
  · rename_i fs hu; exact ⟨fs, hu, h2, h1⟩
  · cases h2

theorem fldAV_ok (htt : ttB P tt = true) (R : RelAt w0 S0 N dr pc s a w S pl) {T j : Nat} {x : AV} {vx : Value} {pf : PF}
    (h : fldAV (lk tt T) s j x = some pf) (hx : AVR w S s.rts pl x vx ∧ x.lt s.nxt) : PFok w S s pl pf (fun w' => (Instr.fieldAt T vx j).run P w') := by
  unfold fldAV at h
  split at h
  · rename_i ts u v hte
    split at h
    · rename_i hc
      obtain ⟨rfl, hj⟩ := hc
      obtain ⟨fs, hu, hfs, hl⟩ := struct_te (ttB_get htt hte)
      obtain ⟨f, inf, e1, e2, e3, e4⟩ := fields_get fs.toList ts 0 j hfs hj
      obtain ⟨b, o, arr, E, fr, rfl, q1, q2, q3, q4⟩ := hx.1
      cases hy : fldR (ts.length - 1) j (prodOf ts) v with
      | none => rw [hy] at h; cases h
      | some y =>
        rw [hy] at h
        cases h
        obtain ⟨g1, g2⟩ := fld_ro ts j o v y (by rintro rfl; simp at hl) hy q4
        intro _
        refine ⟨_, fun w' => run_fieldAt hu (by simpa using e1) e3 e4 b o w', ⟨b, _, arr, E, fr, rfl, q1, q2, ?_, ?_⟩, AV.lt_rptr, trivial⟩
        · rw [e2]; omega
        · rw [e2, Nat.zero_add]; exact g1
    · cases h
  · rename_i ts r i p hte
    split at h
    · rename_i rt hr
      split at h
      · rename_i hc
        obtain ⟨hc1, hc2, hj⟩ := hc
        cases h
        intro hok
        obtain ⟨fs, hu, hfs, hl⟩ := struct_te (ttB_get htt hte)
        obtain ⟨f, inf, e1, e2, e3, e4⟩ := fields_get fs.toList ts 0 j hfs hj
        have hv : vx = addrP (pl r) rt (i :: p) := hx.1 rt hr
        subst hv
        refine ⟨_, fun w' => run_fieldAt hu (by simpa using e1) e3 e4 _ _ w', fun rt' hrt' => ?_, AV.lt_ptr (R.ids r rt hr), trivial⟩
        have : rt' = rt := Option.some.inj (hrt'.symm.trans hr)
        subst this
        unfold addrP
        rw [fld_addr R hr ts i p j hc2 hok hc1 hj, e2]
        simp
      · cases h
    · cases h
  · cases h

theorem idxAV_ok (htt : ttB P tt = true) (R : RelAt w0 S0 N dr pc s a w S pl) {T : Nat} {x ix : AV} {vx vi : Value} {pf : PF}
    (h : idxAV tt s T x ix = some pf) (hx : AVR w S s.rts pl x vx ∧ x.lt s.nxt) (hi : AVR w S s.rts pl ix vi ∧ ix.lt s.nxt) :
    PFok w S s pl pf (fun w' => (Instr.indexAt T vx vi).run P w') := by
  unfold idxAV at h
  split at h
  · rename_i k i
    have hvi := hi.1.int
    subst hvi
    split at h
    · rename_i e t hte
      exact idxPair_ok htt R hte h hx
    split at h
    · -- read-only
      rename_i e t l
      unfold idxRO at h
      split at h
      · rename_i e' t' b hte
        split at h
        · rename_i he
          obtain ⟨rfl, rfl⟩ := he
          cases h
          intro hpre
          obtain ⟨h0, h1⟩ := hpre
          obtain ⟨hu, _, ⟨inf, hinf, hsz, _⟩, _⟩ := slice_te (ttB_get htt hte)
          obtain ⟨ad, cap, rfl, hro, hlc, hcm⟩ := hx.1.list
          obtain ⟨ad', cap', e1, e2, e3, e4⟩ := hro
          simp only [List.cons.injEq, Value.slice.injEq, and_true] at e1
          obtain ⟨rfl, _, rfl⟩ := e1
          have hne : l ≠ [] := by rintro rfl; simp at h1; omega
          obtain ⟨bb, off, arr, E, fr, rfl, q1, q2, q3, q4⟩ := e4 hne
          have hil : i.toNat < l.length := by omega
          refine ⟨_, fun w' => run_indexAt_in hu hinf bb off l.length cap k i h0 h1 w', ⟨bb, _, arr, E, fr, rfl, q1, q2, ?_, ?_⟩, AV.lt_rptr, trivial⟩
          · rw [hsz]
            have := Nat.mul_le_mul_right t.width (show i.toNat + 1 ≤ l.length by omega)
            rw [Nat.succ_mul] at this
            omega
          · rw [hsz]; exact q4 _ hil
        · cases h
      · cases h
    · -- an owned slice
      rename_i r p
      unfold idxRef at h
      split at h
      · rename_i e t b rt hte hrt
        split at h
        · rename_i hc
          cases h
          intro hpre
          obtain ⟨h0, h1, h2, h3⟩ := hpre
          obtain ⟨hu, _, ⟨inf, hinf, hsz, _⟩, _⟩ := slice_te (ttB_get htt hte)
          have hv := hx.1 rt hrt
          subst hv
          obtain ⟨_, hn⟩ := R.node hrt h2 hc.2 hc.1 h3
          rcases hn with hn | ⟨bb, cap, kids, hct, _, _, _⟩
          · omega
          · have ha := addr_snoc p rt.ty rt.x (pl r).ct (0, 0) i.toNat bb cap kids e t hct hc.1
            rw [hct]
            refine ⟨_, fun w' => run_indexAt_in hu hinf bb 0 _ cap k i h0 h1 w', fun rt' hrt' => ?_, AV.lt_ptr (R.ids r rt hrt), trivial⟩
            have : rt' = rt := Option.some.inj (hrt'.symm.trans hrt)
            subst this
            unfold addrP
            rw [ha, hsz, Nat.zero_add]
        · cases h
      · cases h
    · -- part of one
      rename_i r p lo hi'
      unfold idxSub at h
      split at h
      · rename_i e t b rt hte hrt
        split at h
        · rename_i hc
          cases h
          intro hpre
          obtain ⟨h0, h1, h2, h3⟩ := hpre
          obtain ⟨hu, _, ⟨inf, hinf, hsz, _⟩, _⟩ := slice_te (ttB_get htt hte)
          obtain ⟨hlo, hhi, hv⟩ := hx.1 rt hrt
          obtain ⟨_, hn⟩ := R.node hrt h2 hc.2 hc.1 h3
          rcases hn with hn | ⟨bb, cap, kids, hct, _, hlen, _⟩
          · omega
          · have ha := addr_snoc p rt.ty rt.x (pl r).ct (0, 0) (lo + i.toNat) bb cap kids e t hct hc.1
            have hew : (rt.at p).ew = t.width := by unfold TV.ew; rw [hc.1]
            rw [hct, hew] at hv
            obtain ⟨ad, rfl, had⟩ := hv
            rw [had (.inl (by omega))]
            refine ⟨_, fun w' => run_indexAt_in hu hinf bb _ _ _ k i h0 h1 w', fun rt' hrt' => ?_, AV.lt_ptr (R.ids r rt hrt), trivial⟩
            have : rt' = rt := Option.some.inj (hrt'.symm.trans hrt)
            subst this
            unfold addrP
            rw [ha, hsz, Nat.add_mul]
        · cases h
      · cases h
    · -- an array's address
      rename_i r
      unfold idxArr at h
      split at h
      · rename_i n e t rt hte hrt
        split at h
        · rename_i hc
          obtain ⟨rfl, rfl, hc⟩ := hc
          cases h
          intro hpre
          obtain ⟨h0, h1, h2⟩ := hpre
          obtain ⟨hu, ⟨inf, hinf, hsz⟩, _⟩ := arr_te (ttB_get htt hte)
          have hv := hx.1 rt hrt
          subst hv
          obtain ⟨_, hn⟩ := R.node (p := []) hrt trivial hc rfl (Nat.succ_pos _)
          rcases hn with hn | ⟨bb, cap, kids, hct, _, _, _⟩
          · have : (rt.at []).len = rt.x.length := rfl
            omega
          · have hct' : (pl r).ct = .node bb cap kids := hct
            unfold addrP
            rw [hct']
            refine ⟨_, fun w' => run_indexAt_arr hu hinf bb _ k i h0 h1 w', fun rt' hrt' => ?_, AV.lt_ptr (R.ids r rt hrt), trivial⟩
            have : rt' = rt := Option.some.inj (hrt'.symm.trans hrt)
            subst this
            unfold addrP
            rw [hct', hsz]
            simp [addrOf]
        · cases h
      · cases h
    · cases h
  · cases h

end


def bnd : Option AV → Option (Option Int)
  | none => some none
  | some (.dat (.int _) i) => some (some i)
  | _ => none

def loOf : Option Int → Int | none => 0 | some i => i
def hiOf : Option Int → Nat → Int | none, n => n | some i, _ => i

def cutL {α : Type} (lo hi : Option Int) (l : List α) : List α :=
  match lo, hi with
  | none, none => l
  | some i, none => l.drop i.toNat
  | none, some j => l.take j.toNat
  | some i, some j => (l.take j.toNat).drop i.toNat

def okB (lo hi : Option Int) (n : Nat) : Prop := 0 ≤ loOf lo ∧ loOf lo ≤ hiOf hi n ∧ hiOf hi n ≤ n

theorem cutL_eq {α : Type} {lo hi : Option Int} {l : List α} (h : okB lo hi l.length) : cutL lo hi l = (l.take (hiOf hi l.length).toNat).drop (loOf lo).toNat := by
  unfold cutL
  cases lo <;> cases hi <;> simp [loOf, hiOf]

def slAV (tt : List (Nat × TE)) (s : XS) (T : Nat) (x : AV) (lo hi : Option AV) : Option PF :=
  match lk tt T with
  | some (.slice e t _) =>
    match bnd lo with
    | none => none
    | some lo =>
      match bnd hi with
      | none => none
      | some hi =>
        match x with
        | .dat (.list e' t') l => if e' = e ∧ t' = t then some (PF.of (okB lo hi l.length) (.dat (.list e' t') (cutL lo hi l))) else none
        | .ref r p =>
          match s.root r with
          | some rt => if (rt.at p).t = .list e t ∧ hclear p rt.h = true then
              some (PF.of (okB lo hi (rt.at p).len ∧ okS p rt.ty rt.x (rt.k + 1) ∧ 0 < dep p rt.ty (rt.k + 1)) (.sub r p (loOf lo).toNat (hiOf hi (rt.at p).len).toNat)) else none
          | none => none
        | .sub r p u v =>
          match s.root r with
          | some rt => if (rt.at p).t = .list e t ∧ hclear p rt.h = true then
              some (PF.of (okB lo hi (v - u) ∧ okS p rt.ty rt.x (rt.k + 1) ∧ 0 < dep p rt.ty (rt.k + 1)) (.sub r p (u + (loOf lo).toNat) (u + (hiOf hi (v - u)).toNat))) else none
          | none => none
        | _ => none
  | some (.basic .str) =>
    match bnd lo with
    | none => none
    | some lo =>
      match bnd hi with
      | none => none
      | some hi =>
        match x with
        | .dat .str z => some (PF.of (okB lo hi z.size) (.dat .str (z.extract (loOf lo).toNat (hiOf hi z.size).toNat)))
        | _ => none
  | _ => none

section
variable {P : Program} {tt : List (Nat × TE)} {w0 : World} {S0 : Nat → Prop} {N : Nat} {dr : Bool} {pc : Pins} {s : XS} {a : Act} {w : World} {S : Nat → Prop} {pl : Nat → PL}

def optEv (s : XS) : Option Operand → Option AV → Prop
  | none, none => True
  | some x, some v => s.ev x = some v
  | _, _ => False

def optInt : Option Value → Option Int → Prop
  | none, none => True
  | some v, some i => ∃ k, v = .int k i
  | _, _ => False

theorem bnd_ok (R : RelAt w0 S0 N dr pc s a w S pl) {x : Option Operand} {av : Option AV} {b : Option Int} (hx : optEv s x av) (h : bnd av = some b) :
    optInt (x.map a.eval) b := by
  cases x with
  | none =>
    cases av with
    | none => simp [bnd] at h; subst h; trivial
    | some v => exact hx.elim
  | some x =>
    cases av with
    | none => exact hx.elim
    | some v =>
      unfold bnd at h
      split at h
      · rename_i e; cases e
      · rename_i k i e
        cases h
        cases e
        exact ⟨k, (R.ev hx).1.int⟩
      · cases h

theorem run_bounds (isSlice : Bool) (n c : Nat) (lo hi : Option Value) (l h : Option Int) (hl : optInt lo l)
    (hh : optInt hi h) (hnc : n ≤ c) (hok : okB l h n) (w' : World) :
    (Instr.sliceBounds isSlice n c lo hi none).run P w' = .ok ((loOf l).toNat, (hiOf h n).toNat, c) w' := by
  obtain ⟨h1, h2, h3⟩ := hok
  cases lo with
  | none =>
    cases l with
    | some i => exact hl.elim
    | none =>
      cases hi with
      | none =>
        cases h with
        | some j => exact hh.elim
        | none => simp [Instr.sliceBounds, loOf, hiOf]
      | some v =>
        cases h with
        | none => exact hh.elim
        | some j =>
          obtain ⟨k, rfl⟩ := hh
          simp only [loOf, hiOf] at h1 h2 h3
          have : j ≤ (c : Int) := by omega
          simp [Instr.sliceBounds, Instr.sliceBound, asIntOf, loOf, hiOf, h2, this]
  | some u =>
    cases l with
    | none => exact hl.elim
    | some i =>
      obtain ⟨ku, rfl⟩ := hl
      cases hi with
      | none =>
        cases h with
        | some j => exact hh.elim
        | none =>
          simp only [loOf, hiOf] at h1 h2 h3
          simp [Instr.sliceBounds, Instr.sliceBound, asIntOf, loOf, hiOf, h1, h2]
      | some v =>
        cases h with
        | none => exact hh.elim
        | some j =>
          obtain ⟨k, rfl⟩ := hh
          simp only [loOf, hiOf] at h1 h2 h3
          have h4 : j ≤ (c : Int) := by omega
          have h5 : 0 ≤ j := by omega
          have h6 : i ≤ ((j.toNat : Nat) : Int) := by omega
          simp [Instr.sliceBounds, Instr.sliceBound, asIntOf, loOf, hiOf, h1, h4, h5]
          omega

theorem run_sliceAt {T e : Nat} (hT : P.underlying T = some (.slice e)) {inf : TypeInfo} (hi : P.info? e = some inf) (ad : Option Addr) (n c : Nat) (lo hh : Option Value) (l h : Option Int)
    (h1 : optInt lo l)
    (h2 : optInt hh h) (hnc : n ≤ c) (hok : okB l h n) (w' : World) :
    (Instr.sliceAt T (.slice ad n c) lo hh none).run P w' =
      .ok (.slice (if c = (loOf l).toNat then ad else ad.map (·.add ((loOf l).toNat * inf.size))) ((hiOf h n).toNat - (loOf l).toNat) (c - (loOf l).toNat)) w' := by
  have hb := run_bounds (P := P) true n c lo hh l h h1 h2 hnc hok w'
  simp [Instr.sliceAt, Instr.slice, run_underlying hT, hb, Go.sizeOf, typeInfo, hi]

theorem RO.cut {e : Nat} {t : Ty} {l : List t.den} {ad : Option Addr} {c lo hi : Nat} (h : RO w S (.list e t) l [.slice ad l.length c]) (h1 : lo ≤ hi) (h2 : hi ≤ l.length) :
    RO w S (.list e t) ((l.take hi).drop lo) [.slice (if c = lo then ad else ad.map (·.add (lo * t.width))) (hi - lo) (c - lo)] := by
  obtain ⟨ad', c', e1, e2, e3, e4⟩ := h
  simp only [List.cons.injEq, Value.slice.injEq, and_true] at e1
  obtain ⟨rfl, _, rfl⟩ := e1
  have hlen : ((l.take hi).drop lo).length = hi - lo := by simp; omega
  refine ⟨_, _, by rw [hlen], by rw [hlen]; omega, by omega, fun hne => ?_⟩
  have hlt : lo < hi := by
    rcases Nat.lt_or_ge lo hi with h | h
    · exact h
    · exfalso; apply hne; apply List.eq_nil_of_length_eq_zero; omega
  have hne' : l ≠ [] := by rintro rfl; simp at h2; omega
  obtain ⟨b, off, arr, E, fr, rfl, q1, q2, q3, q4⟩ := e4 hne'
  have hc : ¬ c = lo := by omega
  refine ⟨b, off + lo * t.width, arr, E, fr, ?_, q1, q2, ?_, ?_⟩
  · rw [if_neg hc]; simp [add_block]
  · rw [hlen, Nat.sub_mul]
    have h3 := Nat.mul_le_mul_right t.width h2
    have h4 := Nat.mul_le_mul_right t.width h1
    omega
  · intro i hi'
    rw [hlen] at hi'
    have := q4 (lo + i) (by omega)
    have e5 : ((l.take hi).drop lo).getD i t.dflt = l.getD (lo + i) t.dflt := by
      simp only [List.getD_eq_getElem?_getD, List.getElem?_drop, List.getElem?_take]
      rw [if_pos (by omega)]
    rw [e5, Nat.add_assoc, ← Nat.add_mul]
    exact this

theorem slAV_ok (htt : ttB P tt = true) (R : RelAt w0 S0 N dr pc s a w S pl) {T : Nat} {x : AV} {vx : Value} {xlo xhi : Option Operand} {lo hi : Option AV} {pf : PF}
    (h : slAV tt s T x lo hi = some pf) (hx : AVR w S s.rts pl x vx ∧ x.lt s.nxt)
    (hlo : optEv s xlo lo)
    (hhi : optEv s xhi hi) :
    PFok w S s pl pf (fun w' => (Instr.sliceAt T vx (xlo.map a.eval) (xhi.map a.eval) none).run P w') := by
  unfold slAV at h
  split at h
  · rename_i e t b hte
    obtain ⟨hu, _, ⟨inf, hinf, hsz, _⟩, _⟩ := slice_te (ttB_get htt hte)
    split at h
    · cases h
    · rename_i lo' hlo'
      split at h
      · cases h
      · rename_i hi' hhi'
        have q1 := bnd_ok R hlo hlo'
        have q2 := bnd_ok R hhi hhi'
        split at h
        · rename_i e' t' l
          split at h
          · rename_i he
            obtain ⟨rfl, rfl⟩ := he
            cases h
            intro hpre
            have hpre : okB lo' hi' l.length := hpre
            obtain ⟨ad, cap, rfl, hro, hlc, hcm⟩ := hx.1.list
            refine ⟨_, fun w' => run_sliceAt hu hinf ad l.length cap _ _ lo' hi' q1 q2 hlc hpre w', ⟨[_], rfl, ?_⟩, AV.lt_dat, trivial⟩
            obtain ⟨p1, p2, p3⟩ := hpre
            rw [cutL_eq ⟨p1, p2, p3⟩, hsz]
            exact hro.cut (by omega) (by omega)
          · cases h
        · rename_i r p
          split at h
          · rename_i rt hrt
            split at h
            · rename_i hc
              cases h
              intro hpre
              obtain ⟨hok, h2, h3⟩ := hpre
              have hv := hx.1 rt hrt
              subst hv
              obtain ⟨_, hn⟩ := R.node hrt h2 hc.2 hc.1 h3
              have hew : (rt.at p).ew = t.width := by unfold TV.ew; rw [hc.1]
              obtain ⟨p1, p2, p3⟩ := hok
              have hcut : ∃ ad n c, hdr (atCT p rt.ty (pl r).ct) (rt.at p).len = .slice ad n c ∧ n = (rt.at p).len ∧ n ≤ c ∧
                  subR (atCT p rt.ty (pl r).ct) (rt.at p).ew (loOf lo').toNat (hiOf hi' (rt.at p).len).toNat
                  (.slice (if c = (loOf lo').toNat then ad else ad.map (·.add ((loOf lo').toNat * inf.size))) ((hiOf hi' n).toNat - (loOf lo').toNat) (c - (loOf lo').toNat)) := by
                have none0 : ∀ ct, (∀ b c k, ct ≠ CT.node b c k) → (rt.at p).len = 0 → ∃ ad n c, hdr ct (rt.at p).len = .slice ad n c ∧ n = (rt.at p).len ∧ n ≤ c ∧
                    subR ct (rt.at p).ew (loOf lo').toNat (hiOf hi' (rt.at p).len).toNat
                    (.slice (if c = (loOf lo').toNat then ad else ad.map (·.add ((loOf lo').toNat * inf.size))) ((hiOf hi' n).toNat - (loOf lo').toNat) (c - (loOf lo').toNat)) := by
                  intro ct hnn hl
                  have e0 : (loOf lo').toNat = 0 := by omega
                  have e1 : (hiOf hi' 0).toNat = 0 := by rw [hl] at p3; omega
                  rw [hl, e0, e1]
                  cases ct with
                  | node b c k => exact absurd rfl (hnn b c k)
                  | nil => exact ⟨none, 0, 0, rfl, rfl, Nat.le_refl _, by simp [subR, e1]⟩
                  | leaf => exact ⟨none, 0, 0, rfl, rfl, Nat.le_refl _, by simp [subR, e1]⟩
                  | pair => exact ⟨none, 0, 0, rfl, rfl, Nat.le_refl _, by simp [subR, e1]⟩
                have some0 : ∀ b c k, atCT p rt.ty (pl r).ct = .node b c k → (rt.at p).len ≤ c → ∃ ad n c, hdr (atCT p rt.ty (pl r).ct) (rt.at p).len = .slice ad n c ∧ n = (rt.at p).len ∧ n ≤ c ∧
                    subR (atCT p rt.ty (pl r).ct) (rt.at p).ew (loOf lo').toNat (hiOf hi' (rt.at p).len).toNat
                    (.slice (if c = (loOf lo').toNat then ad else ad.map (·.add ((loOf lo').toNat * inf.size))) ((hiOf hi' n).toNat - (loOf lo').toNat) (c - (loOf lo').toNat)) := by
                  intro b c k hct hlen
                  rw [hct]
                  refine ⟨_, _, _, rfl, rfl, hlen, _, rfl, fun hl => ?_⟩
                  rw [hew, hsz]
                  by_cases hcap : c = (loOf lo').toNat
                  · have e0 : (loOf lo').toNat = 0 := by omega
                    rw [if_pos hcap, e0, Nat.zero_mul]
                  · rw [if_neg hcap]; simp [add_block]
                rcases hn with hn | ⟨bb, cap, kids, hct, _, hlen, _⟩
                · by_cases hnode : ∃ b c k, atCT p rt.ty (pl r).ct = .node b c k
                  · obtain ⟨b, c, k, hct⟩ := hnode
                    exact some0 b c k hct (by omega)
                  · exact none0 _ (fun b c k e => hnode ⟨b, c, k, e⟩) hn
                · exact some0 bb cap kids hct hlen
              obtain ⟨ad, n, c, e1, e2, e3, e4⟩ := hcut
              rw [e1]
              refine ⟨_, fun w' => run_sliceAt hu hinf ad n c _ _ lo' hi' q1 q2 e3 (by rw [e2]; exact ⟨p1, p2, p3⟩) w', fun rt' hrt' => ?_, AV.lt_sub (R.ids r rt hrt), trivial⟩
              have : rt' = rt := Option.some.inj (hrt'.symm.trans hrt)
              subst this
              exact ⟨by omega, by omega, e4⟩
            · cases h
          · cases h
        · rename_i r p u v
          split at h
          · rename_i rt hrt
            split at h
            · rename_i hc
              cases h
              intro hpre
              obtain ⟨hok, h2, h3⟩ := hpre
              obtain ⟨g1, g2, hv⟩ := hx.1 rt hrt
              obtain ⟨_, hn⟩ := R.node hrt h2 hc.2 hc.1 h3
              have hew : (rt.at p).ew = t.width := by unfold TV.ew; rw [hc.1]
              obtain ⟨p1, p2, p3⟩ := hok
              have hcut : ∃ ad c, vx = .slice ad (v - u) c ∧ v - u ≤ c ∧
                  subR (atCT p rt.ty (pl r).ct) (rt.at p).ew (u + (loOf lo').toNat) (u + (hiOf hi' (v - u)).toNat)
                  (.slice (if c = (loOf lo').toNat then ad else ad.map (·.add ((loOf lo').toNat * inf.size))) ((hiOf hi' (v - u)).toNat - (loOf lo').toNat) (c - (loOf lo').toNat)) := by
                have none0 : ∀ ct, (∀ b c k, ct ≠ CT.node b c k) → (rt.at p).len = 0 → subR ct (rt.at p).ew u v vx → ∃ ad c, vx = .slice ad (v - u) c ∧ v - u ≤ c ∧
                    subR ct (rt.at p).ew (u + (loOf lo').toNat) (u + (hiOf hi' (v - u)).toNat)
                    (.slice (if c = (loOf lo').toNat then ad else ad.map (·.add ((loOf lo').toNat * inf.size))) ((hiOf hi' (v - u)).toNat - (loOf lo').toNat) (c - (loOf lo').toNat)) := by
                  intro ct hnn hl hv
                  have e2 : v - u = 0 := by omega
                  have e0 : (loOf lo').toNat = 0 := by omega
                  have e1 : (hiOf hi' 0).toNat = 0 := by rw [e2] at p3; omega
                  rw [e2, e0, e1]
                  cases ct with
                  | node b c k => exact absurd rfl (hnn b c k)
                  | nil => simp only [subR] at hv; subst hv; exact ⟨none, 0, rfl, Nat.le_refl _, by simp [subR]⟩
                  | leaf => simp only [subR] at hv; subst hv; exact ⟨none, 0, rfl, Nat.le_refl _, by simp [subR]⟩
                  | pair => simp only [subR] at hv; subst hv; exact ⟨none, 0, rfl, Nat.le_refl _, by simp [subR]⟩
                by_cases hnode : ∃ b c k, atCT p rt.ty (pl r).ct = .node b c k
                · obtain ⟨bb, cap, kids, hct⟩ := hnode
                  have hle : (rt.at p).len ≤ cap := by
                    rcases hn with hn | ⟨bb', cap', kids', hct', _, hlen, _⟩
                    · omega
                    · rw [hct] at hct'; cases hct'; exact hlen
                  rw [hct] at hv ⊢
                  obtain ⟨ad, rfl, had⟩ := hv
                  refine ⟨ad, cap - u, rfl, by omega, if cap - u = (loOf lo').toNat then ad else ad.map (·.add ((loOf lo').toNat * inf.size)), ?_, fun hl => ?_⟩
                  · congr 1
                    · omega
                    · omega
                  · rw [had (by omega), hew, hsz]
                    by_cases hcap : cap - u = (loOf lo').toNat
                    · have e0 : (loOf lo').toNat = 0 := by omega
                      rw [if_pos hcap, e0, Nat.add_zero]
                    · rw [if_neg hcap]; simp [add_block, Nat.add_mul]
                · rcases hn with hn | ⟨bb, cap, kids, hct, _⟩
                  · exact none0 _ (fun b c k e => hnode ⟨b, c, k, e⟩) hn hv
                  · exact absurd ⟨bb, cap, kids, hct⟩ hnode
              obtain ⟨ad, c, e1, e3, e4⟩ := hcut
              subst e1
              refine ⟨_, fun w' => run_sliceAt hu hinf ad (v - u) c _ _ lo' hi' q1 q2 e3 ⟨p1, p2, p3⟩ w', fun rt' hrt' => ?_, AV.lt_sub (R.ids r rt hrt), trivial⟩
              have : rt' = rt := Option.some.inj (hrt'.symm.trans hrt)
              subst this
              exact ⟨by omega, by omega, e4⟩
            · cases h
          · cases h
        · cases h
  · rename_i hte
    have hte' := ttB_get htt hte
    have hu : P.underlying T = some .string := by
      simp only [teB, Bool.and_eq_true] at hte'
      have := hte'.2
      revert this
      cases hU : P.underlying T with
      | none => simp
      | some d => cases d <;> simp
    split at h
    · cases h
    · rename_i lo' hlo'
      split at h
      · cases h
      · rename_i hi' hhi'
        have q1 := bnd_ok R hlo hlo'
        have q2 := bnd_ok R hhi hhi'
        split at h
        · rename_i z
          cases h
          intro hpre
          have hv := hx.1.str
          subst hv
          have hb := fun w' => run_bounds (P := P) false z.size z.size _ _ lo' hi' q1 q2 (Nat.le_refl _) hpre w'
          exact ⟨_, fun w' => by simp [Instr.sliceAt, Instr.slice, run_underlying hu, hb] <;> rfl, AVR.mkStr _ _, AV.lt_dat, trivial⟩
        · cases h
  · cases h

end
end Fer

namespace Fer
open Go

def lenAV (s : XS) (x : AV) : Option PF :=
  match x with
  | .dat (.list _ _) l => some ⟨True, List.length l ≤ 9223372036854775807, .dat (.int .i64) (List.length l : Nat)⟩
  | .ref r p => match s.root r with
    | some rt => match (rt.at p).t with
      | .list _ _ => if hclear p rt.h = true then some ⟨okS p rt.ty rt.x (rt.k + 1) ∧ 0 < dep p rt.ty (rt.k + 1), (rt.at p).len ≤ 9223372036854775807, .dat (.int .i64) ((rt.at p).len : Nat)⟩ else none
      | _ => none
    | none => none
  | .sub r p lo hi => match s.root r with
    | some rt => match (rt.at p).t with
      | .list _ _ => if hclear p rt.h = true then some ⟨okS p rt.ty rt.x (rt.k + 1) ∧ 0 < dep p rt.ty (rt.k + 1), lo ≤ hi, .dat (.int .i64) ((hi - lo : Nat) : Int)⟩ else none
      | _ => none
    | none => none
  | .dat .str z => some ⟨True, True, .dat (.int .i64) (z.size : Nat)⟩
  | _ => none

def capsOf (s : XS) : List Operand → Option (List Nat)
  | [] => some []
  | x :: l => match s.ev x, capsOf s l with
    | some (.ptr r [0]), some c => some (r :: c)
    | _, _ => none

def sameAV (s : XS) (x : AV) : Option PF :=
  match x with
  | .ptr r p => match s.root r with | some _ => some (PF.of True (.ptr r p)) | none => none
  | .rptr t x => some (PF.of True (.rptr t x))
  | .rpl b t x => some (PF.of True (.rpl b t x))
  | .clo f c => some (PF.of True (.clo f c))
  | _ => none

def convAV (te : Option TE) (x : AV) : Option PF :=
  match te, x with
  | some (.basic (.int k')), .dat (.int _) n => some (PF.of (inR k' n) (.dat (.int k') n))
  | _, _ => none

def strIdx (te : Option TE) (x ix : AV) : Option PF :=
  match te, x, ix with
  | some (.basic .str), .dat .str z, .dat (.int _) i => some (PF.of (0 ≤ i ∧ i < z.size) (.dat (.int .u8) ((z.data.toList.getD i.toNat 0).toNat : Int)))
  | _, _, _ => none

def opt2 {α β γ : Type} (f : α → β → Option γ) : Option α → Option β → Option γ
  | some a, some b => f a b
  | _, _ => none

def bldAV (te : Option TE) (parts : List (Nat × Option AV)) : Option PF :=
  match te.bind TE.ty, parts with
  | some (.prod (.int ka) (.int kb)), [(0, some (.dat (.int k) m)), (1, some (.dat (.int k') n))] => if ka = k ∧ kb = k' then some (PF.of True (.dat (.prod (.int ka) (.int kb)) (m, n))) else none
  | _, _ => none

def bld3AV (te : Option TE) (parts : List (Nat × Option AV)) : Option PF :=
  match te, parts with
  | some (.struct [.int ka, .int kb, .int kc]), [(0, some (.dat (.int k) m)), (1, some (.dat (.int k') n)), (2, some (.dat (.int k'') o))] =>
    if ka = k ∧ kb = k' ∧ kc = k'' then some (PF.of True (.dat (.prod (.int ka) (.prod (.int kb) (.int kc))) (m, n, o))) else none
  | _, _ => none

def bld0AV (te : Option TE) (parts : List (Nat × Option AV)) : Option PF :=
  match te, parts with
  | some (.struct [.int ka, .int kb]), [] => some (PF.of True (.dat (.prod (.int ka) (.int kb)) (0, 0)))
  | _, _ => none

def zAV : Ty → AV
  | .list _ _ => .dat .raw (.slice none 0 0)
  | .ro _ _ => .dat .raw (.slice none 0 0)
  | t => .dat t t.dflt
def pAt : List (Nat × Option AV) → Nat → Option (Option AV)
  | [], _ => none
  | (i, x) :: l, j => if i = j then some x else pAt l j
def bareAV (s : XS) (n : Nat) : AV → Bool
  | .dat t _ => t.width == n
  | .ref r [] => (s.root r).isSome && n == 1
  | .clo _ _ => n == 1
  | _ => false
def bldFs (s : XS) (parts : List (Nat × Option AV)) : Nat → List Ty → Option (List AV)
  | _, [] => some []
  | j, t :: ts => match pAt parts j, bldFs s parts (j + 1) ts with
    | none, some l => some (zAV t :: l)
    | some (some av), some l => if bareAV s t.width av = true then some (av :: l) else none
    | _, _ => none
def ascB : Nat → Nat → List Nat → Bool
  | _, _, [] => true
  | lo, hi, i :: l => decide (lo ≤ i) && decide (i < hi) && ascB (i + 1) hi l
def bldGAV (s : XS) (te : Option TE) (parts : List (Nat × Option AV)) : Option PF :=
  match te with
  | some (.struct ts) => if ascB 0 ts.length (parts.map (·.1)) = true then (bldFs s parts 0 ts).map fun l => PF.of True (.agg l) else none
  | _ => none

def xpure (tt : List (Nat × TE)) (s : XS) (o : Oper) : Option PF :=
  match o.op with
  | .build T parts => match bldAV (lk tt T) (parts.toList.map fun x => (x.1, s.ev x.2)) with
    | some pf => some pf
    | none => match bld3AV (lk tt T) (parts.toList.map fun x => (x.1, s.ev x.2)) with
      | some pf => some pf
      | none => match bld0AV (lk tt T) (parts.toList.map fun x => (x.1, s.ev x.2)) with
        | some pf => some pf
        | none => bldGAV s (lk tt T) (parts.toList.map fun x => (x.1, s.ev x.2))
  | .move x => (s.ev x).map (PF.of True)
  | .assign x => (s.ev x).map (PF.of True)
  | .pick c a b => match s.ev c with
    | some (.dat .bool c) => (if c = true then s.ev a else s.ev b).map (PF.of True)
    | _ => none
  | .binOp op T x y _ => opt2 (fun u v => (binAV (lk tt T) op u v).map PR.pf) (s.ev x) (s.ev y)
  | .unOp op _ x => match op, s.ev x with
    | .not, some (.dat .bool b) => some (PF.of True (.dat .bool (!b)))
    | .neg, some (.dat (.int k) n) => some (PF.of (inR k (0 - n)) (.dat (.int k) (-n)))
    | _, _ => none
  | .indexAddr T x ix => opt2 (idxAV tt s T) (s.ev x) (s.ev ix)
  | .fieldAddr T x j => (s.ev x).bind (fldAV (lk tt T) s j)
  | .slice T x lo hi mx => match mx, s.ev x with
    | none, some u => slAV tt s T u (lo.bind s.ev) (hi.bind s.ev)
    | _, _ => none
  | .extract x j => match s.ev x with
    | some (.tup l) => l[j]?.bind fun av => match av with | .tup _ => none | .agg _ => none | av => some (PF.of True av)
    | _ => none
  | .makeFunc fn first caps => match fn, first.toList with
    | .func f, [] => (capsOf s caps.toList).map fun c => PF.of True (.clo f c)
    | _, _ => none
  | .convert _ dst x => (s.ev x).bind (convAV (lk tt dst))
  | .nilCheck x => (s.ev x).bind (sameAV s)
  | .index T x ix => opt2 (strIdx (lk tt T)) (s.ev x) (s.ev ix)
  | .call c => match c.callee with
    | .builtin .len => match c.args.toList with
      | [x] => (s.ev x).bind (lenAV s)
      | _ => none
    | .builtin .max => match c.args.toList with
      | [x, y] => opt2 (fun u v => match u, v with | .dat (.int k) m, .dat (.int k') n => if k = k' then some (PF.of True (.dat (.int k) (max m n))) else none | _, _ => none) (s.ev x) (s.ev y)
      | _ => none
    | .builtin .min => match c.args.toList with
      | [x, y] => opt2 (fun u v => match u, v with | .dat (.int k) m, .dat (.int k') n => if k = k' then some (PF.of True (.dat (.int k) (min m n))) else none | _, _ => none) (s.ev x) (s.ev y)
      | _ => none
    | _ => none
  | _ => none

def xpureT (tt : List (Nat × TE)) (s : XS) (o : Oper) : Bool :=
  match o.op with
  | .convert src _ _ => match lk tt src with | some _ => true | none => false
  | .slice _ _ lo hi _ => (match lo with | none => true | some x => (s.ev x).isSome) && (match hi with | none => true | some x => (s.ev x).isSome)
  | .call c => match c.callee with
    | .builtin .len => match c.argTypes.toList, c.args.toList with
      | [T], [x] => match lk tt T, s.ev x with
        | some (.slice _ _ _), some (.dat (.list _ _) _) => true
        | some (.slice _ _ _), some (.ref _ _) => true
        | some (.slice _ _ _), some (.sub _ _ _ _) => true
        | some (.basic .str), some (.dat .str _) => true
        | _, _ => false
      | _, _ => false
    | _ => true
  | _ => true

section
variable {P : Program} {tt : List (Nat × TE)} {w0 : World} {S0 : Nat → Prop} {N : Nat} {dr : Bool} {pc : Pins} {s : XS} {a : Act} {w : World} {S : Nat → Prop} {pl : Nat → PL}

theorem opt2_some {α β γ : Type} {f : α → β → Option γ} {x : Option α} {y : Option β} {z : γ} (h : opt2 f x y = some z) : ∃ u v, x = some u ∧ y = some v ∧ f u v = some z := by
  unfold opt2 at h
  split at h
  · exact ⟨_, _, rfl, rfl, h⟩
  · cases h

theorem basic_te {i : Nat} {t : Ty} (h : teB P i (.basic t) = true) : match t with | .int k => P.underlying i = some (.int k) | .bool => P.underlying i = some .bool | .str => P.underlying i = some .string | .func => ∃ d, P.underlying i = some d | _ => False := by
  simp only [teB, Bool.and_eq_true] at h
  have h := h.2
  cases t with
  | int k =>
    revert h
    cases hU : P.underlying i with
    | none => simp
    | some d => cases d <;> simp; intro e; exact e.symm
  | bool =>
    revert h
    cases hU : P.underlying i with
    | none => simp
    | some d => cases d <;> simp
  | str =>
    revert h
    cases hU : P.underlying i with
    | none => simp
    | some d => cases d <;> simp
  | raw => simp at h
  | fn => simp at h
  | row => simp at h
  | ro => simp at h
  | func =>
    revert h
    cases hU : P.underlying i with
    | none => simp
    | some d => exact fun _ => ⟨d, rfl⟩
  | list => simp at h
  | prod => simp at h

theorem te_under {i : Nat} {te : TE} (h : teB P i te = true) : ∃ d, P.underlying i = some d := by
  cases hU : P.underlying i with
  | some d => exact ⟨d, rfl⟩
  | none =>
    exfalso
    cases te with
    | basic t =>
      have := basic_te h
      cases t <;> simp [hU] at this
    | slice e t b => have := (slice_te h).1; rw [hU] at this; cases this
    | arr n e t => have := (arr_te h).1; rw [hU] at this; cases this
    | struct ts => simp [teB, hU] at h
    | pair e t => have := (pair_te h).1; rw [hU] at this; cases this
    | map k v => simp [teB, hU] at h
    | mapP k v => simp [teB, hU] at h

theorem capsOf_ok (R : RelAt w0 S0 N dr pc s a w S pl) : ∀ (l : List Operand) (c : List Nat), capsOf s l = some c →
    (l.map a.eval).length = c.length ∧ (∀ r ∈ c, r < s.nxt) ∧ ∀ (i r : Nat) (rt : RT) (u : Value), c[i]? = some r → lk s.rts r = some rt → (l.map a.eval)[i]? = some u → u = addrP (pl r) rt [0]
  | [], c, h => by
    simp only [capsOf, Option.some.injEq] at h; subst h
    simp
  | x :: l, c, h => by
    simp only [capsOf] at h
    split at h
    · rename_i r c' hx hc
      cases h
      obtain ⟨h1, h2, h3⟩ := capsOf_ok R l c' hc
      obtain ⟨q1, q2⟩ := R.ev hx
      refine ⟨by simpa using h1, ?_, ?_⟩
      · intro r' hr'
        rcases List.mem_cons.1 hr' with rfl | hr'
        · exact q2 _ (by simp [AV.ids])
        · exact h2 r' hr'
      · intro i r' rt u hi hrt hu
        cases i with
        | zero =>
          simp at hi hu
          subst hi; subst hu
          exact q1 rt hrt
        | succ i =>
          simp at hi hu
          exact h3 i r' rt u hi hrt (by simpa using hu)
    · cases h

theorem BVRs.get {rts : List (Nat × RT)} {l : List AV} {vs : List Value} (h : BVRs w S rts pl l vs) : ∀ (j : Nat) (av : AV), l[j]? = some av → ∃ v, vs[j]? = some v ∧ BVR w S rts pl av v := by
  induction h with
  | nil => intro j av h; simp at h
  | cons h t ih =>
    intro j av hj
    cases j with
    | zero => simp at hj; subst hj; exact ⟨_, rfl, h⟩
    | succ j => simp at hj; obtain ⟨v, h1, h2⟩ := ih j av hj; exact ⟨v, by simpa using h1, h2⟩

theorem exec_value {o : Oper} {ρ : Operand → Value} {x : Sem Value} {v : Value} (ho : execOp ρ o = (do pure (.value (← x)))) (h : ∀ w', x.run P w' = .ok v w') (w' : World) :
    (execOp ρ o).run P w' = .ok (.value v) w' := by
  rw [ho]; simp [h w']

theorem struct2_te {i : Nat} {a b : Ty} (h : teB P i (.struct [a, b]) = true) : ∃ f0 f1 : Field, P.underlying i = some (.struct #[f0, f1]) ∧ f0.offset = 0 ∧ f1.offset = a.width ∧
    (∃ inf, P.info? f0.type = some inf ∧ inf.size = a.width) ∧ (∃ inf, P.info? f1.type = some inf ∧ inf.size = b.width) ∧ infoB P i (.prod a b) = true := by
  simp only [teB, Bool.and_eq_true] at h
  obtain ⟨⟨⟨_, h2⟩, h3⟩, _⟩ := h
  split at h2
  · rename_i fs hu
    obtain ⟨l⟩ := fs
    match l, h2 with
    | [], h2 => simp [fieldsB] at h2
    | [_], h2 => simp [fieldsB] at h2
    | f0 :: f1 :: f2 :: l, h2 => simp [fieldsB] at h2
    | [f0, f1], h2 =>
      simp only [fieldsB, Bool.and_eq_true, beq_iff_eq, Nat.zero_add] at h2
      obtain ⟨⟨⟨e1, e2⟩, _⟩, ⟨⟨e3, e4⟩, _⟩, _⟩ := h2
      refine ⟨f0, f1, hu, e1, e3, ?_, ?_, h3⟩
      · split at e2
        · rename_i inf hi; exact ⟨inf, hi, by simpa using e2⟩
        · cases e2
      · split at e4
        · rename_i inf hi; exact ⟨inf, hi, by simpa using e4⟩
        · cases e4
  · cases h2

theorem fill2 {ka kb : IntKind} {m n : Int} {z : Array Value} (hz : z.size = 2) (place : Nat → Option (Nat × Nat)) (h0 : place 0 = some (0, 1)) (h1 : place 1 = some (1, 1)) :
    Instr.fill place z [(0, .int ka m), (1, .int kb n)] = some #[.int ka m, .int kb n] := by
  obtain ⟨l⟩ := z
  match l, hz with
  | [c0, c1], _ => simp [Instr.fill, h0, h1, Value.cells]
  | [], hz => simp at hz
  | [_], hz => simp at hz
  | _ :: _ :: _ :: _, hz => simp at hz

theorem bldAV_ok (htt : ttB P tt = true) (R : RelAt w0 S0 N dr pc s a w S pl) {T : Nat} {parts : Array (Nat × Operand)} {pf : PF} (h : bldAV (lk tt T) (parts.toList.map fun x => (x.1, s.ev x.2)) = some pf) :
    ∃ v, (∀ w', (Instr.build T (parts.map fun x => (x.1, a.eval x.2))).run P w' = .ok v w') ∧ AVR w S s.rts pl pf.av v ∧ pf.av.lt s.nxt ∧ pf.fact := by
  unfold bldAV at h
  split at h
  · rename_i ka kb k m k' n hte hps
    split at h
    · rename_i hk
      obtain ⟨rfl, rfl⟩ := hk
      cases h
      obtain ⟨te, hl, hty⟩ : ∃ te, lk tt T = some te ∧ te.ty = some (.prod (.int ka) (.int kb)) := by
        cases hl : lk tt T with
        | none => rw [hl] at hte; cases hte
        | some te => rw [hl] at hte; exact ⟨te, rfl, hte⟩
      have hB := ttB_get htt hl
      obtain ⟨l⟩ := parts
      have hvals : ∃ x y : Operand, l = [(0, x), (1, y)] ∧ a.eval x = .int ka m ∧ a.eval y = .int kb n := by
        match l, hps with
        | [(i, x), (j, y)], hps =>
          simp only [List.map_cons, List.map_nil, List.cons.injEq, Prod.mk.injEq, and_true] at hps
          obtain ⟨⟨rfl, hx⟩, rfl, hy⟩ := hps
          exact ⟨x, y, rfl, (R.ev hx).1.int, (R.ev hy).1.int⟩
        | [], hps => simp at hps
        | [_], hps => simp at hps
        | _ :: _ :: _ :: _, hps => simp at hps
      obtain ⟨x, y, rfl, hx, hy⟩ := hvals
      have hbuilt : P.built T [(0, .int ka m), (1, .int kb n)] = some #[.int ka m, .int kb n] := by
        cases te with
        | basic t => simp only [TE.ty, Option.some.injEq] at hty; subst hty; simp [teB, Ty.isProd] at hB
        | slice e t b => simp [TE.ty] at hty
        | arr n' e t => simp [TE.ty] at hty
        | map k v => simp [TE.ty] at hty
        | mapP k v => simp [TE.ty] at hty
        | pair e t =>
          simp only [TE.ty, Option.some.injEq, Ty.prod.injEq] at hty
          obtain ⟨rfl, hty⟩ := hty
          obtain ⟨hu, ⟨inf, hinf, hsz⟩, _, hI⟩ := pair_te hB
          obtain ⟨it, z, g1, g2, g3, g4, _⟩ := (infoB_ok hI).info
          unfold Program.built
          simp only [g1, hu, g3, hinf]
          refine fill2 (by simpa [Ty.width] using g4) _ ?_ ?_
          · simp [hsz, Ty.width]
          · simp [hsz, Ty.width]
        | struct ts =>
          simp only [TE.ty] at hty
          split at hty
          · match ts, hty with
            | [u, v], hty =>
              simp only [prodOf, Option.some.injEq, Ty.prod.injEq] at hty
              obtain ⟨rfl, rfl⟩ := hty
              obtain ⟨f0, f1, hu, o0, o1, ⟨i0, p0, p1⟩, ⟨i1, p2, p3⟩, hI⟩ := struct2_te hB
              obtain ⟨it, z, g1, g2, g3, g4, _⟩ := (infoB_ok hI).info
              unfold Program.built
              have hm : List.mapM (fun f => (P.info? f.type).map fun i => (f.offset, i.size)) [f0, f1] = some [(0, 1), (1, 1)] := by
                simp [List.mapM_cons, p0, p2, o0, o1, p1, p3, Ty.width]
              simp only [g1, hu, g3, hm]
              exact fill2 (by simpa [Ty.width] using g4) _ rfl rfl
            | u :: v :: v' :: ts, hty => simp [prodOf] at hty
          · cases hty
      refine ⟨.agg #[.int ka m, .int kb n], fun w' => run_build w' T _ _ ?_, ⟨[.int ka m, .int kb n], rfl, [.int ka m], [.int kb n], rfl, rfl, rfl⟩, AV.lt_dat, trivial⟩
      simpa [hx, hy] using hbuilt
    · cases h
  · cases h

theorem bld0AV_ok (htt : ttB P tt = true) {T : Nat} {parts : Array (Nat × Operand)} {pf : PF} (h : bld0AV (lk tt T) (parts.toList.map fun x => (x.1, s.ev x.2)) = some pf) :
    ∃ v, (∀ w', (Instr.build T (parts.map fun x => (x.1, a.eval x.2))).run P w' = .ok v w') ∧ AVR w S s.rts pl pf.av v ∧ pf.av.lt s.nxt ∧ pf.fact := by
  unfold bld0AV at h
  split at h
  · rename_i ka kb hte hps
    cases h
    have hB := ttB_get htt hte
    obtain ⟨l⟩ := parts
    obtain rfl : l = [] := by simpa using hps
    obtain ⟨f0, f1, hu, o0, o1, ⟨i0, p0, p1⟩, ⟨i1, p2, p3⟩, hI⟩ := struct2_te hB
    obtain ⟨it, z, g1, g2, g3, g4, g5⟩ := (infoB_ok hI).info
    have hbuilt : P.built T [] = some z.cells := by
      unfold Program.built
      have hm : List.mapM (fun f => (P.info? f.type).map fun i => (f.offset, i.size)) [f0, f1] = some [(0, 1), (1, 1)] := by
        simp [List.mapM_cons, p0, p2, o0, o1, p1, p3, Ty.width]
      simp only [g1, hu, g3, hm]
      rfl
    refine ⟨.agg z.cells, fun w' => run_build w' T _ _ (by simpa using hbuilt), ⟨z.cells.toList, ?_, g5 w S⟩, AV.lt_dat, trivial⟩
    simp [pack]
  · cases h

theorem pack_one {t : Ty} (ht : t.isProd = false) {cs : List Value} (hl : cs.length = t.width) : ∃ v, cs = [v] ∧ pack t cs = v := by
  have h1 : cs.length = 1 := by cases t <;> first | (simp [Ty.isProd] at ht; done) | simpa [Ty.width] using hl
  obtain ⟨v, rfl⟩ := List.length_eq_one_iff.1 h1
  exact ⟨v, rfl, by cases t <;> first | (simp [Ty.isProd] at ht; done) | rfl⟩

theorem pack_cells {t : Ty} {cs : List Value} (hl : cs.length = t.width) (h1 : ∀ u ∈ cs, u.oneCell' = true) : (pack t cs).cells.toList = cs := by
  by_cases ht : t.isProd = true
  · cases t <;> simp [Ty.isProd] at ht
    rfl
  · obtain ⟨v, rfl, h⟩ := pack_one (by simpa using ht) hl
    rw [h]
    have := h1 v (by simp)
    cases v <;> first | rfl | (simp [Value.oneCell'] at this; done)

theorem infoB_z {T : Nat} {t : Ty} (h : infoB P T t = true) : ∃ inf z, P.info? T = some inf ∧ inf.size = t.width ∧ inf.zero = some z ∧ z.cells.toList.length = t.width ∧ zeroB t z.cells.toList = true := by
  unfold infoB at h
  split at h
  · rename_i inf hinf
    split at h
    · rename_i z hz
      simp only [Bool.and_eq_true, beq_iff_eq] at h
      exact ⟨inf, z, hinf, h.1, hz, h.2.1, h.2.2⟩
    · simp at h
  · cases h


theorem fill_step {off n : Nat} {done zs cs : List Value} (h1 : done.length = off) (h2 : n ≤ zs.length) (h3 : cs.length = n) (v : Value) (hv : v.cells.toList = cs) :
    v.cells.zipIdx.foldl (fun cs (c, j) => cs.setIfInBounds (off + j) c) (done ++ zs).toArray = (done ++ (cs ++ zs.drop n)).toArray := by
  rw [← Array.foldl_toList, Array.toList_zipIdx, hv]
  obtain ⟨g1, g2⟩ := Go.Great.foldl_set off cs 0 (done ++ zs).toArray
  apply Array.ext_getElem?
  intro k
  have := g2 k
  simp only [Nat.add_zero] at this
  refine this.trans ?_
  simp only [List.getElem?_toArray, List.size_toArray, List.length_append]
  by_cases hk : k < off
  · rw [if_neg (by omega), List.getElem?_append_left (by omega), List.getElem?_append_left (by omega)]
  · rw [List.getElem?_append_right (l₁ := done) (by omega), List.getElem?_append_right (l₁ := done) (by omega), h1]
    by_cases hk2 : k < off + n
    · rw [if_pos (by omega), List.getElem?_append_left (by omega)]
    · rw [if_neg (by omega), List.getElem?_append_right (by omega), List.getElem?_drop]
      congr 1
      omega

theorem fill_asc {place : Nat → Option (Nat × Nat)} : ∀ (ts : List Ty) (j0 off : Nat) (parts : List (Nat × Value)) (done zs : List Value), done.length = off → zs.length = (ts.map Ty.width).sum →
    (∀ i t, ts[i]? = some t → place (j0 + i) = some (off + ((ts.take i).map Ty.width).sum, t.width)) → ascB j0 (j0 + ts.length) (parts.map (·.1)) = true →
    (∀ i v t, (i, v) ∈ parts → ts[i - j0]? = some t → v.cells.size = t.width) →
    ∃ segs : List (List Value), segs.length = ts.length ∧ Instr.fill place (done ++ zs).toArray parts = some (done ++ segs.flatten).toArray ∧
      ∀ i t, ts[i]? = some t → (∃ v, (j0 + i, v) ∈ parts ∧ segs[i]? = some v.cells.toList) ∨ ((∀ v, (j0 + i, v) ∉ parts) ∧ segs[i]? = some ((zs.drop ((ts.take i).map Ty.width).sum).take t.width))
  | [], j0, off, parts, done, zs, h1, h2, h3, h4, h5 => by
    have : parts = [] := by
      cases parts with
      | nil => rfl
      | cons x l =>
        simp only [List.map_cons, ascB, Bool.and_eq_true, decide_eq_true_eq, List.length_nil] at h4
        omega
    subst this
    have hz : zs = [] := by simpa using h2
    subst hz
    exact ⟨[], rfl, by simp [Instr.fill], fun i t h => by simp at h⟩
  | t :: ts, j0, off, parts, done, zs, h1, h2, h3, h4, h5 => by
    simp only [List.map_cons, List.sum_cons] at h2
    have hp0 := h3 0 t rfl
    simp only [Nat.add_zero, List.take_zero, List.map_nil, List.sum_nil] at hp0
    have hpl : ∀ i t', ts[i]? = some t' → place (j0 + 1 + i) = some (off + t.width + ((ts.take i).map Ty.width).sum, t'.width) := fun i t' hi => by
      have := h3 (i + 1) t' (by simpa using hi)
      rw [show j0 + 1 + i = j0 + (i + 1) by omega, this]
      simp only [List.take_succ_cons, List.map_cons, List.sum_cons]
      rw [Nat.add_assoc]
    have hle : t.width ≤ zs.length := by omega
    by_cases hhd : ∃ v rest, parts = (j0, v) :: rest
    · obtain ⟨v, rest, rfl⟩ := hhd
      simp only [List.map_cons, ascB, Bool.and_eq_true, decide_eq_true_eq, List.length_cons] at h4
      have hv : v.cells.size = t.width := h5 j0 v t (by simp) (by simp)
      have hstep := fill_step (off := off) (done := done) (zs := zs) h1 hle (by rw [Array.length_toList]; exact hv) v rfl
      have hasc : ∀ (l : List (Nat × Value)) lo hi, ascB lo hi (l.map (·.1)) = true → ∀ x ∈ l, lo ≤ x.1 := fun l => by
        induction l with
        | nil => intro _ _ _ x hx; cases hx
        | cons y l ih =>
          intro lo hi h x hx
          simp only [List.map_cons, ascB, Bool.and_eq_true, decide_eq_true_eq] at h
          rcases List.mem_cons.1 hx with rfl | hx
          · exact h.1.1
          · have := ih _ _ h.2 x hx; omega
      obtain ⟨segs, s1, s2, s3⟩ := fill_asc ts (j0 + 1) (off + t.width) rest (done ++ v.cells.toList) (zs.drop t.width) (by rw [List.length_append, h1, Array.length_toList, hv]) (by rw [List.length_drop]; omega) hpl
        (by rw [show j0 + 1 + ts.length = j0 + (ts.length + 1) by omega]; exact h4.2)
        (fun i v' t' hm ht => h5 i v' t' (List.mem_cons_of_mem _ hm) (by
          have := hasc rest (j0 + 1) _ h4.2 _ hm
          simp only at this
          rw [show i - j0 = (i - (j0 + 1)) + 1 by omega, List.getElem?_cons_succ]; exact ht))
      refine ⟨v.cells.toList :: segs, by simp [s1], ?_, fun i t' hi => ?_⟩
      · unfold Instr.fill
        simp only [hp0]
        rw [if_neg (by simp only [hv, List.size_toArray, List.length_append, h1]; simp; omega)]
        have : (v.cells.zipIdx.foldl (fun cs (x : Value × Nat) => cs.setIfInBounds (off + x.2) x.1) (done ++ zs).toArray) = (done ++ v.cells.toList ++ zs.drop t.width).toArray := by
          rw [List.append_assoc]; exact hstep
        rw [this, s2]
        simp
      · cases i with
        | zero => exact .inl ⟨v, by simp, by simp⟩
        | succ i =>
          rcases s3 i t' (by simpa using hi) with ⟨v', q1, q2⟩ | ⟨q1, q2⟩
          · exact .inl ⟨v', List.mem_cons_of_mem _ (by rw [show j0 + (i + 1) = j0 + 1 + i by omega]; exact q1), by simpa using q2⟩
          · refine .inr ⟨fun v' hm => ?_, ?_⟩
            · rcases List.mem_cons.1 hm with e | hm
              · simp only [Prod.mk.injEq] at e; omega
              · exact q1 v' (by rw [show j0 + 1 + i = j0 + (i + 1) by omega]; exact hm)
            · simp only [List.getElem?_cons_succ, q2, List.take_succ_cons, List.map_cons, List.sum_cons, List.drop_drop]
    · have hasc1 : ascB (j0 + 1) (j0 + 1 + ts.length) (parts.map (·.1)) = true := by
        cases parts with
        | nil => rfl
        | cons x l =>
          obtain ⟨i, v⟩ := x
          simp only [List.map_cons, ascB, Bool.and_eq_true, decide_eq_true_eq, List.length_cons] at h4 ⊢
          have : i ≠ j0 := fun e => hhd ⟨v, l, by rw [e]⟩
          exact ⟨⟨by omega, by omega⟩, by rw [show j0 + 1 + ts.length = j0 + (ts.length + 1) by omega]; exact h4.2⟩
      have hasc : ∀ (l : List (Nat × Value)) lo hi, ascB lo hi (l.map (·.1)) = true → ∀ x ∈ l, lo ≤ x.1 := fun l => by
        induction l with
        | nil => intro _ _ _ x hx; cases hx
        | cons y l ih =>
          intro lo hi h x hx
          simp only [List.map_cons, ascB, Bool.and_eq_true, decide_eq_true_eq] at h
          rcases List.mem_cons.1 hx with rfl | hx
          · exact h.1.1
          · have := ih _ _ h.2 x hx; omega
      obtain ⟨segs, s1, s2, s3⟩ := fill_asc ts (j0 + 1) (off + t.width) parts (done ++ zs.take t.width) (zs.drop t.width) (by rw [List.length_append, h1, List.length_take, Nat.min_eq_left hle]) (by rw [List.length_drop]; omega) hpl hasc1
        (fun i v' t' hm ht => h5 i v' t' hm (by
          have := hasc parts (j0 + 1) _ hasc1 _ hm
          simp only at this
          rw [show i - j0 = (i - (j0 + 1)) + 1 by omega, List.getElem?_cons_succ]; exact ht))
      refine ⟨zs.take t.width :: segs, by simp [s1], ?_, fun i t' hi => ?_⟩
      · rw [List.append_assoc, List.take_append_drop] at s2
        rw [s2]
        simp
      · cases i with
        | zero =>
          refine .inr ⟨fun v hm => ?_, ?_⟩
          · have := hasc parts (j0 + 1) _ hasc1 _ hm
            simp only at this
            omega
          · have : t = t' := by simpa using hi
            subst this
            simp
        | succ i =>
          rcases s3 i t' (by simpa using hi) with ⟨v', q1, q2⟩ | ⟨q1, q2⟩
          · exact .inl ⟨v', by rw [show j0 + (i + 1) = j0 + 1 + i by omega]; exact q1, by simpa using q2⟩
          · refine .inr ⟨fun v' hm => q1 v' (by rw [show j0 + 1 + i = j0 + (i + 1) by omega]; exact hm), ?_⟩
            simp only [List.getElem?_cons_succ, q2, List.take_succ_cons, List.map_cons, List.sum_cons, List.drop_drop]

theorem zeroB_slice' {e : Nat} {t : Ty} {cs : List Value} (h : zeroB (.list e t) cs = true) : cs = [.slice none 0 0] := by
  unfold zeroB at h
  split at h <;> first | rfl | (simp_all; done) | skip
  all_goals simp at *
theorem zeroB_ro {e : Nat} {t : Ty} {cs : List Value} (h : zeroB (.ro e t) cs = true) : cs = [.slice none 0 0] := by
  unfold zeroB at h
  split at h <;> first | rfl | (simp_all; done) | skip
  all_goals simp at *
theorem places_ok : ∀ (fs : List Field) (ts : List Ty) (o : Nat), fieldsB P fs ts o = true → ∃ pls, List.mapM (fun f => (P.info? f.type).map fun i => (f.offset, i.size)) fs = some pls ∧ ∀ i t, ts[i]? = some t → pls[i]? = some (o + ((ts.take i).map Ty.width).sum, t.width)
  | [], [], o, _ => ⟨[], rfl, fun i t h => by simp at h⟩
  | f :: fs, t :: ts, o, h => by
    simp only [fieldsB, Bool.and_eq_true, beq_iff_eq] at h
    obtain ⟨⟨⟨h1, h2⟩, _⟩, h3⟩ := h
    obtain ⟨pls, g1, g2⟩ := places_ok fs ts (o + t.width) h3
    split at h2
    · rename_i inf hi
      have h2 : inf.size = t.width := by simpa using h2
      refine ⟨(o, t.width) :: pls, ?_, fun i t' hi' => ?_⟩
      · simp only [List.mapM_cons, hi, g1, h1, h2, Option.map_some]
        rfl
      · cases i with
        | zero =>
          have : t = t' := by simpa using hi'
          subst this
          simp
        | succ i =>
          rw [List.getElem?_cons_succ, g2 i t' (by simpa using hi')]
          simp only [List.take_succ_cons, List.map_cons, List.sum_cons, Nat.add_assoc]
    · cases h2
  | [], _ :: _, _, h => by simp [fieldsB] at h
  | _ :: _, [], _, h => by simp [fieldsB] at h

theorem width_prodOf : ∀ ts : List Ty, ts ≠ [] → (prodOf ts).width = (ts.map Ty.width).sum
  | [], h => absurd rfl h
  | [t], _ => by simp [prodOf]
  | t :: t' :: ts, _ => by
    simp only [prodOf, Ty.width, List.map_cons, List.sum_cons]
    rw [width_prodOf (t' :: ts) (by simp)]
    simp

theorem zero_segs : ∀ (ts : List Ty) (zs : List Value) (i : Nat) (t : Ty), zeroB (prodOf ts) zs = true → zs.length = (ts.map Ty.width).sum → ts[i]? = some t → zeroB t ((zs.drop ((ts.take i).map Ty.width).sum).take t.width) = true
  | [], _, i, t, _, _, h => by simp at h
  | [u], zs, i, t, h, hl, hi => by
    cases i with
    | zero =>
      have : u = t := by simpa using hi
      subst this
      simp only [List.map_cons, List.map_nil, List.sum_cons, List.sum_nil, Nat.add_zero] at hl
      simp only [List.take_zero, List.map_nil, List.sum_nil, List.drop_zero]
      rw [List.take_of_length_le (by omega)]
      exact h
    | succ i => simp at hi
  | u :: u' :: ts, zs, i, t, h, hl, hi => by
    have h' : (zeroB u (zs.take u.width) && zeroB (prodOf (u' :: ts)) (zs.drop u.width)) = true := h
    simp only [Bool.and_eq_true] at h'
    cases i with
    | zero =>
      have : u = t := by simpa using hi
      subst this
      simpa using h'.1
    | succ i =>
      have := zero_segs (u' :: ts) (zs.drop u.width) i t h'.2 (by rw [List.length_drop, hl]; simp only [List.map_cons, List.sum_cons]; omega) (by simpa using hi)
      rw [List.drop_drop] at this
      simp only [List.take_succ_cons, List.map_cons, List.sum_cons] at this ⊢
      exact this

theorem partAt_mem {s : XS} {ops : List (Nat × Operand)} : ∀ {lo hi : Nat}, ascB lo hi (ops.map (·.1)) = true → ∀ i x, (i, x) ∈ ops → pAt (ops.map fun x => (x.1, s.ev x.2)) i = some (s.ev x) ∧ lo ≤ i := by
  induction ops with
  | nil => intro _ _ _ i x h; cases h
  | cons y l ih =>
    obtain ⟨j, u⟩ := y
    intro lo hi h i x hm
    simp only [List.map_cons, ascB, Bool.and_eq_true, decide_eq_true_eq] at h
    rcases List.mem_cons.1 hm with e | hm
    · cases e
      exact ⟨by simp [pAt], h.1.1⟩
    · obtain ⟨h1, h2⟩ := ih h.2 i x hm
      refine ⟨?_, by omega⟩
      simp only [List.map_cons, pAt]
      rw [if_neg (by omega)]
      exact h1
theorem partAt_none {s : XS} {ops : List (Nat × Operand)} {i : Nat} (h : ∀ x, (i, x) ∉ ops) : pAt (ops.map fun x => (x.1, s.ev x.2)) i = none := by
  induction ops with
  | nil => rfl
  | cons y l ih =>
    obtain ⟨j, u⟩ := y
    simp only [List.map_cons, pAt]
    rw [if_neg (fun e => h u (by rw [e]; exact List.mem_cons_self)), ih fun x hm => h x (List.mem_cons_of_mem _ hm)]

theorem bldFs_get {s : XS} {parts : List (Nat × Option AV)} : ∀ (ts : List Ty) (j : Nat) (l : List AV), bldFs s parts j ts = some l → l.length = ts.length ∧ ∀ i t, ts[i]? = some t → ∃ av, l[i]? = some av ∧
    ((pAt parts (j + i) = none ∧ av = zAV t) ∨ (pAt parts (j + i) = some (some av) ∧ bareAV s t.width av = true))
  | [], j, l, h => by
    simp only [bldFs, Option.some.injEq] at h
    subst h
    exact ⟨rfl, fun i t h => by simp at h⟩
  | t :: ts, j, l, h => by
    simp only [bldFs] at h
    split at h
    · rename_i l' hp hb
      cases h
      obtain ⟨h1, h2⟩ := bldFs_get ts (j + 1) l' hb
      refine ⟨by simp [h1], fun i t' hi => ?_⟩
      cases i with
      | zero =>
        have : t = t' := by simpa using hi
        subst this
        exact ⟨_, rfl, .inl ⟨hp, rfl⟩⟩
      | succ i =>
        obtain ⟨av, g1, g2⟩ := h2 i t' (by simpa using hi)
        exact ⟨av, by simpa using g1, by rw [show j + (i + 1) = j + 1 + i by omega]; exact g2⟩
    · rename_i av l' hp hb
      split at h
      · rename_i hbare
        cases h
        obtain ⟨h1, h2⟩ := bldFs_get ts (j + 1) l' hb
        refine ⟨by simp [h1], fun i t' hi => ?_⟩
        cases i with
        | zero =>
          have : t = t' := by simpa using hi
          subst this
          exact ⟨_, rfl, .inr ⟨hp, hbare⟩⟩
        | succ i =>
          obtain ⟨av, g1, g2⟩ := h2 i t' (by simpa using hi)
          exact ⟨av, by simpa using g1, by rw [show j + (i + 1) = j + 1 + i by omega]; exact g2⟩
      · cases h
    · cases h

theorem bare_ok {rts : List (Nat × RT)} {n : Nat} {av : AV} {v : Value} (hs : s.rts = rts) (h : bareAV s n av = true) (hv : AVR w S rts pl av v) : BVR w S rts pl av v ∧ v.cells.size = n := by
  subst hs
  cases av with
  | dat t x =>
    refine ⟨hv, ?_⟩
    obtain ⟨cs, rfl, hro⟩ := hv
    have h : t.width = n := by simpa [bareAV] using h
    have e : (pack t cs).cells.toList.length = t.width := by rw [pack_cells hro.length hro.oneCell]; exact hro.length
    rw [← h]; simpa using e
  | ref r p =>
    cases p with
    | nil =>
      simp only [bareAV, Bool.and_eq_true, beq_iff_eq] at h
      refine ⟨hv, ?_⟩
      obtain ⟨rt, hr⟩ := Option.isSome_iff_exists.1 h.1
      have e := hv rt hr
      rw [e, h.2]
      unfold hdr
      split <;> rfl
    | cons i p => simp [bareAV] at h
  | clo f c =>
    have h : n = 1 := by simpa [bareAV] using h
    refine ⟨hv, ?_⟩
    obtain ⟨vs, rfl, _⟩ := hv
    rw [h]; rfl
  | _ => simp [bareAV] at h

theorem bvrs_of : ∀ (l : List AV) (segs : List (List Value)), l.length = segs.length → (∀ (i : Nat) (av : AV) (seg : List Value), l[i]? = some av → segs[i]? = some seg → ∃ u : Value, BVR w S s.rts pl av u ∧ u.cells.toList = seg) →
    ∃ vs, BVRs w S s.rts pl l vs ∧ (vs.flatMap fun u => u.cells.toList) = segs.flatten
  | [], [], _, _ => ⟨[], .nil, rfl⟩
  | av :: l, seg :: segs, hl, h => by
    obtain ⟨vs, h1, h2⟩ := bvrs_of l segs (by simpa using hl) fun i a b ha hb => h (i + 1) a b (by simpa using ha) (by simpa using hb)
    obtain ⟨u, g1, g2⟩ := h 0 av seg rfl rfl
    exact ⟨u :: vs, .cons g1 h1, by rw [List.flatMap_cons, g2, h2, List.flatten_cons]⟩
  | [], _ :: _, hl, _ => by simp at hl
  | _ :: _, [], hl, _ => by simp at hl

theorem bldGAV_ok (htt : ttB P tt = true) (R : RelAt w0 S0 N dr pc s a w S pl) {T : Nat} {parts : Array (Nat × Operand)} {pf : PF} (h : bldGAV s (lk tt T) (parts.toList.map fun x => (x.1, s.ev x.2)) = some pf) :
    ∃ v, (∀ w', (Instr.build T (parts.map fun x => (x.1, a.eval x.2))).run P w' = .ok v w') ∧ AVR w S s.rts pl pf.av v ∧ pf.av.lt s.nxt ∧ pf.fact := by
  unfold bldGAV at h
  split at h
  · rename_i ts hte
    split at h
    · rename_i hasc
      cases hb : bldFs s (parts.toList.map fun x => (x.1, s.ev x.2)) 0 ts with
      | none => rw [hb] at h; cases h
      | some l =>
        rw [hb] at h
        cases h
        have hB := ttB_get htt hte
        obtain ⟨fs, hu, hfs, hl2⟩ := struct_te hB
        have hB2 := hB
        simp only [teB, Bool.and_eq_true] at hB2
        obtain ⟨inf, z, hinf, hsz, hz, hzl, hzb⟩ := infoB_z hB2.1.2
        have hne : ts ≠ [] := by rintro rfl; simp at hl2
        rw [width_prodOf ts hne] at hzl
        obtain ⟨pls, p1, p2⟩ := places_ok fs.toList ts 0 hfs
        obtain ⟨l1, l2⟩ := bldFs_get ts 0 l hb
        have hmap : (parts.toList.map fun x => (x.1, a.eval x.2)).map (·.1) = parts.toList.map (·.1) := by simp
        have hasc' : ascB 0 (0 + ts.length) (parts.toList.map (·.1)) = true := by
          rw [Nat.zero_add]
          have e : (parts.toList.map fun x => (x.1, s.ev x.2)).map (·.1) = parts.toList.map (·.1) := by simp
          rw [← e]; exact hasc
        have hval : ∀ i x, (i, x) ∈ parts.toList → ∀ t, ts[i]? = some t → BVR w S s.rts pl ((s.ev x).getD .junk) (a.eval x) ∧ (a.eval x).cells.size = t.width ∧ ∃ av, s.ev x = some av ∧ l[i]? = some av := fun i x hm t ht => by
          obtain ⟨av, g1, g2⟩ := l2 i t ht
          rw [Nat.zero_add] at g2
          have hp := (partAt_mem (s := s) hasc' i x hm).1
          rcases g2 with ⟨g2, _⟩ | ⟨g2, g3⟩
          · rw [hp] at g2; cases g2
          · rw [hp] at g2
            simp only [Option.some.injEq] at g2
            obtain ⟨q1, q2⟩ := bare_ok rfl g3 (R.ev g2).1
            rw [g2]
            exact ⟨q1, q2, av, rfl, g1⟩
        obtain ⟨segs, s1, s2, s3⟩ := fill_asc (place := (pls.toArray[·]?)) ts 0 0 (parts.toList.map fun x => (x.1, a.eval x.2)) [] z.cells.toList rfl hzl
          (fun i t hi => by simpa using p2 i t hi) (by rw [hmap]; exact hasc')
          (fun i v t hm ht => by
            obtain ⟨⟨j, x⟩, hx, e⟩ := List.mem_map.1 hm
            cases e
            exact (hval j x hx t (by simpa using ht)).2.1)
        have hbuilt : P.built T (parts.toList.map fun x => (x.1, a.eval x.2)) = some segs.flatten.toArray := by
          unfold Program.built
          simp only [hinf, hu, hz, p1]
          simpa using s2
        obtain ⟨vs, v1, v2⟩ := bvrs_of (w := w) (S := S) (s := s) (pl := pl) l segs (by rw [l1, s1]) (fun i av seg hi hseg => by
          have hit : i < ts.length := by rw [← l1]; exact (List.getElem?_eq_some_iff.1 hi).1
          obtain ⟨t, ht⟩ : ∃ t, ts[i]? = some t := ⟨_, List.getElem?_eq_getElem hit⟩
          obtain ⟨av', g1, g2⟩ := l2 i t ht
          rw [hi] at g1
          cases g1
          rw [Nat.zero_add] at g2
          rcases s3 i t ht with ⟨v, hm, hs⟩ | ⟨hno, hs⟩
          · rw [Nat.zero_add] at hm
            obtain ⟨⟨j, x⟩, hx, e⟩ := List.mem_map.1 hm
            cases e
            obtain ⟨q1, _, av2, q3, q4⟩ := hval j x hx t ht
            rw [hi] at q4
            cases q4
            rw [q3] at q1
            rw [hseg] at hs
            cases hs
            exact ⟨_, q1, rfl⟩
          · have hp : pAt (parts.toList.map fun x => (x.1, s.ev x.2)) i = none := partAt_none fun x hm => hno (a.eval x) (by rw [Nat.zero_add]; exact List.mem_map.2 ⟨(i, x), hm, rfl⟩)
            rcases g2 with ⟨_, rfl⟩ | ⟨g2, _⟩
            · rw [hseg] at hs
              cases hs
              have hzs := zero_segs ts z.cells.toList i t hzb hzl ht
              have hro := zeroB_ok w S t _ hzs
              have gen : ∀ h : zAV t = .dat t t.dflt, ∃ u : Value, BVR w S s.rts pl (zAV t) u ∧ u.cells.toList = (z.cells.toList.drop ((ts.take i).map Ty.width).sum).take t.width := fun h => by
                rw [h]
                exact ⟨_, ⟨_, rfl, hro⟩, pack_cells hro.length hro.oneCell⟩
              cases t with
              | list e t =>
                obtain ⟨ad, cap, e1, e2, _⟩ := hro
                have := zeroB_slice' hzs
                rw [this]
                exact ⟨.slice none 0 0, ⟨_, rfl, rfl, rfl⟩, rfl⟩
              | ro e t =>
                have := zeroB_ro hzs
                rw [this]
                exact ⟨.slice none 0 0, ⟨_, rfl, rfl, rfl⟩, rfl⟩
              | _ => exact gen rfl
            · rw [hp] at g2; cases g2)
        refine ⟨.agg segs.flatten.toArray, fun w' => run_build w' T _ _ (by simpa using hbuilt), ⟨vs, by rw [v2], v1⟩, fun av hav r hr => ?_, trivial⟩
        obtain ⟨i, hi⟩ := List.getElem?_of_mem hav
        have hit : i < ts.length := by rw [← l1]; exact (List.getElem?_eq_some_iff.1 hi).1
        obtain ⟨av', g1, g2⟩ := l2 i ts[i] (List.getElem?_eq_getElem hit)
        rw [hi] at g1
        cases g1
        rcases g2 with ⟨_, rfl⟩ | ⟨g2, g3⟩
        · generalize ts[i] = t at hr
          cases t <;> simp [zAV, AV.ids] at hr
        · rw [Nat.zero_add] at g2
          have hex : ∃ x, (i, x) ∈ parts.toList := Classical.byContradiction fun hno => by
            rw [partAt_none fun x hm => hno ⟨x, hm⟩] at g2; cases g2
          obtain ⟨x, hx⟩ := hex
          rw [(partAt_mem (s := s) hasc' i x hx).1] at g2
          simp only [Option.some.injEq] at g2
          have := (R.ev g2).2
          cases av with
          | dat => exact this r hr
          | ref => exact this r hr
          | clo => exact this r hr
          | _ => simp [bareAV] at g3
    · cases h
  · cases h

theorem struct3_te {i : Nat} {a b c : Ty} (h : teB P i (.struct [a, b, c]) = true) : ∃ f0 f1 f2 : Field, P.underlying i = some (.struct #[f0, f1, f2]) ∧ f0.offset = 0 ∧ f1.offset = a.width ∧ f2.offset = a.width + b.width ∧
    (∃ inf, P.info? f0.type = some inf ∧ inf.size = a.width) ∧ (∃ inf, P.info? f1.type = some inf ∧ inf.size = b.width) ∧ (∃ inf, P.info? f2.type = some inf ∧ inf.size = c.width) ∧ infoB P i (.prod a (.prod b c)) = true := by
  simp only [teB, Bool.and_eq_true] at h
  obtain ⟨⟨⟨_, h2⟩, h3⟩, _⟩ := h
  split at h2
  · rename_i fs hu
    obtain ⟨l⟩ := fs
    match l, h2 with
    | [], h2 => simp [fieldsB] at h2
    | [_], h2 => simp [fieldsB] at h2
    | [_, _], h2 => simp [fieldsB] at h2
    | f0 :: f1 :: f2 :: f3 :: l, h2 => simp [fieldsB] at h2
    | [f0, f1, f2], h2 =>
      simp only [fieldsB, Bool.and_eq_true, beq_iff_eq, Nat.zero_add] at h2
      obtain ⟨⟨⟨e1, e2⟩, _⟩, ⟨⟨e3, e4⟩, _⟩, ⟨⟨e5, e6⟩, _⟩, _⟩ := h2
      refine ⟨f0, f1, f2, hu, e1, e3, e5, ?_, ?_, ?_, h3⟩
      · split at e2
        · rename_i inf hi; exact ⟨inf, hi, by simpa using e2⟩
        · cases e2
      · split at e4
        · rename_i inf hi; exact ⟨inf, hi, by simpa using e4⟩
        · cases e4
      · split at e6
        · rename_i inf hi; exact ⟨inf, hi, by simpa using e6⟩
        · cases e6
  · cases h2

theorem fill3 {ka kb kc : IntKind} {m n o : Int} {z : Array Value} (hz : z.size = 3) (place : Nat → Option (Nat × Nat)) (h0 : place 0 = some (0, 1)) (h1 : place 1 = some (1, 1)) (h2 : place 2 = some (2, 1)) :
    Instr.fill place z [(0, .int ka m), (1, .int kb n), (2, .int kc o)] = some #[.int ka m, .int kb n, .int kc o] := by
  obtain ⟨l⟩ := z
  match l, hz with
  | [c0, c1, c2], _ => simp [Instr.fill, h0, h1, h2, Value.cells]
  | [], hz => simp at hz
  | [_], hz => simp at hz
  | [_, _], hz => simp at hz
  | _ :: _ :: _ :: _ :: _, hz => simp at hz

theorem bld3AV_ok (htt : ttB P tt = true) (R : RelAt w0 S0 N dr pc s a w S pl) {T : Nat} {parts : Array (Nat × Operand)} {pf : PF} (h : bld3AV (lk tt T) (parts.toList.map fun x => (x.1, s.ev x.2)) = some pf) :
    ∃ v, (∀ w', (Instr.build T (parts.map fun x => (x.1, a.eval x.2))).run P w' = .ok v w') ∧ AVR w S s.rts pl pf.av v ∧ pf.av.lt s.nxt ∧ pf.fact := by
  unfold bld3AV at h
  split at h
  · rename_i ka kb kc k m k' n k'' o hte hps
    split at h
    · rename_i hk
      obtain ⟨rfl, rfl, rfl⟩ := hk
      cases h
      have hB := ttB_get htt hte
      obtain ⟨l⟩ := parts
      have hvals : ∃ x y z : Operand, l = [(0, x), (1, y), (2, z)] ∧ a.eval x = .int ka m ∧ a.eval y = .int kb n ∧ a.eval z = .int kc o := by
        match l, hps with
        | [(i, x), (j, y), (q, z)], hps =>
          simp only [List.map_cons, List.map_nil, List.cons.injEq, Prod.mk.injEq, and_true] at hps
          obtain ⟨⟨rfl, hx⟩, ⟨rfl, hy⟩, rfl, hz⟩ := hps
          exact ⟨x, y, z, rfl, (R.ev hx).1.int, (R.ev hy).1.int, (R.ev hz).1.int⟩
        | [], hps => simp at hps
        | [_], hps => simp at hps
        | [_, _], hps => simp at hps
        | _ :: _ :: _ :: _ :: _, hps => simp at hps
      obtain ⟨x, y, z, rfl, hx, hy, hz⟩ := hvals
      have hbuilt : P.built T [(0, .int ka m), (1, .int kb n), (2, .int kc o)] = some #[.int ka m, .int kb n, .int kc o] := by
        obtain ⟨f0, f1, f2, hu, o0, o1, o2, ⟨i0, p0, p1⟩, ⟨i1, p2, p3⟩, ⟨i2, p4, p5⟩, hI⟩ := struct3_te hB
        obtain ⟨it, z, g1, g2, g3, g4, _⟩ := (infoB_ok hI).info
        unfold Program.built
        have hm : List.mapM (fun f => (P.info? f.type).map fun i => (f.offset, i.size)) [f0, f1, f2] = some [(0, 1), (1, 1), (2, 1)] := by
          simp [List.mapM_cons, p0, p2, p4, o0, o1, o2, p1, p3, p5, Ty.width]
        simp only [g1, hu, g3, hm]
        exact fill3 (by simpa [Ty.width] using g4) _ rfl rfl rfl
      refine ⟨.agg #[.int ka m, .int kb n, .int kc o], fun w' => run_build w' T _ _ ?_, ⟨[.int ka m, .int kb n, .int kc o], rfl, [.int ka m], [.int kb n, .int kc o], rfl, rfl, [.int kb n], [.int kc o], rfl, rfl, rfl⟩, AV.lt_dat, trivial⟩
      simpa [hx, hy, hz] using hbuilt
    · cases h
  · cases h

theorem run_eq2 {T : Nat} {ka kb : IntKind} (h : teB P T (.struct [.int ka, .int kb]) = true) (m n m' n' : Int) (w' : World) :
    (Op.equalIn (9999 + 1) T (.agg #[.int ka m, .int kb n]) (.agg #[.int ka m', .int kb n'])).run P w' = .ok (decide (m = m' ∧ n = n')) w' ∧ P.eqGuardType P.depth T = false := by
  obtain ⟨f0, f1, hu, o0, o1, _, _, _⟩ := struct2_te h
  simp only [teB, Bool.and_eq_true] at h
  obtain ⟨⟨⟨_, h2⟩, _⟩, h4⟩ := h
  have h4 : eqB P T [.int ka, .int kb] = true := by simpa [Ty.isInt] using h4
  unfold eqB at h4
  rw [hu] at h4 h2
  simp only [intF, fieldsB, Bool.and_eq_true, Bool.not_eq_true', bne_iff_ne, ne_eq, beq_iff_eq] at h4 h2
  obtain ⟨⟨⟨⟨n0, u0⟩, ⟨n1, u1⟩, _⟩, hp⟩, hg⟩ := h4
  obtain ⟨⟨_, a0⟩, ⟨_, a1⟩, _⟩ := h2
  have hS : P.underlying T = some (.struct (P.fieldsOf T)) := by simp only [Program.fieldsOf, hu]
  refine ⟨?_, hg⟩
  rw [run_equalIn_agg w' 9999 T _ _ hS hp]
  have key : ∀ (f : Field) (k : IntKind), (match P.underlying f.type with | some (.int k') => decide (k = k') | _ => false) = true → P.underlying f.type = some (.int k) := by
    intro f k hf
    split at hf
    · rename_i k' e; rw [e]; simp at hf; rw [hf]
    · cases hf
  have e0 := key f0 ka u0
  have e1 := key f1 kb u1
  have ag : ∀ (f : Field) (k : IntKind), P.underlying f.type = some (.int k) → ∀ w, (isAgg f.type).run P w = .ok false w := by
    intro f k hf w
    unfold isAgg
    rw [Sem.run_bind, run_underlying hf w]
    simp
  have hf : P.fieldsOf T = #[f0, f1] := by simp only [Program.fieldsOf, hu]
  rw [hf]
  have pr : ∀ (f : Field) (k : IntKind), P.underlying f.type = some (.int k) → ∀ (l : Array Value) (o : Nat) (v : Value), l[o]? = some v → ∀ w, (part f.type l o).run P w = .ok v w := by
    intro f k hf l o v hv w
    unfold part
    rw [Sem.run_bind, ag f k hf w]
    simp [hv]
  have n0' : (f0.name ≠ "_") = True := eq_true n0
  have n1' : (f1.name ≠ "_") = True := eq_true n1
  have o1' : f1.offset = 1 := by rw [o1]; rfl
  simp only [Op.eqFields, n0', n1', if_true, Sem.run_bind]
  rw [pr f0 ka e0 _ _ (.int ka m) (by rw [o0]; rfl), Result.andThen_ok, pr f0 ka e0 _ _ (.int ka m') (by rw [o0]; rfl), Result.andThen_ok, run_equalIn_int _ 9998 _ _ _ _ _ e0, Result.andThen_ok]
  by_cases hm : m = m'
  · subst hm
    simp only [beq_self_eq_true, Bool.not_true, Bool.false_eq_true, if_false, Sem.run_bind]
    rw [pr f1 kb e1 _ _ (.int kb n) (by rw [o1']; rfl), Result.andThen_ok, pr f1 kb e1 _ _ (.int kb n') (by rw [o1']; rfl), Result.andThen_ok, run_equalIn_int _ 9998 _ _ _ _ _ e1, Result.andThen_ok]
    by_cases hn : n = n'
    · simp [hn]
    · simp [hn]
  · simp [hm]

theorem xpure_ok (htt : ttB P tt = true) (R : RelAt w0 S0 N dr pc s a w S pl) {o : Oper} {pf : PF} (h : xpure tt s o = some pf) (hT : xpureT tt s o = true) (hpre : pf.pre) :
    okind o.op = 0 ∧ ∃ v, (∀ w', (execOp a.eval o).run P w' = .ok (.value v) w') ∧ AVR w S s.rts pl pf.av v ∧ pf.av.lt s.nxt ∧ pf.fact := by
  obtain ⟨dst, op, type, pos, after, guard⟩ := o
  cases op <;> simp only [xpure] at h <;> try cases h
  case build T parts =>
    split at h
    · rename_i pf' hb
      cases h
      obtain ⟨v, h1, h2, h3, h4⟩ := bldAV_ok htt R hb
      exact ⟨rfl, v, fun w' => exec_value (P := P) rfl (fun w' => h1 w') w', h2, h3, h4⟩
    · split at h
      · rename_i pf' hb3
        cases h
        obtain ⟨v, h1, h2, h3, h4⟩ := bld3AV_ok htt R hb3
        exact ⟨rfl, v, fun w' => exec_value (P := P) rfl (fun w' => h1 w') w', h2, h3, h4⟩
      · split at h
        · rename_i pf' hb0
          cases h
          obtain ⟨v, h1, h2, h3, h4⟩ := bld0AV_ok (w := w) (S := S) (pl := pl) (a := a) (s := s) htt hb0
          exact ⟨rfl, v, fun w' => exec_value (P := P) rfl (fun w' => h1 w') w', h2, h3, h4⟩
        · obtain ⟨v, h1, h2, h3, h4⟩ := bldGAV_ok htt R h
          exact ⟨rfl, v, fun w' => exec_value (P := P) rfl (fun w' => h1 w') w', h2, h3, h4⟩
  case fieldAddr T x j =>
    refine ⟨rfl, ?_⟩
    cases hx : s.ev x with
    | none => rw [hx] at h; cases h
    | some av =>
      rw [hx] at h
      obtain ⟨v, h1, h2⟩ := fldAV_ok htt R h (R.ev hx) hpre
      exact ⟨v, fun w' => exec_value (P := P) rfl (fun w' => h1 w') w', h2⟩
  case move x =>
    refine ⟨rfl, ?_⟩
    cases hx : s.ev x with
    | none => rw [hx] at h; cases h
    | some av =>
      rw [hx] at h; cases h
      obtain ⟨h1, h2⟩ := R.ev hx
      exact ⟨_, fun w' => rfl, h1, h2, trivial⟩
  case assign x =>
    refine ⟨rfl, ?_⟩
    cases hx : s.ev x with
    | none => rw [hx] at h; cases h
    | some av =>
      rw [hx] at h; cases h
      obtain ⟨h1, h2⟩ := R.ev hx
      exact ⟨_, fun w' => rfl, h1, h2, trivial⟩
  case pick c x y =>
    refine ⟨rfl, ?_⟩
    split at h
    · rename_i b hc
      have hb := (R.ev hc).1.bool
      cases b with
      | true =>
        simp only [if_true] at h
        cases hx : s.ev x with
        | none => rw [hx] at h; cases h
        | some av =>
          rw [hx] at h; cases h
          obtain ⟨h1, h2⟩ := R.ev hx
          exact ⟨_, fun w' => by simp [execOp, hb, asBool] <;> rfl, h1, h2, trivial⟩
      | false =>
        simp only [Bool.false_eq_true, if_false] at h
        cases hx : s.ev y with
        | none => rw [hx] at h; cases h
        | some av =>
          rw [hx] at h; cases h
          obtain ⟨h1, h2⟩ := R.ev hx
          exact ⟨_, fun w' => by simp [execOp, hb, asBool] <;> rfl, h1, h2, trivial⟩
    · cases h
  case binOp op T x y yT =>
    refine ⟨rfl, ?_⟩
    obtain ⟨u, v, hu, hv, h⟩ := opt2_some h
    have u1 := (R.ev hu).1
    have v1 := (R.ev hv).1
    cases hb : binAV (lk tt T) op u v with
    | none => rw [hb] at h; cases h
    | some pr =>
      rw [hb] at h; cases h
      have hpre : pr.pre := hpre
      unfold binAV at hb
      split at hb
      · rename_i k m k' n
        split at hb
        · rename_i hk; subst hk
          obtain ⟨z, hz, h1, h2⟩ := binInt_ok (P := P) (w := w) (S := S) (pl := pl) (T := T) (x := x) (y := y) hb hpre
          refine ⟨z, fun w' => ?_, h1 _, h2 _, trivial⟩
          refine exec_value (P := P) rfl (fun w' => ?_) w'
          rw [u1.int, v1.int]
          exact hz w'
        · cases hb
      · rename_i b c
        split at hb
        · rename_i hte
          have hd := basic_te (ttB_get htt hte)
          simp only at hd
          have e1 := u1.bool
          have e2 := v1.bool
          have hq := fun w' => run_equal_bool (P := P) w' T b c hd
          unfold binBool at hb
          cases op <;> simp only [Option.some.injEq, reduceCtorEq] at hb <;> cases hb
          · refine ⟨.bool (b == c), fun w' => exec_value (P := P) rfl (fun w' => ?_) w', AVR.mkBool _ _, AV.lt_dat, trivial⟩
            rw [e1, e2]
            simp [eqGuard, binOp, hq]
          · refine ⟨.bool (b != c), fun w' => exec_value (P := P) rfl (fun w' => ?_) w', AVR.mkBool _ _, AV.lt_dat, trivial⟩
            rw [e1, e2]
            simp [eqGuard, binOp, hq, bne]
        · cases hb
      · rename_i b c
        have e1 := u1.str
        have e2 := v1.str
        unfold binStr at hb
        cases op <;> simp only [Option.some.injEq, reduceCtorEq] at hb <;> cases hb
        · have hle : ¬ ((b.size + c.size : Nat) : Int) > IntKind.i64.max := by
            have : IntKind.i64.max = 9223372036854775807 := rfl
            have hpre' : b.size + c.size ≤ 9223372036854775807 := hpre
            rw [this]; omega
          refine ⟨.string (b ++ c), fun w' => ?_, AVR.mkStr _ _, AV.lt_dat, trivial⟩
          refine exec_value (P := P) rfl (fun w' => ?_) w'
          rw [e1, e2]
          simp only [eqGuard, binOp, Op.stringOp, hle, if_false]
          rfl
        · exact ⟨_, fun w' => by simp [execOp, e1, e2, eqGuard, binOp, Op.stringOp] <;> rfl, AVR.mkBool _ _, AV.lt_dat, trivial⟩
        · exact ⟨_, fun w' => by simp [execOp, e1, e2, eqGuard, binOp, Op.stringOp] <;> rfl, AVR.mkBool _ _, AV.lt_dat, trivial⟩
        · exact ⟨_, fun w' => by simp [execOp, e1, e2, eqGuard, binOp, Op.stringOp] <;> rfl, AVR.mkBool _ _, AV.lt_dat, trivial⟩
      · rename_i ka kb b ka' kb' c
        split at hb
        · rename_i ja jb hte
          split at hb
          · rename_i hk
            obtain ⟨rfl, rfl, rfl, rfl⟩ := hk
            have hB := ttB_get htt hte
            have hv : ∀ (rts : List (Nat × RT)) (z : Int × Int) (v : Value), AVR w S rts pl (.dat (.prod (.int ka') (.int kb')) z) v → v = .agg #[.int ka' z.1, .int kb' z.2] := by
              rintro rts z v ⟨cs, rfl, c1, c2, rfl, r1, r2⟩
              simp only [RO] at r1 r2
              subst r1 r2
              rfl
            have e1 := hv _ _ _ u1
            have e2 := hv _ _ _ v1
            cases op <;> simp only [Option.some.injEq, reduceCtorEq] at hb <;> cases hb
            · refine ⟨.bool (decide (b.1 = c.1 ∧ b.2 = c.2)), fun w' => exec_value (P := P) rfl (fun w' => ?_) w', AVR.mkBool _ _, AV.lt_dat, trivial⟩
              obtain ⟨r1, r2⟩ := run_eq2 hB b.1 b.2 c.1 c.2 w'
              rw [e1, e2, Sem.run_bind, run_eqGuard_agg w' _ T _ _ _ _ r2, Result.andThen_ok, run_eql_struct, show (10000 : Nat) = 9999 + 1 from rfl, r1]
              rfl
            · refine ⟨.bool (!decide (b.1 = c.1 ∧ b.2 = c.2)), fun w' => exec_value (P := P) rfl (fun w' => ?_) w', AVR.mkBool _ _, AV.lt_dat, trivial⟩
              obtain ⟨r1, r2⟩ := run_eq2 hB b.1 b.2 c.1 c.2 w'
              rw [e1, e2, Sem.run_bind, run_eqGuard_agg w' _ T _ _ _ _ r2, Result.andThen_ok, run_neq_struct, show (10000 : Nat) = 9999 + 1 from rfl, r1]
              rfl
          · cases hb
        · cases hb
      · cases hb
  case unOp op T x =>
    refine ⟨rfl, ?_⟩
    split at h
    · rename_i b hx
      cases h
      have e := (R.ev hx).1.bool
      exact ⟨_, fun w' => by simp [execOp, e, Op.unary] <;> rfl, AVR.mkBool _ _, AV.lt_dat, trivial⟩
    · rename_i k n hx
      cases h
      have e := (R.ev hx).1.int
      have hw : k.wrap (0 - n) = 0 - n := inR_wrap hpre
      exact ⟨.int k (-n), fun w' => by simp [execOp, e, Op.unary, Op.intArith]; rw [← Int.zero_sub, hw], AVR.mkInt _ _ _, AV.lt_dat, trivial⟩
    · cases h
  case indexAddr T x ix =>
    refine ⟨rfl, ?_⟩
    obtain ⟨u, v, hu, hv, h⟩ := opt2_some h
    obtain ⟨z, hz, q1, q2, q3⟩ := idxAV_ok htt R h (R.ev hu) (R.ev hv) hpre
    exact ⟨z, fun w' => exec_value (P := P) rfl hz w', q1, q2, q3⟩
  case slice T x lo hi mx =>
    refine ⟨rfl, ?_⟩
    split at h
    · rename_i u hu
      simp only [xpureT, Bool.and_eq_true] at hT
      have o1 : optEv s lo (lo.bind s.ev) := by
        cases lo with
        | none => trivial
        | some x =>
          simp only [Option.bind_some] at *
          cases hx : s.ev x with
          | none => rw [hx] at hT; simp at hT
          | some v => exact hx
      have o2 : optEv s hi (hi.bind s.ev) := by
        cases hi with
        | none => trivial
        | some x =>
          simp only [Option.bind_some] at *
          cases hx : s.ev x with
          | none => rw [hx] at hT; simp at hT
          | some v => exact hx
      obtain ⟨z, hz, q1, q2, q3⟩ := slAV_ok htt R h (R.ev hu) o1 o2 hpre
      exact ⟨z, fun w' => exec_value (P := P) rfl hz w', q1, q2, q3⟩
    · cases h
  case extract x j =>
    refine ⟨rfl, ?_⟩
    split at h
    · rename_i l hx
      obtain ⟨h1, h2⟩ := R.ev hx
      obtain ⟨vs, hvs, hb⟩ := h1
      cases hj : l[j]? with
      | none => rw [hj] at h; cases h
      | some av =>
        rw [hj] at h
        obtain ⟨v, hv, hbv⟩ := hb.get j av hj
        have hmem : av ∈ l := List.mem_of_getElem? hj
        have hlt := h2 av hmem
        have hrun : ∀ w', (execOp a.eval { dst, op := .extract x j, type, pos, after, guard }).run P w' = .ok (.value v) w' := fun w' => by
          refine exec_value (P := P) rfl (fun w' => ?_) w'
          rw [hvs]
          simp [Instr.extract, hv]
        cases av <;> simp only [Option.bind_some] at h <;> cases h
        all_goals first
          | exact ⟨v, hrun, hbv, hlt, trivial⟩
          | exact (show False from hbv).elim
    · cases h
  case makeFunc fn first caps =>
    refine ⟨rfl, ?_⟩
    split at h
    · rename_i f hf
      cases hc : capsOf s caps.toList with
      | none => rw [hc] at h; cases h
      | some c =>
        rw [hc] at h; cases h
        obtain ⟨h1, h2, h3⟩ := capsOf_ok R _ _ hc
        have hf' : first = #[] := by simpa using hf
        subst hf'
        refine ⟨.func (.func f) #[] (caps.map a.eval), fun w' => by simp [execOp, Instr.makeFunc], ⟨caps.toList.map a.eval, ?_, h1, h3⟩, fun r hr => h2 r (by simpa [PF.of, AV.ids] using hr), trivial⟩
        rw [← Array.toList_map, Array.toArray_toList]
    · cases h
  case convert src dst' x =>
    refine ⟨rfl, ?_⟩
    cases hx : s.ev x with
    | none => rw [hx] at h; cases h
    | some u =>
      rw [hx] at h
      simp only [Option.bind_some] at h
      unfold convAV at h
      split at h
      · rename_i k' k n hte
        cases h
        have e := (R.ev hx).1.int
        have hd := basic_te (ttB_get htt hte)
        simp only at hd
        have hw := inR_wrap hpre
        simp only [xpureT] at hT
        cases hs : lk tt src with
        | none => rw [hs] at hT; simp at hT
        | some te =>
          obtain ⟨d, hsd⟩ := te_under (ttB_get htt hs)
          refine ⟨.int k' n, fun w' => ?_, AVR.mkInt _ _ _, AV.lt_dat, trivial⟩
          refine exec_value (P := P) rfl (fun w' => ?_) w'
          rw [e]
          simp [convert, run_underlying hsd, run_underlying hd, Conv.intToInt, hw]
      · cases h
  case nilCheck x =>
    refine ⟨rfl, ?_⟩
    cases hx : s.ev x with
    | none => rw [hx] at h; cases h
    | some u =>
      rw [hx] at h
      simp only [Option.bind_some] at h
      obtain ⟨h1, h2⟩ := R.ev hx
      unfold sameAV at h
      split at h
      · rename_i r p
        split at h
        · rename_i rt hrt
          cases h
          have e := h1 rt hrt
          exact ⟨a.eval x, fun w' => by simp only [execOp, e, addrP]; rfl, h1, h2, trivial⟩
        · cases h
      · cases h
        have h1' := h1
        obtain ⟨b, o, arr, E, fr, e, _⟩ := h1'
        exact ⟨a.eval x, fun w' => by simp only [execOp, e]; rfl, h1, h2, trivial⟩
      · cases h
        have h1' := h1
        obtain ⟨e, _⟩ := h1'
        exact ⟨a.eval x, fun w' => by simp only [execOp, e]; rfl, h1, h2, trivial⟩
      · cases h
        have h1' := h1
        obtain ⟨vs, e, _⟩ := h1'
        exact ⟨a.eval x, fun w' => by simp only [execOp, e]; rfl, h1, h2, trivial⟩
      · cases h
  case index T x ix =>
    refine ⟨rfl, ?_⟩
    obtain ⟨u, v, hu, hv, h⟩ := opt2_some h
    unfold strIdx at h
    split at h
    · rename_i z k i hte
      cases h
      have h0 : (0 : Int) ≤ i := hpre.1
      have h1 : (i : Int) < (z.size : Int) := hpre.2
      have e1 := (R.ev hu).1.str
      have e2 := (R.ev hv).1.int
      have hd := basic_te (ttB_get htt hte)
      simp only at hd
      have hi : Int.toNat i < z.size := (Int.toNat_lt h0).2 h1
      have hg : z.data.toList.getD i.toNat 0 = z[i.toNat] := by
        have : i.toNat < z.data.toList.length := by simpa using hi
        simp only [List.getD_eq_getElem?_getD, List.getElem?_eq_getElem this, Option.getD_some]
        rfl
      refine ⟨.int .u8 (z.data.toList.getD i.toNat 0).toNat, fun w' => ?_, AVR.mkInt _ _ _, AV.lt_dat, trivial⟩
      refine exec_value (P := P) rfl (fun w' => ?_) w'
      rw [e1, e2, hg]
      simp [Instr.index, asIntOf, run_underlying hd, h0, hi]
    · cases h
  case call c =>
    obtain ⟨callee, args, argTypes⟩ := c
    simp only at h hT
    split at h
    · -- len
      refine ⟨rfl, ?_⟩
      split at h
      · rename_i x hargs
        have hargs' : args = #[x] := by rw [← Array.toArray_toList (xs := args), hargs]
        subst hargs'
        cases hx : s.ev x with
        | none => rw [hx] at h; cases h
        | some u =>
          rw [hx] at h
          simp only [Option.bind_some] at h
          simp only [xpureT] at hT
          split at hT
          · rename_i T x2 hty hx2
            have hty' : argTypes = #[T] := by rw [← Array.toArray_toList (xs := argTypes), hty]
            subst hty'
            obtain rfl : x = x2 := by simpa using hx2
            rw [hx] at hT
            have hexec : ∀ (v : Value) (n : Int), a.eval x = v → (∀ w', (Builtin.len_ #[T] type #[v]).run P w' = .ok (goInt n) w') → ∀ w', (execOp a.eval { dst, op := .call { callee := .builtin .len, args := #[x], argTypes := #[T] }, type, pos, after, guard }).run P w' = .ok (.value (.int .i64 n)) w' := by
              intro v n hv hr w'
              simp [execOp, resolve, invoke, builtin, hv, hr w', goInt]
            obtain ⟨h1, h2⟩ := R.ev hx
            have hsl : ∀ (e : Nat), P.underlying T = some (.slice e) → ∀ ad n c w', (Builtin.len_ #[T] type #[.slice ad n c]).run P w' = .ok (goInt n) w' := fun e hu ad n c w' => by
              simp [Builtin.len_, run_underlying hu]
            split at hT
            · -- read-only
              rename_i e t b ee tt' l hte hu
              simp only [Option.some.injEq] at hu
              subst hu
              obtain ⟨hu, _⟩ := slice_te (ttB_get htt hte)
              cases h
              obtain ⟨ad, cap, e1, hro, hlc, hcm⟩ := h1.list
              refine ⟨_, hexec _ _ e1 (hsl _ hu _ _ _), AVR.mkInt _ _ _, AV.lt_dat, ?_⟩
              have : maxLen = 9223372036854775807 := rfl
              show List.length l ≤ _
              omega
            · -- owned
              rename_i e t b r p hte hu
              simp only [Option.some.injEq] at hu
              subst hu
              obtain ⟨hu, _⟩ := slice_te (ttB_get htt hte)
              simp only [lenAV] at h
              split at h
              · rename_i rt hrt
                split at h
                · rename_i e' t' ht'
                  split at h
                  · rename_i hc
                    cases h
                    obtain ⟨p1, p2⟩ := hpre
                    have hn := R.node hrt p1 hc ht' p2
                    have hv := h1 rt hrt
                    have hhd : ∃ ad c, hdr (atCT p rt.ty (pl r).ct) (rt.at p).len = .slice ad (rt.at p).len c := by
                      cases hct : atCT p rt.ty (pl r).ct with
                      | node b c k => exact ⟨_, _, rfl⟩
                      | nil =>
                        rcases hn.2 with h0 | ⟨_, _, _, h0, _⟩
                        · rw [h0]; exact ⟨_, _, rfl⟩
                        · rw [hct] at h0; cases h0
                      | leaf =>
                        rcases hn.2 with h0 | ⟨_, _, _, h0, _⟩
                        · rw [h0]; exact ⟨_, _, rfl⟩
                        · rw [hct] at h0; cases h0
                      | pair =>
                        rcases hn.2 with h0 | ⟨_, _, _, h0, _⟩
                        · rw [h0]; exact ⟨_, _, rfl⟩
                        · rw [hct] at h0; cases h0
                    obtain ⟨ad, c, hhd⟩ := hhd
                    refine ⟨_, hexec _ _ (hv.trans hhd) (hsl _ hu _ _ _), AVR.mkInt _ _ _, AV.lt_dat, ?_⟩
                    have : maxLen = 9223372036854775807 := rfl
                    show (rt.at p).len ≤ _
                    omega
                  · cases h
                · cases h
              · cases h
            · -- part
              rename_i e t b r p lo hi hte hu
              simp only [Option.some.injEq] at hu
              subst hu
              obtain ⟨hu, _⟩ := slice_te (ttB_get htt hte)
              simp only [lenAV] at h
              split at h
              · rename_i rt hrt
                split at h
                · rename_i e' t' ht'
                  split at h
                  · rename_i hc
                    cases h
                    obtain ⟨p1, p2⟩ := hpre
                    have hn := R.node hrt p1 hc ht' p2
                    obtain ⟨g1, g2, g3⟩ := h1 rt hrt
                    have hhd : ∃ ad c, a.eval x = .slice ad (hi - lo) c := by
                      unfold subR at g3
                      split at g3
                      · obtain ⟨ad, g3, _⟩ := g3; exact ⟨_, _, g3⟩
                      · rename_i hnn
                        rcases hn.2 with h0 | ⟨b, cap, k, h0, _⟩
                        · have e0 : hi - lo = 0 := by omega
                          rw [e0]; exact ⟨_, _, g3⟩
                        · exact absurd h0 (hnn b cap k)
                    obtain ⟨ad, c, hhd⟩ := hhd
                    exact ⟨_, hexec _ _ hhd (hsl _ hu _ _ _), AVR.mkInt _ _ _, AV.lt_dat, g1⟩
                  · cases h
                · cases h
              · cases h
            · rename_i z hte hu
              simp only [Option.some.injEq] at hu
              subst hu
              have hd := basic_te (ttB_get htt hte)
              simp only at hd
              cases h
              have e1 := h1.str
              exact ⟨_, hexec _ _ e1 (fun w' => by simp [Builtin.len_, run_underlying hd]), AVR.mkInt _ _ _, AV.lt_dat, trivial⟩
            · cases hT
          · cases hT
      · cases h
    · -- max
      refine ⟨rfl, ?_⟩
      split at h
      · rename_i x y hargs
        have hargs' : args = #[x, y] := by rw [← Array.toArray_toList (xs := args), hargs]
        subst hargs'
        obtain ⟨u, v, hu, hv, h⟩ := opt2_some h
        split at h
        · rename_i k m k' n
          split at h
          · cases h
            have e1 := (R.ev hu).1.int
            have e2 := (R.ev hv).1.int
            refine ⟨.int k (max m n), fun w' => ?_, AVR.mkInt _ _ _, AV.lt_dat, trivial⟩
            have this : ∀ m n : Int, (if n > m then n else m) = max m n := by omega
            have this := this m n
            simp [execOp, resolve, invoke, builtin, e1, e2, run_max_int2, this]
          · cases h
        · cases h
      · cases h
    · -- min
      refine ⟨rfl, ?_⟩
      split at h
      · rename_i x y hargs
        have hargs' : args = #[x, y] := by rw [← Array.toArray_toList (xs := args), hargs]
        subst hargs'
        obtain ⟨u, v, hu, hv, h⟩ := opt2_some h
        split at h
        · rename_i k m k' n
          split at h
          · cases h
            have e1 := (R.ev hu).1.int
            have e2 := (R.ev hv).1.int
            refine ⟨.int k (min m n), fun w' => ?_, AVR.mkInt _ _ _, AV.lt_dat, trivial⟩
            have this : ∀ m n : Int, (if n < m then n else m) = min m n := by omega
            have this := this m n
            simp [execOp, resolve, invoke, builtin, e1, e2, run_min_int2, this]
          · cases h
        · cases h
      · cases h
    · cases h
end
end Fer
