/-
  What the bound on the whole of the arguments tells of tables of numbers. No condition.
-/
import Derived.Test.YtmaahmcdejoclaaRows
import Derived.Test.YtmaahmcdejoclaaComB
set_option linter.unusedSimpArgs false
set_option linter.unusedVariables false
namespace Fer
open Go Go.Proofs Go.Proofs.Ytmaahmcdejoclaa

theorem bulk_one {H : Type} (d : DataW H) : 1 ≤ Rows.uptoBulk d := by
  cases d with
  | lit l => cases l <;> simp [Rows.uptoBulk]
  | nil => simp [Rows.uptoBulk]
  | ptr d => simp [Rows.uptoBulk]
  | slice elems spare => simp [Rows.uptoBulk]
  | agg parts => simp [Rows.uptoBulk]
  | iface t d => simp [Rows.uptoBulk]
  | map entries => simp [Rows.uptoBulk]
  | held h => simp [Rows.uptoBulk]
theorem bulk_length {H : Type} (l : List (DataW H)) : l.length ≤ Rows.uptoBulkAll l := by
  induction l with
  | nil => simp [Rows.uptoBulkAll]
  | cons x r ih => have := bulk_one x; simp only [Rows.uptoBulkAll, List.length_cons]; omega

theorem bulk_rowG {H : Type} {e : Nat} {u : Ty} {l : List u.den} {d : DataW H} (h : Rd (.list e u) l d) : l.length + 1 ≤ Rows.uptoBulk d := by
  rcases h with ⟨rfl, rfl⟩ | ⟨els, sp, rfl, hl, _⟩
  · simp [Rows.uptoBulk]
  · have := bulk_length els
    have hl2 : els.length = List.length l := hl
    simp only [Rows.uptoBulk]
    omega
theorem bulk_row {H : Type} {e : Nat} {l : List Int} {d : DataW H} (h : Rd (.list e (.int .i64)) l d) : l.length + 1 ≤ Rows.uptoBulk d := by
  rcases h with ⟨rfl, rfl⟩ | ⟨els, sp, rfl, hl, _⟩
  · simp [Rows.uptoBulk]
  · have := bulk_length els
    have hl2 : els.length = List.length l := hl
    simp only [Rows.uptoBulk]
    omega

theorem bulk_of {H : Type} {l : List (DataW H)} (hk : Rows.uptoSmall H l = true) : Rows.uptoBulkAll l ≤ 1048576 := of_decide_eq_true hk
end Fer
