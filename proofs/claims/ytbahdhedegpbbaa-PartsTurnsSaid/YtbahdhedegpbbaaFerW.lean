/- From a function's contract to what the form asks of a law's call. Over any program. -/
import Derived.Test.YtbahdhedegpbbaaFerV
import Derived.OpenShut
namespace Fer
open Go Go.ChangeShapes Go.WideShapes Go.RowKit

/-- Data that are read of typed arguments. -/
inductive RdAll {H : Type} : List TV → List (DataW H) → Prop
  | nil : RdAll [] []
  | cons {v d vs ds} (h : Rd v.t v.x d) (hl : RdAll vs ds) : RdAll (v :: vs) (d :: ds)

def tysOK (tt : List (Nat × TE)) : List Nat → List Ty → Bool
  | [], [] => true
  | T :: Ts, t :: ts => tyOK tt T t && tysOK tt Ts ts
  | _, _ => false

section
variable {H : Type} {enc : TypeId × Value → H} {P : Program} {tt : List (Nat × TE)} {w : World}

theorem okWide_cells (htt : ttB P tt = true) {T base : Nat} {t : Ty} (h : tyOK tt T t = true) {v : Value} (hv : Value.okWide P w .any base T v) : v.cells.toList = [v] ∧ pack t [v] = v := by
  cases t with
  | int k => have hT := tyOK_int htt h; simp only [Value.okWide, hT, Cell.okWide] at hv; cases v <;> simp_all [Cell.ok, Value.cells, pack]
  | bool => have hT := tyOK_bool htt h; simp only [Value.okWide, hT, Cell.okWide] at hv; cases v <;> simp_all [Cell.ok, Value.cells, pack]
  | str => have hT := tyOK_str htt h; simp only [Value.okWide, hT, Cell.okWide] at hv; cases v <;> simp_all [Cell.ok, Value.cells, pack]
  | list e t =>
    obtain ⟨hT, _, _⟩ := tyOK_list htt h
    obtain ⟨a, len, cap, rfl⟩ := okWide_slice hT hv
    exact ⟨rfl, rfl⟩
  | raw => simp [tyOK] at h
  | prod a b => simp [tyOK] at h

theorem args_open (htt : ttB P tt = true) : ∀ (Ts : List Nat) (ts : List Ty) (vs : List Value) (ds : List (DataW H)) (ps : List MemPlace), tysOK tt Ts ts = true → DataW.TrodAll enc P w 0 (fun _ => true) true Ts vs ds ps →
    (∀ (j : Nat) T v, Ts[j]? = some T → vs[j]? = some v → Value.okWide P w .any 0 T v) →
    ∃ tvs, Args w (oldS w) ts tvs vs ∧ RdAll tvs ds ∧ ∀ (w' : World) (sp : Nat → Bool), (∀ n, n < w.heap.size → w'.heap[n]? = w.heap[n]?) → (∀ p ∈ ps, sp p.block = true) → DataW.TrodAll enc P w' 0 sp true Ts vs ds ps
  | [], ts, vs, ds, ps, hty, h, _ => by
    obtain ⟨rfl, rfl, rfl⟩ := trodAll_nil h
    cases ts with
    | nil => exact ⟨[], .nil, .nil, fun _ _ _ _ => trodAll_mk0⟩
    | cons => simp [tysOK] at hty
  | T :: Ts, ts, vs, ds, ps, hty, h, hv => by
    obtain ⟨v, vs, d, ds, p, q, rfl, rfl, rfl, h1, h2⟩ := trodAll_cons h
    cases ts with
    | nil => simp [tysOK] at hty
    | cons t ts =>
      simp only [tysOK, Bool.and_eq_true] at hty
      obtain ⟨fuel, h1⟩ := h1
      obtain ⟨e1, e2⟩ := okWide_cells htt hty.1 (hv 0 T v rfl rfl)
      rw [e1] at h1
      obtain ⟨x, r1, r2, r3⟩ := trod_open htt t T fuel [v] d p hty.1 h1
      obtain ⟨tvs, a1, a2, a3⟩ := args_open htt Ts ts vs ds q hty.2 h2 (fun j T' v' hj hj' => hv (j + 1) T' v' (by simpa using hj) (by simpa using hj'))
      refine ⟨⟨t, x⟩ :: tvs, ?_, .cons r2 a2, fun w' sp hw' hsp => ?_⟩
      · have := Args.cons r1 a1; rwa [e2] at this
      · obtain ⟨n, hn⟩ := r3 w' sp hw' fun y hy => hsp y (List.mem_append_left _ hy)
        exact trodAll_cons_mk ⟨n, by rw [e1]; exact hn⟩ (a3 w' sp hw' fun y hy => hsp y (List.mem_append_right _ hy))

theorem trodAll_len {base : Nat} {sp : Nat → Bool} {b : Bool} : ∀ {Ts : List Nat} {vs : List Value} {ds : List (DataW H)} {ps : List MemPlace}, DataW.TrodAll enc P w base sp b Ts vs ds ps → ds.length = Ts.length
  | [], _, _, _, h => by obtain ⟨_, rfl, _⟩ := trodAll_nil h; rfl
  | T :: Ts, _, _, _, h => by
    obtain ⟨v, vs, d, ds, p, q, _, rfl, _, _, h2⟩ := trodAll_cons h
    simp [trodAll_len h2]

theorem Grew.kept {w w' : World} (g : Grew w w') (may : MemPlace → Prop) : w.keptBut w' may := by
  refine ⟨g.os, g.output.out, fun i hi => ?_⟩
  rw [g.old i hi]
  have := (World.keptBut_refl w may).2.2 i hi
  exact this

/-- A law's call. -/
theorem law_calls2 {f : Nat} {fn : Func} {sp : Spec} {T : Nat} (htt : ttB P tt = true) (hOK : FnOK P f sp) (htys : tysOK tt fn.params.toList sp.ps = true) (hrt : fn.resultTypes = #[T]) (hT : P.underlying T = some .bool)
    {s : ChangeSpec} (hvars : s.vars = []) {W : World} {args : Array Value} {ds gs : List (DataW H)} {before : List MemPlace} (hspec : s.fn H ds = { results := [.lit (.bool true)], args := ds })
    (hval : ∀ (j : Nat) t v, fn.params[j]? = some t → args[j]? = some v → Value.okWide P W .any 0 t v)
    (hW : DataW.Whole enc P fn.params.toList s.vars false W args.toList ds gs before)
    (hwp : ∀ tvs : List TV, tvs.map (·.t) = sp.ps → RdAll tvs ds → sp.wp tvs fun outs => outs = [⟨.bool, true⟩]) {fresh handsOn again : Bool} :
    Calls P f args W fun e W' => ∃ v, e = .returned v ∧ s.post enc P fn false fresh handsOn again W args v W' := by
  have hW' := hW
  rw [hvars] at hW
  obtain ⟨p, q, hA, hV, rfl, hfz, hnd⟩ := hW
  obtain ⟨rfl, rfl⟩ := trodVars_none hV
  obtain ⟨tvs, a1, a2, a3⟩ := args_open htt fn.params.toList sp.ps args.toList ds p htys hA (fun j T v h1 h2 => hval j T v (by simpa using h1) (by simpa using h2))
  have hc := hOK.2 tvs _ (hwp tvs (args_get a1).2.1 a2) W args.toList a1
  have hargs : args.toList.toArray = args := Array.toArray_toList
  rw [hargs] at hc
  refine hc.mono fun e W' he => ?_
  cases e with
  | panicked => exact he.elim
  | outgrown => exact he.elim
  | returned v =>
    obtain ⟨g, outs, us, F, rfl, rfl, hR⟩ := he
    cases hR with
    | cons h1 hl hd =>
      cases hl
      obtain ⟨_, _, cs, rfl, hb⟩ := h1
      simp only [RO] at hb
      subst hb
      have hv : valOf [pack Ty.bool [Value.bool true]] = .bool true := rfl
      rw [hv]
      have hspec' : s.fn H (ds ++ []) = { results := [.lit (.bool true)], args := ds } := by rw [List.append_nil]; exact hspec
      refine ⟨_, rfl, post_of_same (pa := p) (pv := []) hW' (fun b sp' hd' => ?_) (fun sp' hsp => ?_) (fun _ _ => ?_) rfl (g.kept _) g.output.fz (fun j T' r hj hr => ?_)⟩
      · rw [hrt, hspec']
        exact trodAll_cons_mk (p := []) (p' := []) (shut_bool hT true) trodAll_mk0
      · rw [hspec']
        exact a3 W' sp' g.old fun y hy => hsp y (by simpa using hy)
      · rw [hspec', hvars]; rfl
      · rw [hrt] at hj hr
        cases j with
        | zero =>
          simp [Value.resultList] at hj hr
          subst hj; subst hr
          exact okWide_bool_mk hT _
        | succ j => simp at hj

theorem law_calls {f : Nat} {fn : Func} {sp : Spec} {T : Nat} (htt : ttB P tt = true) (hOK : FnOK P f sp) (htys : tysOK tt fn.params.toList sp.ps = true) (hrt : fn.resultTypes = #[T]) (hT : P.underlying T = some .bool)
    {s : ChangeSpec} (hvars : s.vars = []) {W : World} {args : Array Value} {ds gs : List (DataW H)} {before : List MemPlace} (hspec : s.fn H ds = { results := [.lit (.bool true)], args := ds })
    (hval : ∀ (j : Nat) t v, fn.params[j]? = some t → args[j]? = some v → Value.okWide P W .any 0 t v)
    (hW : DataW.Whole enc P fn.params.toList s.vars false W args.toList ds gs before)
    (hwp : ∀ tvs, RdAll tvs ds → sp.wp tvs fun outs => outs = [⟨.bool, true⟩]) {fresh handsOn again : Bool} :
    Calls P f args W fun e W' => ∃ v, e = .returned v ∧ s.post enc P fn false fresh handsOn again W args v W' :=
  law_calls2 htt hOK htys hrt hT hvars hspec hval hW fun tvs _ h => hwp tvs h

end
end Fer
