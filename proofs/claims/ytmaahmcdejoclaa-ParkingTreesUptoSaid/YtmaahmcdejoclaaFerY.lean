import Derived.Test.YtmaahmcdejoclaaFerQ
import Derived.Shelf.SlSortCmp.NoneTotal
/- slices.SortFunc over plain structs, by the kit's contract: a list that is turned in place. Over any program. -/
namespace Fer
open Go Go.Sort Go.Proofs

/-- What a function that keeps its contract leaves behind is a world that has grown. -/
theorem grew_world {w w' : World} (g : Grew w w') : ∃ q os', w' = grow (w.drewN q) os' := by
  refine ⟨w'.drawn - w.drawn, w'.heap.extract w.heap.size w'.heap.size, ?_⟩
  have hd := g.output.dr trivial
  have hh : w'.heap = w.heap ++ w'.heap.extract w.heap.size w'.heap.size := by
    have hs := g.size
    apply Array.ext_getElem?
    intro i
    by_cases hi : i < w.heap.size
    · rw [Array.getElem?_append_left hi]
      exact g.old i hi
    · rw [Array.getElem?_append_right (by omega)]
      by_cases h2 : i < w'.heap.size
      · rw [Array.getElem?_extract]
        rw [if_pos (by omega), show w.heap.size + (i - w.heap.size) = i by omega]
      · rw [Array.getElem?_eq_none (by omega), Array.getElem?_eq_none (by simp; omega)]
  have h1 := g.os
  have h2 := g.tape
  have h3 := g.output.out
  cases w'
  cases w
  simp only at hh hd h1 h2 h3
  simp only [grow, World.drewN, World.mk.injEq]
  exact ⟨hh, h2, by omega, h1, h3⟩

/-- A comparison that keeps its contract is one that the sort takes. -/
theorem cmp_lays {P : Program} {g : Nat} {t : Ty} (hn : t.num = true) (hp : t.isProd = true) {gsp : Spec} (hg : FnOK P g gsp) (hps : gsp.ps = [t, t]) {cf : t.den → t.den → Int}
    (hwp : ∀ x y K, K [⟨.int .i64, cf x y⟩] → gsp.wp [⟨t, x⟩, ⟨t, y⟩] K) (blk off size : Nat) (w : World) : CmpLays P g #[] (encT t) t.width cf blk off size w := by
  intro m os dk _ x y
  generalize sortWorldK (encT t) t.width w blk off m dk os = W
  have hpk : ∀ z : t.den, Value.agg (encT t z).toArray = pack t (encT t z) := fun z => by
    cases t <;> first | rfl | (simp [Ty.isProd] at hp; done)
  have hA : Args W (oldS W) gsp.ps [⟨t, x⟩, ⟨t, y⟩] [pack t (encT t x), pack t (encT t y)] := by
    rw [hps]
    exact .cons (enc_ro t x hn) (.cons (enc_ro t y hn) .nil)
  have hc := hg.2 _ (fun outs => outs = [⟨.int .i64, cf x y⟩]) (hwp x y _ rfl) W _ hA
  rw [hpk, hpk, Array.append_empty]
  refine Calls.mono hc fun e w' h => ?_
  cases e with
  | returned v =>
    obtain ⟨hgr, outs, us, F, rfl, rfl, hR⟩ := h
    refine ⟨?_, grew_world hgr⟩
    cases hR with
    | cons h1 h2 _ =>
      cases h2
      obtain ⟨_, _, cs, rfl, h3⟩ := h1
      simp only [RO] at h3
      subst h3
      rfl
  | panicked => exact h.elim
  | outgrown => exact h.elim

/-- In order: no later one is less. -/
def SortedL {α : Type} [Inhabited α] (cf : α → α → Int) (l : List α) : Prop := ∀ i j, i < j → j < l.length → 0 ≤ cf (l.getD j default) (l.getD i default)

/-- From the library's contract of a sort to a function that turns a list in place. -/
theorem sort_core {P : Program} {f e : Nat} {t : Ty} (hn : t.num = true) {g : Nat} {cf : t.den → t.den → Int}
    (hfn : ∃ fn, P.funcs[f]? = some fn ∧ (fn.name == "runtime.NumGoroutine") = false ∧ fn.body.isNone = false)
    (hnone : ∀ (a : Option Addr) (cap : Nat) (fv : Value) (w : World), Calls P f #[.slice a 0 cap, fv] w fun e w' => e = .returned (.tuple #[]) ∧ w' = w)
    (hcall : ∀ (b cap : Nat) (d : Array t.den) (w : World), HoldsK (encT t) t.width w b 0 d → b < w.heap.size → d.size < 4611686018427387904 → Calls P f #[.slice (some ⟨b, 0, none⟩) d.size cap, .func (.func g) #[] #[]] w fun e w' =>
      e = .returned (.tuple #[]) ∧ ∃ d' n os, PermIn 0 d.size d d' ∧ SortedIn (ltOf cf) 0 d.size d' ∧ w' = sortWorldK (encT t) t.width w b 0 n d' os) {sp : Spec} (hps : sp.ps = [.list e t, .raw])
    (hwp : ∀ (l : List t.den) (fv : Value) (K : List TV → Prop), sp.wp [⟨.list e t, l⟩, ⟨.raw, fv⟩] K → fv = .func (.func g) #[] #[] ∧ l.length ≤ 1000000 ∧ ∀ l' : List t.den, l'.Perm l → SortedL cf l' → K [⟨.list e t, l'⟩]) : FnIp P f sp := by
  refine ⟨hfn, fun e' t' ts x args K hps' hK w v0 vs ct F hO' hF hA => ?_⟩
  rw [hps] at hps'
  simp only [List.cons.injEq, Ty.list.injEq] at hps'
  obtain ⟨⟨rfl, rfl⟩, rfl⟩ := hps'
  cases hA with
  | @cons _ _ fv _ cs _ hfv hA =>
  cases hA
  obtain ⟨rfl, hxl, hk⟩ := hwp x fv K hK
  obtain ⟨rfl, _⟩ := hfv
  by_cases hx : x = []
  · subst hx
    obtain ⟨a, cap, rfl⟩ : ∃ a cap, v0 = .slice a 0 cap := by
      rcases own_inv hO' with ⟨_, _, h, _⟩ | ⟨b, cap, kids, arr, Fs, _, h, _⟩
      · exact ⟨none, 0, by simpa using h⟩
      · exact ⟨_, cap, by simpa using h⟩
    refine Calls.mono (hnone a cap _ w) ?_
    rintro e' w' ⟨rfl, rfl⟩
    exact ⟨rfl, ⟨rfl, rfl, SameOut.refl _, Nat.le_refl _, fun _ _ => rfl⟩, [], ct, F, hk [] (.refl _) (fun i j _ h => by simp at h), fun n hn => ⟨fun h => h.2 hn, hF n hn⟩, own_full' (Nat.le_refl _) (Nat.le_refl _) hO'⟩
  · obtain ⟨b, cap, arr, rfl, q2, q3, hb, hsz, hFb, hH⟩ := own_holds hn hO' hx
    have hbs : b < w.heap.size := hF b ((hFb b).2 rfl)
    have hcap : cap ≤ arr.size := by rw [hsz]; exact Nat.le_mul_of_pos_right _ t.width_pos
    have hsmall : x.toArray.size < 4611686018427387904 := by simp only [List.size_toArray]; omega
    have hcon := hcall b cap x.toArray w hH hbs hsmall
    simp only [List.size_toArray] at hcon
    refine Calls.mono hcon ?_
    rintro e' w' ⟨rfl, d', n, os, hpm, hsr, rfl⟩
    obtain ⟨hs1, _, hs2⟩ := hpm
    have hs1 : d'.size = x.length := by simpa using hs1
    have hperm : d'.toList.Perm x := by
      have e1 : d'.extract 0 x.length = d' := by rw [← hs1, Array.extract_size]
      have e2 : x.toArray.extract 0 x.length = x.toArray := by
        have : x.toArray.size = x.length := by simp
        rw [← this, Array.extract_size]
      rw [e1, e2] at hs2
      simpa using hs2
    have hdl : d'.toList.toArray = d' := by simp
    have hdlen : d'.toList.length = x.length := by simpa using hs1
    have hget : ∀ i, i < x.length → d'[i]! = d'.toList.getD i default := fun i hi => by
      rw [getElem!_pos d' i (by omega), List.getD_eq_getElem?_getD, List.getElem?_eq_getElem (by omega)]
      simp
    have hsorted : SortedL cf d'.toList := fun i j hij hj => by
      have := hsr i j (Nat.zero_le _) hij (by omega)
      rw [hget i (by omega), hget j (by omega)] at this
      simp only [ltOf, decide_eq_false_iff_not] at this
      omega
    have hpre : ∀ m, m < w.heap.size → (sortWorldK (encT t) t.width w b 0 n d' os).heap[m]? = (putRowK (encT t) t.width (Sort.ahead w n) b 0 d').heap[m]? := fun m hm => by
      have : (putRowK (encT t) t.width (Sort.ahead w n) b 0 d').heap.size = w.heap.size := by simp only [putRowK, putRow, mapBlock, Sort.ahead, Array.size_modify]
      simp only [sortWorldK, grow]
      rw [Array.getElem?_append_left (by rw [this]; exact hm)]
    have hbF : ∀ m, m < w.heap.size → m ≠ b → (sortWorldK (encT t) t.width w b 0 n d' os).heap[m]? = w.heap[m]? := fun m hm hne => by
      rw [hpre m hm]
      simp only [putRowK, putRow, mapBlock, Sort.ahead, Array.getElem?_modify, if_neg (Ne.symm hne)]
    have hbb : (sortWorldK (encT t) t.width w b 0 n d' os).heap[b]? = some (.cells (putCells id 0 (flatK (encT t) t.width d'.toList.toArray) arr) e (0, 0)) := by
      rw [hpre b hbs, hdl]
      simp only [putRowK, putRow, mapBlock, Sort.ahead, Array.getElem?_modify, if_true, hb, Option.map_some, onCells]
    obtain ⟨ct', hown⟩ := holds_own (w' := sortWorldK (encT t) t.width w b 0 n d' os) (x' := d'.toList) hn hbb hsz (by rw [hdlen]; exact q2) q3
    have hsize : w.heap.size ≤ (sortWorldK (encT t) t.width w b 0 n d' os).heap.size := by
      simp only [sortWorldK, grow, putRowK, putRow, mapBlock, Sort.ahead, Array.size_append, Array.size_modify]; omega
    have hfb : F b := (hFb b).2 rfl
    refine ⟨rfl, ⟨rfl, rfl, ⟨rfl, fun a _ ha => ?_, hsize, fun _ => Nat.le_add_right _ _⟩, hsize, fun m hm => hbF m hm.1 fun e => hm.2 (e ▸ hfb)⟩, d'.toList, ct', fun n => n = b, hk _ hperm hsorted, fun m hm => ?_, ?_⟩
    · have h1 : (sortWorldK (encT t) t.width w b 0 n d' os).frozen? a = (putRowK (encT t) t.width (Sort.ahead w n) b 0 d').frozen? a := by
        unfold World.frozen?
        rw [hpre a.block ha]
      rw [h1]
      exact (frozen?_putRow id _ b 0 _ a).trans rfl
    · subst hm
      exact ⟨fun h => h.2 hfb, Nat.lt_of_lt_of_le hbs hsize⟩
    · rw [hdlen] at hown
      exact hown

theorem enters_call {P : Program} {g : Nat} {gsp : Spec} (hg : FnOK P g gsp) : ∀ args w, (callFunc g args).run P w = .ok (.enter g args) w := fun args w => by
  obtain ⟨fn, hf, hnm, hbd⟩ := hg.1
  exact run_call hf hnm hbd args

/-- slices.SortFunc over structs. -/
theorem sort_ip {P : Program} {ρ : Go.Shelf.Ren} (L : SlLaysF0.n6 P ρ) {e : Nat} {t : Ty} (hn : t.num = true) (hp : t.isProd = true) (aE : ∀ w, (isAgg (ρ.t 24)).run P w = .ok true w) (zE : ∀ w, (Go.sizeOf (ρ.t 24)).run P w = .ok t.width w)
    {g : Nat} {gsp : Spec} (hg : FnOK P g gsp) (hgps : gsp.ps = [t, t]) {cf : t.den → t.den → Int} (hgw : ∀ x y K, K [⟨.int .i64, cf x y⟩] → gsp.wp [⟨t, x⟩, ⟨t, y⟩] K) (hO : SWO (ltOf cf))
    (hfn : ∃ fn, P.funcs[ρ.f 6]? = some fn ∧ (fn.name == "runtime.NumGoroutine") = false ∧ fn.body.isNone = false) {sp : Spec} (hps : sp.ps = [.list e t, .raw])
    (hwp : ∀ (l : List t.den) (fv : Value) (K : List TV → Prop), sp.wp [⟨.list e t, l⟩, ⟨.raw, fv⟩] K → fv = .func (.func g) #[] #[] ∧ l.length ≤ 1000000 ∧ ∀ l' : List t.den, l'.Perm l → SortedL cf l' → K [⟨.list e t, l'⟩]) : FnIp P (ρ.f 6) sp :=
  sort_core hn hfn (AnyF.slices_SortFunc_none L) (fun b cap d w hH hb hs => AnyQ.slices_SortFunc L t.width aE zE (encT t) (encT_len t) (fun x v hv => encT_one t x hn v hv) cf hO g #[] b 0 cap d w (enters_call hg) (cmp_lays hn hp hg hgps hgw b 0 d.size w) hH hb hs) hps hwp

/-! ### Elements of one cell -/

end Fer
