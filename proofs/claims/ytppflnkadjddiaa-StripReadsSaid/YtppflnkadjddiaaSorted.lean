/-
  slices.SortFunc at edges that ascend: nothing turns.
  The edges ascend.
-/
import Derived.Test.YtppflnkadjddiaaEssMaps
import Derived.Test.YtppflnkadjddiaaGenS
namespace Go.Proofs.Ytppflnkadjddiaa
open Go.RowKit Go.Sort
set_option linter.unusedVariables false

theorem cmpZ_neg {a b : Int} : cmpZ a b < 0 ↔ a < b := by unfold cmpZ; split <;> (try split) <;> omega
theorem cmpE_neg (x y : Edge) : cmpE x y < 0 ↔ x.f < y.f ∨ (x.f = y.f ∧ (x.l < y.l ∨ (x.l = y.l ∧ x.t < y.t))) := by
  obtain ⟨a, b, c⟩ := x
  obtain ⟨d, e, f⟩ := y
  simp only [cmpE, Edge.nums, cmpL]
  by_cases h1 : cmpZ a d = 0
  · have e1 := cmpZ_zero.1 h1
    rw [if_pos h1]
    by_cases h2 : cmpZ b e = 0
    · have e2 := cmpZ_zero.1 h2
      rw [if_pos h2]
      by_cases h3 : cmpZ c f = 0
      · have e3 := cmpZ_zero.1 h3
        rw [if_pos h3]; omega
      · rw [if_neg h3, cmpZ_neg]; omega
    · have n2 : ¬ b = e := fun h => h2 (cmpZ_zero.2 h)
      rw [if_neg h2, cmpZ_neg]; omega
  · have n1 : ¬ a = d := fun h => h1 (cmpZ_zero.2 h)
    rw [if_neg h1, cmpZ_neg]; omega
theorem lt_edge (x y : Edge) : ltOf cmpE x y = decide (x.f < y.f ∨ (x.f = y.f ∧ (x.l < y.l ∨ (x.l = y.l ∧ x.t < y.t)))) := by
  rw [ltOf, decide_eq_decide]; exact cmpE_neg x y
theorem swo_edge : SWO (ltOf cmpE) := by
  refine ⟨fun x => ?_, fun x y z h1 h2 => ?_, fun x y z h1 h2 => ?_⟩
  all_goals simp only [lt_edge, decide_eq_true_iff, decide_eq_false_iff_not] at *
  all_goals omega
theorem tot_edge : ∀ x y : Edge, ltOf cmpE x y = false → ltOf cmpE y x = false → x = y := by
  intro x y h1 h2
  simp only [lt_edge, decide_eq_false_iff_not] at h1 h2
  obtain ⟨a, b, c⟩ := x
  obtain ⟨d, e, f⟩ := y
  simp only [Edge.mk.injEq] at *
  omega
theorem sort_asc {es : List Edge} (hp : es.Pairwise (fun x y => cmpE x y = -1)) : (es.mergeSort fun x y => !(ltOf cmpE) y x) = es := by
  refine List.mergeSort_of_pairwise (hp.imp fun {x y} h => ?_)
  have h1 : ltOf cmpE x y = true := by rw [ltOf, h]; rfl
  have h2 : ltOf cmpE y x = false := by
    cases h3 : ltOf cmpE y x
    · rfl
    · have := swo_edge.trans _ _ _ h1 h3
      rw [swo_edge.irrefl] at this
      cases this
  rw [h2]; rfl

theorem ecells_at {es : List Edge} {j : Nat} (hj : j < es.length * 3) : (ecells es)[j]? = some ((Edge.enc (es.toArray[j / 3]!))[j % 3]!) := by
  obtain ⟨x, hx⟩ := some_of_lt (l := es) (k := j / 3) (by omega)
  obtain ⟨h1, h2, h3⟩ := ecells_get hx
  have e : es.toArray[j / 3]! = x := by
    rw [List.getElem!_toArray, List.getElem!_eq_getElem?_getD, hx]; rfl
  rw [e]
  have hm : j % 3 = 0 ∨ j % 3 = 1 ∨ j % 3 = 2 := by omega
  rcases hm with hm | hm | hm
  · rw [hm, ← show j / 3 * 3 = j by omega] ; simpa [Edge.enc] using h1
  · rw [hm]; rw [show j / 3 * 3 + 1 = j by omega] at h2; simpa [Edge.enc] using h2
  · rw [hm]; rw [show j / 3 * 3 + 2 = j by omega] at h3; simpa [Edge.enc] using h3

theorem holds_edges {base : Nat} {w : World} {g cap : Nat} {es : List Edge} (ho : w.ownsRow base 64 3 (.slice (some ⟨g, 0, none⟩) es.length cap) es.length (ecells es)) (hh : ∃ cur e, w.heap[g]? = some (.cells cur e (0, 0))) : HoldsK Edge.enc 3 w g 0 es.toArray := by
  intro j hj
  rw [size_flatK] at hj
  have hj' : j < es.length * 3 := by simpa using hj
  rw [get_flatK _ _ _ _ hj]
  refine ⟨?_, ?_⟩
  · obtain ⟨b', o', e, hc'⟩ := (Sl.of_owns ho).cell (ecells_at hj')
    simp only [Option.some.injEq, Addr.mk.injEq, and_true] at e
    obtain ⟨rfl, rfl⟩ := e
    exact hc'
  · obtain ⟨cur, e, hh⟩ := hh
    simp [World.frozen?, hh]

theorem sort_any (base : Nat) (v : Value) (es : List Edge) (W w : World) (hW : W = w.alloc (.cells #[.func (.func 60) #[] #[]] 98)) (ho : w.ownsRow base 64 3 v es.length (ecells es)) (hn : es.length ≤ 1024) (hp : es.Pairwise (fun x y => cmpE x y = -1)) :
    Calls Try.prog 80 #[v, .func (.func 89) #[] #[.pointer (some ⟨w.heap.size, 0, none⟩)]] W fun e w' => e = .returned (.tuple #[]) ∧ Gr W w' := by
  subst hW
  rcases ho.2 with ⟨rfl, h0⟩ | ⟨g, cap, cur, rfl, hg, hh, _⟩
  · refine (AnyF.slices_SortFunc_none Try.sort none 0 _ _).mono ?_
    rintro e w' ⟨rfl, rfl⟩
    exact ⟨rfl, Gr.refl _⟩
  · have hgl : g < w.heap.size := (Array.getElem?_eq_some_iff.1 hh).1
    have ho' := ho.alloc (.cells #[.func (.func 60) #[] #[]] 98)
    have hcB : (w.alloc (.cells #[.func (.func 60) #[] #[]] 98)).cell? ⟨w.heap.size, 0, none⟩ = some (.func (.func 60) #[] #[]) := by simp
    have hszB : (w.alloc (.cells #[.func (.func 60) #[] #[]] 98)).heap.size = w.heap.size + 1 := by simp
    have hhB : (w.alloc (.cells #[.func (.func 60) #[] #[]] 98)).heap[g]? = some (.cells cur 64 (0, 0)) := by rw [Below.heap_alloc _ _ _ hgl]; exact hh
    generalize (w.alloc (.cells #[.func (.func 60) #[] #[]] 98)) = W at *
    have eg : ∀ args w, (callFunc 89 args).run Try.prog w = .ok (.enter 89 args) w := enters_of Try.func89 (by kernel_rfl) rfl
    have hcmp : CmpLays Try.prog 89 #[.pointer (some ⟨w.heap.size, 0, none⟩)] Edge.enc 3 cmpE g 0 es.toArray.size W := by
      intro m os dk _ x y
      have hne : w.heap.size ≠ g := by omega
      have hcell : (sortWorldK Edge.enc 3 W g 0 m dk os).cell? ⟨w.heap.size, 0, none⟩ = some (.func (.func 60) #[] #[]) := by
        have hblk : (sortWorldK Edge.enc 3 W g 0 m dk os).heap[w.heap.size]? = W.heap[w.heap.size]? := heap_sortWorld (α := Value) id W g 0 m (flatK Edge.enc 3 dk) os (by omega) hne
        exact (World.cell?_of_block (a := ⟨w.heap.size, 0, none⟩) hblk).trans hcB
      refine (clos89_any w.heap.size x y _ hcell).mono ?_
      rintro e w' ⟨rfl, q, os', rfl⟩
      exact ⟨rfl, q, os', rfl⟩
    have hH := holds_edges ho' ⟨_, _, hhB⟩
    have hlen : es.length = es.toArray.size := by simp
    rw [hlen]
    refine (AnyQ.slices_SortFunc_total Try.sort 3 Try.isAgg64 Try.sizeOf64 Edge.enc (fun _ => rfl) (fun x v hv => by simp only [Edge.enc, List.mem_cons, List.not_mem_nil, or_false] at hv; rcases hv with rfl | rfl | rfl <;> rfl) cmpE swo_edge 89 #[.pointer (some ⟨w.heap.size, 0, none⟩)] g 0 cap es.toArray W eg hcmp hH (by omega) (by simp; omega) tot_edge).mono ?_
    rintro e w' ⟨rfl, n, os, rfl⟩
    refine ⟨rfl, n, os, ?_⟩
    have hs : (es.toArray.toList.mergeSort fun x y => !(ltOf cmpE) y x).toArray = es.toArray := by rw [List.toList_toArray, sort_asc hp]
    rw [hs]
    unfold sortWorldK
    rw [putRowK_self _ _ _ _ _ _ (holdsK_ahead _ _ _ _ _ _ _ hH)]
    rfl

end Go.Proofs.Ytppflnkadjddiaa
