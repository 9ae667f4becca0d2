/-
  graph.Make at the edges of a valid graph, in ascending order: sorting and compacting turn nothing.
  The graph is valid, its edges ascend.
-/
import Derived.Test.YtppflnkadjddiaaSame
import Derived.Test.YtppflnkadjddiaaSorted
namespace Go.Proofs.Ytppflnkadjddiaa
open Go.RowKit Go.Sort
set_option linter.unusedVariables false

theorem set_own {B g : Nat} {w : World} {e : TypeId} {sz : Nat} {v : Value} {n : Nat} {xs : List Value} (h : w.ownsRow B e sz v n xs) (hg : g < B) (a b c : Value) : (((w.setCell ⟨g, 0, none⟩ a).setCell ⟨g, 1, none⟩ b).setCell ⟨g, 2, none⟩ c).ownsRow B e sz v n xs :=
  ownsRow_setCell_below (ownsRow_setCell_below (ownsRow_setCell_below h hg _) hg _) hg _
theorem clone_any (base : Nat) (v : Value) (es : List Edge) (w : World) (ho : w.ownsRow base 64 3 v es.length (ecells es)) (hn : es.length ≤ 1024) :
    Calls Try.prog 79 #[v] w fun e w' => ∃ v', e = .returned v' ∧ w'.ownsRow w.heap.size 64 3 v' es.length (ecells es) ∧ Below w.heap.size w w' := by
  rcases ho.2 with ⟨rfl, h0⟩ | ⟨g, cap, cur, rfl, hg, hh, _⟩
  · refine (AnyE.slices_Clone_nil Try.clone 0 0 w).mono ?_
    rintro e w' ⟨rfl, rfl⟩
    refine ⟨_, rfl, ?_, Below.refl _ _⟩
    have hes : es = [] := List.length_eq_zero_iff.1 h0
    subst hes
    exact World.ownsRow_nil _ _ _ _
  · obtain ⟨i0, hi, hz0, hz1, hz2⟩ := info_parts Try.infoEdge
    have hc : ∀ j u, (ecells es)[j]? = some u → w.cell? ⟨g, 0 + j, none⟩ = some u := fun j u hj => by
      obtain ⟨b', o', e, hc'⟩ := (Sl.of_owns ho).cell hj
      simp only [Option.some.injEq, Addr.mk.injEq, and_true] at e
      obtain ⟨rfl, rfl⟩ := e
      exact hc'
    have h1 : ∀ u ∈ ecells es, u.oneCell' = true := by
      intro u hu
      simp only [ecells, List.mem_flatMap, Edge.enc] at hu
      obtain ⟨x, _, hx⟩ := hu
      simp only [List.mem_cons, List.not_mem_nil, or_false] at hx
      rcases hx with rfl | rfl | rfl <;> rfl
    refine (AnyE.slices_Clone Try.clone i0 _ 3 24 hi hz0 hz1 hz2 rfl (by decide) Try.sizeOf64 g 0 es.length cap (ecells es) w (ecells_len es) (by unfold maxLen; omega) (by omega) hc h1).mono ?_
    rintro e w' ⟨v', rfl, ho', _, hb⟩
    exact ⟨v', rfl, ho', hb⟩

set_option maxRecDepth 100000 in
set_option maxHeartbeats 2000000 in
theorem make_any (base : Nat) (L S : Int) (v : Value) (es : List Edge) (w : World) (hF : GFine L S es) (hp : es.Pairwise (fun x y => cmpE x y = -1)) (ho : w.ownsRow base 64 3 v es.length (ecells es)) :
    Calls Try.prog 53 #[.int .i64 L, .int .i64 S, v] w fun e w' => ∃ u, e = .returned (.tuple #[.agg #[.int .i64 L, .int .i64 S, u], .int .i64 0]) ∧ w'.ownsRow w.heap.size 64 3 u es.length (ecells es) ∧ Below w.heap.size w w' := by
  have HC := hid (fun W h => clone_any base v es W h hF.len)
  have HO := hid (ho.alloc (.cells #[.int .i64 0, .int .i64 0, .slice none 0 0] 55))
  have HS := hid (fun b v W1 W h1 h2 => sort_any b v es W1 W h1 h2 hF.len hp)
  have HCo := hid (fun v W h => compactAsc_any v es W h hF.asc)
  have HB := hid by_any
  have HCk := hid (fun v W h => gcheck_any L S v es W hF h)
  clear hF hp ho
  go_enter Try.func53, Try.ntmps53
  go_upto_region 1 with fail
  obtain ⟨w0, hw0⟩ : ∃ w0, w.alloc (.cells #[.int .i64 0, .int .i64 0, .slice none 0 0] 55) = w0 := ⟨_, rfl⟩
  have hb0 : Below w.heap.size w w0 := by rw [← hw0]; exact (Below.refl _ _).alloc (Nat.le_refl _) _
  have hl0 : w.heap.size < w0.heap.size := by rw [← hw0]; simp
  have r0 : w0.cell? ⟨w.heap.size, 0, none⟩ = some (.int .i64 0) := by rw [← hw0]; simp
  have r1 : w0.cell? ⟨w.heap.size, 1, none⟩ = some (.int .i64 0) := by rw [← hw0]; simp
  have r2 : w0.cell? ⟨w.heap.size, 2, none⟩ = some (.slice none 0 0) := by rw [← hw0]; simp
  have rf : ∀ j, w0.frozen? ⟨w.heap.size, j, none⟩ = false := by intro j; rw [← hw0]; exact frozen_laid (Below.refl _ _) j
  have HR := hid (And.intro r0 (And.intro r1 (And.intro r2 rf)))
  have HB0 := hid hb0
  rw [hw0] at HO ⊢
  clear hw0 hb0 r0 r1 r2 rf
  go_upto_region 2 with (go_at_call 79; refine (HC.out _ HO.out).mono ?_; rintro e w1 ⟨v1, rfl, ho1, hb1⟩)
  go_upto_region 3 with (first
    | (go_at_call 59; refine (HB.out _).mono ?_; rintro e w2 ⟨rfl, rfl⟩)
    | (go_at_call 80; refine (HS.out _ _ _ _ rfl ho1).mono ?_; rintro e w3 ⟨rfl, hG3⟩))
  have HO3 := hid (own_below (ho1.alloc (.cells #[.func (.func 60) #[] #[]] 98)) hG3.below)
  have HB3 := hid (show Below w.heap.size w w3 from bel_step (bel_step (bel_step HB0.out hb1) ((Below.refl _ _).alloc (Nat.le_refl _) _)) hG3.below)
  have HBr := hid (show Below w0.heap.size w0 w3 from bel_step (bel_step hb1 ((Below.refl _ _).alloc (Nat.le_refl _) _)) hG3.below)
  clear hG3 ho1 hb1 HC HS HB HO
  obtain ⟨a1, c1, rfl⟩ := own_slice HO3.out
  go_upto_region 4 with (go_at_call 81; refine (HCo.out _ _ (Sl.of_owns HO3.out)).mono ?_; rintro e w4 ⟨rfl, hD4⟩)
  obtain ⟨w5, hw5⟩ : ∃ w5, w4.alloc (.cells #[.int .i64 L, .int .i64 S, .slice a1 es.length c1] 55) = w5 := ⟨_, rfl⟩
  have hb5 : Below w4.heap.size w4 w5 := by rw [← hw5]; exact (Below.refl _ _).alloc (Nat.le_refl _) _
  have k0 : w5.cell? ⟨w4.heap.size, 0, none⟩ = some (.int .i64 L) := by rw [← hw5]; simp
  have k1 : w5.cell? ⟨w4.heap.size, 1, none⟩ = some (.int .i64 S) := by rw [← hw5]; simp
  have k2 : w5.cell? ⟨w4.heap.size, 2, none⟩ = some (.slice a1 es.length c1) := by rw [← hw5]; simp
  have HO5 := hid (own_below (own_below HO3.out (hD4.below _)) hb5)
  have HS5 := hid (Sl.of_owns HO5.out)
  have HB5 := hid (bel_step (bel_step HB3.out (hD4.below _)) hb5)
  have HBr5 := hid (bel_step (bel_step HBr.out (hD4.below _)) hb5)
  rw [hw5]
  clear hw5 hb5 hD4 HO3 HB3 HBr HCo
  go_wp2_with (go_at_call 36; refine (HCk.out _ _ HS5.out).mono ?_; rintro e w6 ⟨rfl, hb6⟩; have k0 := keeps hb6 k0; have k1 := keeps hb6 k1; have k2 := keeps hb6 k2; have hbr := bel_step HBr5.out hb6; have r0 := keeps hbr HR.out.1; have r1 := keeps hbr HR.out.2.1; have r2 := keeps hbr HR.out.2.2.1; have f0 := keeps_frozen hbr HR.out.1 (HR.out.2.2.2 0); have f1 := keeps_frozen hbr HR.out.2.1 (HR.out.2.2.2 1); have f2 := keeps_frozen hbr HR.out.2.2.1 (HR.out.2.2.2 2))
  have HO6 := own_below HO5.out hb6
  have HB6 := bel_step HB5.out hb6
  refine bodyPost_ret (v := .tuple #[.agg #[.int .i64 L, .int .i64 S, .slice a1 es.length c1], .int .i64 0]) ?_ rfl ⟨.slice a1 es.length c1, rfl, own_base (set_own HO6 hl0 _ _ _) (by omega), ?_⟩
  · simp only [results, Try.results53]
    simp [go_sem, r0, r1, r2]
  · exact ((HB6.setCell (p := ⟨w.heap.size, 0, none⟩) (Nat.le_refl _) _).setCell (p := ⟨w.heap.size, 1, none⟩) (Nat.le_refl _) _).setCell (p := ⟨w.heap.size, 2, none⟩) (Nat.le_refl _) _
end Go.Proofs.Ytppflnkadjddiaa
