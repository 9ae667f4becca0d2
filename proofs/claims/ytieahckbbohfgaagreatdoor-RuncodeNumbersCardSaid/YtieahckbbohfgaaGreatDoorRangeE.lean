/-
  A loop over an iterator that writes a variable of its own between two rounds, and whose body is never left early: the rounds are counted; what is handed on may depend on the world.
  No condition: a general lemma over the kit's laws of such loops.
-/
import Derived.RangeFuncBox
import Derived.RangeFuncCalls
namespace Go.Proofs.YtieahckbbohfgaaGreatDoor
open Go Go.RowKit

/-- The loop's record, and the block for its rounds' deferred calls. -/
structure RecAt (l D : Nat) (r : Loop) (W : World) : Prop where
  lp : W.heap[l]? = some (.loop r)
  df : W.heap[D]? = some (.deferred (some []))
theorem RecAt.kept {l D : Nat} {r : Loop} {W W' : World} (h : RecAt l D r W) (k : KeepsOthers W W') : RecAt l D r W' := ⟨k.same _ _ h.lp rfl, k.same _ _ h.df rfl⟩
/-- How the body of a round is left. -/
def BodyN (J : World → Prop) (W : World) : Exit → Act → World → Prop
  | .normal, _, W' => KeepsOthers W W' ∧ J W'
  | _, _, _ => False

theorem range_countedE {F : Fence} {n : Nat} {P : Program} {g : Operand} {ps : Array Tmp} {assign body : Code} {Q : Exit → Act → World → Prop} {a : Act} {w : World}
    (hro : F.round = none) (h1 : 1 ≤ n) {gf : Nat} {lb : Array Value} (hg : a.eval g = .func (.func gf) #[] lb) (hFg : F.fn gf) (eg : ∀ args w, (callFunc gf args).run P w = .ok (.enter gf args) w)
    (N : Nat) (I : Nat → World → Prop) (M : Nat → Array Value → World → Prop) (hps : ∀ k enc W, M k enc W → enc.size = ps.size)
    (hIa : ∀ W o, I 0 W → I 0 (W.alloc o)) (h0 : I 0 w)
    (hIp : ∀ k W l o o', w.heap.size ≤ l → W.heap[l]? = some o → o.isCells = false → I k W → I k (W.putObj l o'))
    (hMp : ∀ k enc W l o o', w.heap.size ≤ l → W.heap[l]? = some o → o.isCells = false → M k enc W → M k enc (W.putObj l o'))
    (hseq : ∀ (l D : Nat) (r : Loop) (W : World), w.heap.size ≤ D → w.heap.size ≤ l →
      (∀ k enc W, k < N → M k enc W → RecAt l D r W → YieldAt F (n - 1 - 1) P l enc W fun e W' => e = .returned (.bool true) ∧ I (k + 1) W' ∧ RecAt l D r W') → I 0 W → RecAt l D r W →
      CallsIn F (n - 1) P gf (#[.func (.yield l) #[] #[]] ++ lb) W fun e W' => (∃ v, e = .returned v) ∧ I N W' ∧ RecAt l D r W')
    (a₁ : Array Value → Act)
    (hassign : ∀ (l k : Nat) (enc : Array Value) (W : World) (K : Act → World → Prop), M k enc W → K (a₁ enc) W →
      assign.wpIn (F.inRound l) (n - 1 - 1) P (Exit.then K (fun _ _ _ => False)) { tmps := (ps.zip enc).foldl (fun t (p, v) => t.setIfInBounds p v) a.tmps, defers := [] } W)
    (hbody : ∀ (l k : Nat) (enc : Array Value) (W : World), k < N → M k enc W → body.wpIn (F.inRound l) (n - 1 - 1) P (BodyN (I (k + 1)) W) (a₁ enc) W)
    (hdone : ∀ (D : Nat) (W : World), w.heap.size ≤ D → I N W → W.heap[D]? = some (.deferred (some [])) → Q .normal { a with defers := { target := .collected D, args := #[] } :: a.defers } W) :
    (Code.rangeFunc g ps assign body).wpIn F n P Q a w := by
  refine wpIn_rangeFunc fun fn hfn => ?_
  rw [hro]
  obtain ⟨r, hr⟩ : ∃ r : Loop, { state := .ready, pending := none, fn, tmps := a.tmps, params := ps, assign, body, defers := w.heap.size } = r := ⟨_, rfl⟩
  have henter := run_enterLoop_outer (P := P) (w := w) fn a.tmps ps assign body
  rw [hr] at henter
  have hrec : RecAt (w.heap.size + 1) w.heap.size r ((w.alloc (.deferred (some []))).alloc (.loop r)) := by
    constructor
    · have := World.alloc_heap_new (w.alloc (.deferred (some []))) (.loop r)
      rwa [World.size_alloc] at this
    · exact (Below.heap_alloc _ _ _ (by simp)).trans (World.alloc_heap_new w _)
  generalize hW1 : (w.alloc (.deferred (some []))).alloc (.loop r) = W1 at henter hrec
  have hI1 : I 0 W1 := by rw [← hW1]; exact hIa _ _ (hIa _ _ h0)
  refine ⟨w.heap.size + 1, [{ target := .collected w.heap.size, args := #[] }], W1, { target := .fn (.func gf) lb, args := #[.func (.yield (w.heap.size + 1)) #[] #[]] }, W1, gf, #[.func (.yield (w.heap.size + 1)) #[] #[]] ++ lb, W1, henter, ?_, ?_, ?_, fun _ => h1, ?_⟩
  · simp only [resolve, hg]
    simp [go_sem]
  · intro f' hf'
    simp [Target.leads] at hf'
    subst hf'
    exact hFg
  · simp [invoke, go_sem, eg]
  refine (hseq (w.heap.size + 1) w.heap.size r _ (Nat.le_refl _) (by omega) ?_ hI1 hrec).mono ?_
  · intro k enc W hk hM hR
    have hy := run_yield (P := P) (args := enc) hR.lp (by rw [← hr]; exact hps k enc W hM)
    rw [← hr] at hy
    have hbegin := run_beginRound (P := P) hR.lp (by rw [← hr])
    refine ⟨_, _, _, _, hy, roundIn_of_wpIn hfn (hassign _ k enc W _ hM ⟨_, hbegin, ?_⟩)⟩
    have hl := (Array.getElem?_eq_some_iff.1 hR.lp).1
    have hne : w.heap.size ≠ w.heap.size + 1 := by omega
    refine wpIn_mono (hbody (w.heap.size + 1) k enc _ hk (hMp k enc W _ _ _ (by omega) hR.lp rfl hM)) ?_
    rintro e a3 W3 hp
    cases e with
    | normal =>
      obtain ⟨hk3, hi3⟩ := hp
      have hl3 := hk3.same _ _ (World.putObj_heap_same (o := .loop { r with state := .busy }) hl) rfl
      have hd3 := hk3.same _ _ ((World.putObj_heap_other hne).trans hR.df) rfl
      refine ⟨_, _, run_endRound none hl3, rfl, hIp _ _ _ _ _ (by omega) hl3 rfl hi3, ?_, (World.putObj_heap_other hne).trans hd3⟩
      rw [World.putObj_heap_same (Array.getElem?_eq_some_iff.1 hl3).1, ← hr]
      rfl
    | _ => exact hp.elim
  · rintro e W2 ⟨⟨v, rfl⟩, hi, hR⟩
    have hend := run_endLoop (P := P) hR.lp (by rw [← hr]; simp)
    have hne : w.heap.size ≠ w.heap.size + 1 := by omega
    refine ⟨_, _, hend, ?_⟩
    rw [← hr]
    exact hdone _ _ (Nat.le_refl _) (hIp _ _ _ _ _ (by omega) hR.lp rfl hi) ((World.putObj_heap_other hne).trans hR.df)
end Go.Proofs.YtieahckbbohfgaaGreatDoor
