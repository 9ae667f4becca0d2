/-
  A map from pairs of offsets to numbers that the call itself has made, 0 where there is none.
  No condition: these are general lemmas.
-/
import Derived.Test.YtcobdmenigpipaaGreatDoorInsMap
namespace Go.Proofs.YtcobdmenigpipaaGreatDoor
open Go.RowKit
set_option linter.unusedVariables false

abbrev Rst := Int × Int
theorem Tryz.rowRst : (59 : TypeId) < Tryz.prog.types.size := of_decide_eq_true (by kernel_rfl)
theorem Tryz.wideRst : (match Tryz.prog.underlying 59 with | some (.array _ _) | some (.struct _) => true | _ => false) = true := by rw [Tryz.underlying59]
set_option maxRecDepth 100000 in
theorem Tryz.keyRst : Maps.Keyed Tryz.prog 59 := Maps.Keyed.of_law (deep_law_laid Tryz.laidIns (m := 3) (by omega) Tryz.rowRst (by kernel_rfl) Tryz.wideRst)
theorem Tryz.keyTypeRst : Tryz.prog.keyType 59 = true := by kernel_rfl
theorem Tryz.cellsRst : Tryz.prog.cellsOf 59 = 2 := by kernel_rfl
def rstV (x : Rst) : Value := .agg #[.int .i64 x.1, .int .i64 x.2]
def rstK (x : Rst) : Lit := .string (keyBytes [.int .i64 x.1, .int .i64 x.2])
def OkRst (x : Rst) : Prop := Ok64 x.1 ∧ Ok64 x.2
theorem Tryz.keyOfRst (x : Rst) (h : OkRst x) : keyOf Tryz.prog 59 (rstV x) = some (rstK x) := by
  obtain ⟨h1, h2⟩ := h
  obtain ⟨m, hm⟩ := Tryz.sizeIns
  unfold keyOf rstV rstK
  simp only [Tryz.underlying59]
  rw [if_pos (by simp [Tryz.keyTypeRst, Value.formed, Tryz.underlying59, Tryz.cellsRst]), hm]
  unfold Program.keyLits
  simp only [Tryz.underlying59, Value.cells]
  rw [if_pos (by rw [Tryz.cellsRst]; exact ⟨rfl, by kernel_rfl⟩)]
  simp [List.mapM_cons, Tryz.cellsInt, Program.keyLits, Tryz.underlying3, wf64 h1, wf64 h2]
theorem rstK_inj {x y : Rst} (hx : OkRst x) (hy : OkRst y) (h : rstK x = rstK y) : x = y := by
  have h1 := Tryz.keyOfRst x hx
  have h2 := Tryz.keyOfRst y hy
  rw [h] at h1
  have := Tryz.keyRst.inj h1 h2
  unfold rstV at this
  simp at this
  cases x; cases y
  simp at this
  simp [this]
/-- The block b is a map of at most n entries; it says f of each pair. -/
def RZ (w : World) (b n : Nat) (f : Rst → Int) : Prop :=
  ∃ D : DataW Unit, w.ownsMap Tryz.prog 59 (plainElem Tryz.prog 3) b n D ∧ ∀ x : Rst, OkRst x → D.atKey (rstK x) (.lit (.int .i64 0)) = .lit (.int .i64 (f x))
theorem RZ.made (w : World) : RZ (w.alloc (.map #[] 0)) w.heap.size 0 (fun _ => 0) := ⟨_, World.ownsMap_made w _ _ _, fun s _ => rfl⟩
theorem RZ.same {w w' : World} {b n : Nat} {f : Rst → Int} (h : RZ w b n f) (hh : w'.heap[b]? = w.heap[b]?) : RZ w' b n f := by
  obtain ⟨D, ⟨es, clock, hb, hF, hs, hD⟩, hf⟩ := h
  exact ⟨D, ⟨es, clock, hh.trans hb, hF, hs, hD⟩, hf⟩
theorem RZ.lt {w : World} {b n : Nat} {f : Rst → Int} (h : RZ w b n f) : b < w.heap.size := by
  obtain ⟨D, hD, _⟩ := h
  exact hD.lt
theorem RZ.below {w w' : World} {b n : Nat} {f : Rst → Int} (h : RZ w b n f) (hb : Below w.heap.size w w') : RZ w' b n f := h.same (hb.block b h.lt)
theorem RZ.congr {w : World} {b n : Nat} {f g : Rst → Int} (h : RZ w b n f) (he : ∀ s, f s = g s) : RZ w b n g := by
  obtain ⟨D, hD, hf⟩ := h
  exact ⟨D, hD, fun s hs => by rw [hf s hs, he]⟩
theorem RZ.mono {w : World} {b n m : Nat} {f : Rst → Int} (h : RZ w b n f) (hm : n ≤ m) : RZ w b m f := by
  obtain ⟨D, ⟨es, clock, hb, hF, hs, hD⟩, hf⟩ := h
  exact ⟨D, ⟨es, clock, hb, hF, by omega, hD⟩, hf⟩
theorem RZ.look {w : World} {b n : Nat} {f : Rst → Int} (h : RZ w b n f) (x : Rst) (hx : OkRst x) : (Instr.lookup 56 (.map (some b)) (rstV x) false).run Tryz.prog w = .ok (.int .i64 (f x)) w := by
  obtain ⟨D, hD, hf⟩ := h
  obtain ⟨v, ps, hrun, hv⟩ := hD.lookup Tryz.keyRst Tryz.underlying56 (by exact Tryz.zeroValue3 w) (plainElem_int Tryz.underlying3 (wf64 (show Ok64 0 by unfold Ok64; omega))) (Tryz.keyOfRst x hx)
  rw [hf x hx] at hv
  obtain ⟨a, h1, h2, h3⟩ := plainElem_int_inv Tryz.underlying3 hv
  simp only [Prod.mk.injEq, DataW.lit.injEq, Lit.int.injEq, true_and] at h2
  rw [hrun, h1, h2.1]
theorem RZ.store {w : World} {b n : Nat} {f : Rst → Int} (h : RZ w b n f) (hn : n < 1000000) (x : Rst) (hx : OkRst x) (c : Int) (hc : Ok64 c) :
    ∃ w', (Instr.mapUpdate 56 (.map (some b)) (rstV x) (.int .i64 c)).run Tryz.prog w = .ok () w' ∧ RZ w' b (n + 1) (fun y => if y = x then c else f y) ∧ w.grownBy w' (some b) := by
  obtain ⟨D, hD, hf⟩ := h
  obtain ⟨w', hrun, hown, hg⟩ := hD.update Tryz.keyRst Tryz.underlying56 (by unfold maxLen; omega) (Tryz.keyOfRst x hx) (plainElem_int Tryz.underlying3 (wf64 hc))
  refine ⟨w', hrun, ⟨_, hown, fun y hy => ?_⟩, hg⟩
  by_cases ht : y = x
  · subst ht
    rw [Maps.atKey_put_same hD.isMap (show WideAt.IsKeyLit (rstK y) from trivial)]; simp
  · have hne : rstK y ≠ rstK x := fun e => ht (rstK_inj hy hx e)
    rw [Maps.atKey_put_other hne, hf y hy]; simp [ht]
end Go.Proofs.YtcobdmenigpipaaGreatDoor
