/-
  A map from what a state does (reduction.finer) to numbers.
  The words of the keys are at most 65536 letters long.
-/
import Derived.Test.YtobbinppkjmhhaaDoorInsMap
namespace Go.Proofs.YtobbinppkjmhhaaDoor
open Go.RowKit
set_option linter.unusedVariables false

abbrev FKey := Int × List UInt8 × Int
theorem Tryd.rowFin : (88 : TypeId) < Tryd.prog.types.size := of_decide_eq_true (by kernel_rfl)
theorem Tryd.wideFin : (match Tryd.prog.underlying 88 with | some (.array _ _) | some (.struct _) => true | _ => false) = true := by rw [Tryd.underlying88]
set_option maxRecDepth 100000 in
theorem Tryd.keyFin : Maps.Keyed Tryd.prog 88 := Maps.Keyed.of_law (deep_law_laid Tryd.laidIns (m := 3) (by omega) Tryd.rowFin (by kernel_rfl) Tryd.wideFin)
theorem Tryd.keyTypeFin : Tryd.prog.keyType 88 = true := by kernel_rfl
theorem Tryd.cellsFin : Tryd.prog.cellsOf 88 = 3 := by kernel_rfl
theorem Tryd.cellsStrF : Tryd.prog.cellsOf 9 = 1 := by kernel_rfl
def strF (t : List UInt8) : ByteArray := ⟨t.toArray⟩
def finV (x : FKey) : Value := .agg #[.int .i64 x.1, .string (strF x.2.1), .int .i64 x.2.2]
def finK (x : FKey) : Lit := .string (keyBytes [.int .i64 x.1, .string x.2.1, .int .i64 x.2.2])
def OkFin (x : FKey) : Prop := Ok64 x.1 ∧ x.2.1.length ≤ 65536 ∧ Ok64 x.2.2
theorem Tryd.keyOfFin (x : FKey) (h : OkFin x) : keyOf Tryd.prog 88 (finV x) = some (finK x) := by
  obtain ⟨h1, h2, h3⟩ := h
  obtain ⟨m, hm⟩ := Tryd.sizeIns
  unfold keyOf finV finK
  simp only [Tryd.underlying88]
  rw [if_pos (by simp [Tryd.keyTypeFin, Value.formed, Tryd.underlying88, Tryd.cellsFin]), hm]
  unfold Program.keyLits
  simp only [Tryd.underlying88, Value.cells]
  rw [if_pos (by rw [Tryd.cellsFin]; exact ⟨rfl, by kernel_rfl⟩)]
  simp [List.mapM_cons, Tryd.cellsInt, Tryd.cellsStrF, Program.keyLits, Tryd.underlying3, Tryd.underlying9, wf64 h1, wf64 h3]
  have hs : (strF x.2.1).size ≤ maxLen := by
    show x.2.1.toArray.size ≤ maxLen
    simp only [List.size_toArray]
    unfold maxLen; omega
  rw [if_pos hs]
  simp [strF]
theorem finK_inj {x y : FKey} (hx : OkFin x) (hy : OkFin y) (h : finK x = finK y) : x = y := by
  have h1 := Tryd.keyOfFin x hx
  have h2 := Tryd.keyOfFin y hy
  rw [h] at h1
  have := Tryd.keyFin.inj h1 h2
  unfold finV strF at this
  obtain ⟨a, b, e⟩ := x
  obtain ⟨c, d, f⟩ := y
  simp at this
  simp [this]
/-- The block b is a map of at most n entries; it says f of each key. -/
def TF (w : World) (b n : Nat) (f : FKey → Option Int) : Prop :=
  ∃ D : DataW Unit, w.ownsMap Tryd.prog 88 (plainElem Tryd.prog 3) b n D ∧ ∀ (x : FKey) (zd : DataW Unit), OkFin x → D.atKey (finK x) zd = match f x with | none => zd | some c => .lit (.int .i64 c)
theorem TF.made (w : World) : TF (w.alloc (.map #[] 0)) w.heap.size 0 (fun _ => none) := ⟨_, World.ownsMap_made w _ _ _, fun s zd _ => rfl⟩
theorem TF.same {w w' : World} {b n : Nat} {f : FKey → Option Int} (h : TF w b n f) (hh : w'.heap[b]? = w.heap[b]?) : TF w' b n f := by
  obtain ⟨D, ⟨es, clock, hb, hF, hs, hD⟩, hf⟩ := h
  exact ⟨D, ⟨es, clock, hh.trans hb, hF, hs, hD⟩, hf⟩
theorem TF.lt {w : World} {b n : Nat} {f : FKey → Option Int} (h : TF w b n f) : b < w.heap.size := by
  obtain ⟨D, hD, _⟩ := h
  exact hD.lt
theorem TF.look {w : World} {b n : Nat} {f : FKey → Option Int} (h : TF w b n f) (x : FKey) (hx : OkFin x) :
    (Instr.lookup 85 (.map (some b)) (finV x) true).run Tryd.prog w = .ok (lookI (f x)) w := by
  obtain ⟨D, ⟨es, clock, hb, hF, hsz, hD⟩, hf⟩ := h
  rcases Maps.fit_look true Tryd.keyFin Tryd.underlying85 (Tryd.zeroValue3 w) hb hF (Tryd.keyOfFin x hx) with ⟨hrun, _, hat⟩ | ⟨e0, y, _, _, hrun, hRv, hat, _⟩
  · have hn : f x = none := by
      cases hc : f x with
      | none => rfl
      | some c =>
        have h1 := hf x .nil hx
        rw [hc, hD, hat .nil] at h1
        cases h1
    rw [hn]
    exact hrun
  · obtain ⟨c, hv, hy, _⟩ := plainElem_int_inv Tryd.underlying3 hRv
    have hn : f x = some c := by
      cases hc : f x with
      | none =>
        have h1 := hf x .nil hx
        rw [hc, hD, hat .nil, hy] at h1
        cases h1
      | some c' =>
        have h1 := hf x .nil hx
        rw [hc, hD, hat .nil, hy] at h1
        simp only [DataW.lit.injEq, Lit.int.injEq, true_and] at h1
        rw [h1]
    rw [hn]
    rw [hv] at hrun
    exact hrun
theorem TF.store {w : World} {b n : Nat} {f : FKey → Option Int} (h : TF w b n f) (hn : n < 1000000) (x : FKey) (hx : OkFin x) (c : Int) (hc : Ok64 c) :
    ∃ w', (Instr.mapUpdate 85 (.map (some b)) (finV x) (.int .i64 c)).run Tryd.prog w = .ok () w' ∧ TF w' b (n + 1) (fun y => if y = x then some c else f y) ∧ w.grownBy w' (some b) := by
  obtain ⟨D, hD, hf⟩ := h
  obtain ⟨w', hrun, hown, hg⟩ := hD.update Tryd.keyFin Tryd.underlying85 (by unfold maxLen; omega) (Tryd.keyOfFin x hx) (plainElem_int Tryd.underlying3 (wf64 hc))
  refine ⟨w', hrun, ⟨_, hown, fun y zd hy => ?_⟩, hg⟩
  by_cases ht : y = x
  · subst ht
    rw [Maps.atKey_put_same hD.isMap (show WideAt.IsKeyLit (finK y) from trivial)]; simp
  · have hne : finK y ≠ finK x := fun e => ht (finK_inj hy hx e)
    rw [Maps.atKey_put_other hne, hf y _ hy]; simp [ht]
theorem TF.clear {w : World} {b n : Nat} {f : FKey → Option Int} (h : TF w b n f) (ty : TypeId) :
    ∃ w', (Builtin.clear_ #[85] ty #[.map (some b)]).run Tryd.prog w = .ok (.tuple #[]) w' ∧ TF w' b 0 (fun _ => none) ∧ w.grownBy w' (some b) := by
  obtain ⟨D, ⟨es, clock, hb, hF, hs, hD⟩, hf⟩ := h
  have hlt := (Array.getElem?_eq_some_iff.1 hb).1
  refine ⟨{ w with heap := w.heap.setIfInBounds b (.map #[] clock) }, ?_, ⟨.map [], ⟨#[], clock, ?_, ⟨by simp, MapKept.stamped_empty clock, by simp⟩, Nat.le_refl _, rfl⟩, fun x zd _ => rfl⟩, ?_⟩
  · simp [Builtin.clear_, run_underlying Tryd.underlying85, MapKept.run_getObj_map hb, MapKept.run_setObj_map _ hb]
  · simp [hlt]
  · exact ⟨rfl, rfl, rfl, by simp, fun k hk hne => by simp only [Array.getElem?_setIfInBounds]; rw [if_neg (fun e => hne (by rw [e]))]⟩
end Go.Proofs.YtobbinppkjmhhaaDoor
