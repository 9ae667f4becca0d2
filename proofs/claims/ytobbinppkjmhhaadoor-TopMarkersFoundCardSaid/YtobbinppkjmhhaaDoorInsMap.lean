/-
  A map from instructions to numbers that the call itself has made: what it says of each instruction.
  No condition: these are general lemmas.
-/
import Derived.Test.YtobbinppkjmhhaaDoorAidP
import Derived.Test.YtobbinppkjmhhaaDoorInsLaw
import Derived.Maps.Own
import Derived.Maps.OwnSet
import Derived.Maps.Views
import Derived.DeepKeys4
import Derived.MapViews
namespace Go.Proofs.YtobbinppkjmhhaaDoor
open Go.RowKit
set_option linter.unusedVariables false

theorem Tryd.laidIns : laidOutB Tryd.prog = true := by kernel_rfl
theorem Tryd.rowIns : (134 : TypeId) < Tryd.prog.types.size := of_decide_eq_true (by kernel_rfl)
theorem Tryd.wideIns : (match Tryd.prog.underlying 134 with | some (.array _ _) | some (.struct _) => true | _ => false) = true := by rw [Tryd.underlying134]
set_option maxRecDepth 100000 in
theorem Tryd.keyIns : Maps.Keyed Tryd.prog 134 := Maps.Keyed.of_law (deep_law_laid Tryd.laidIns (m := 3) (by omega) Tryd.rowIns (by kernel_rfl) Tryd.wideIns)
theorem Tryd.keyTypeIns : Tryd.prog.keyType 134 = true := by kernel_rfl
set_option maxRecDepth 100000 in
theorem Tryd.sizeIns : ∃ m, Tryd.prog.types.size = m + 1 := ⟨Tryd.prog.types.size - 1, by have : 0 < Tryd.prog.types.size := of_decide_eq_true (by kernel_rfl); omega⟩
theorem Tryd.cellsIns : Tryd.prog.cellsOf 134 = 3 := by kernel_rfl
theorem Tryd.cellsInt : Tryd.prog.cellsOf 3 = 1 := by kernel_rfl
def insV (x : Ins) : Value := .agg #[.int .i64 x.op, .int .i64 x.a, .int .i64 x.b]
def insK (x : Ins) : Lit := .string (keyBytes [.int .i64 x.op, .int .i64 x.a, .int .i64 x.b])
/-- Numbers of 64 bits. -/
def Ok64 (a : Int) : Prop := -9223372036854775808 ≤ a ∧ a ≤ 9223372036854775807
def OkIns (x : Ins) : Prop := Ok64 x.op ∧ Ok64 x.a ∧ Ok64 x.b
theorem wf64 {a : Int} (h : Ok64 a) : (Lit.int .i64 a).wf = true := WalkArith.wf_i64 (by unfold Ok64 at h; omega)
theorem Tryd.keyOfIns (x : Ins) (h : OkIns x) : keyOf Tryd.prog 134 (insV x) = some (insK x) := by
  obtain ⟨h1, h2, h3⟩ := h
  obtain ⟨m, hm⟩ := Tryd.sizeIns
  unfold keyOf insV insK
  simp only [Tryd.underlying134]
  rw [if_pos (by simp [Tryd.keyTypeIns, Value.formed, Tryd.underlying134, Tryd.cellsIns]), hm]
  unfold Program.keyLits
  simp only [Tryd.underlying134, Value.cells]
  rw [if_pos (by rw [Tryd.cellsIns]; exact ⟨rfl, by kernel_rfl⟩)]
  simp [List.mapM_cons, Tryd.cellsInt, Program.keyLits, Tryd.underlying3, wf64 h1, wf64 h2, wf64 h3]
theorem insK_inj {x y : Ins} (hx : OkIns x) (hy : OkIns y) (h : insK x = insK y) : x = y := by
  have h1 := Tryd.keyOfIns x hx
  have h2 := Tryd.keyOfIns y hy
  rw [h] at h1
  have := Tryd.keyIns.inj h1 h2
  unfold insV at this
  simp at this
  cases x; cases y
  simp at this
  simp [this]
/-- The block b is a map of at most n entries; it says f of each instruction. -/
def KM (w : World) (b n : Nat) (f : Ins → Option Int) : Prop :=
  ∃ D : DataW Unit, w.ownsMap Tryd.prog 134 (plainElem Tryd.prog 3) b n D ∧ ∀ (x : Ins) (zd : DataW Unit), OkIns x → D.atKey (insK x) zd = match f x with | none => zd | some c => .lit (.int .i64 c)
theorem KM.made (w : World) : KM (w.alloc (.map #[] 0)) w.heap.size 0 (fun _ => none) := ⟨_, World.ownsMap_made w _ _ _, fun s zd _ => rfl⟩
theorem KM.same {w w' : World} {b n : Nat} {f : Ins → Option Int} (h : KM w b n f) (hh : w'.heap[b]? = w.heap[b]?) : KM w' b n f := by
  obtain ⟨D, ⟨es, clock, hb, hF, hs, hD⟩, hf⟩ := h
  exact ⟨D, ⟨es, clock, hh.trans hb, hF, hs, hD⟩, hf⟩
theorem KM.lt {w : World} {b n : Nat} {f : Ins → Option Int} (h : KM w b n f) : b < w.heap.size := by
  obtain ⟨D, hD, _⟩ := h
  exact hD.lt
theorem KM.mono {w : World} {b n m : Nat} {f : Ins → Option Int} (h : KM w b n f) (hm : n ≤ m) : KM w b m f := by
  obtain ⟨D, ⟨es, clock, hb, hF, hs, hD⟩, hf⟩ := h
  exact ⟨D, ⟨es, clock, hb, hF, by omega, hD⟩, hf⟩
/-- A map's block is no row of cells. -/
theorem KM.noCells {w : World} {b n : Nat} {f : Ins → Option Int} (h : KM w b n f) : ∀ cs t fz, w.heap[b]? ≠ some (.cells cs t fz) := by
  obtain ⟨D, ⟨es, clock, hb, _⟩, _⟩ := h
  intro cs t fz e
  rw [hb] at e; cases e
/-- What a look-up with 'ok' yields. -/
def lookI (o : Option Int) : Value := match o with | none => .tuple #[.int .i64 0, .bool false] | some c => .tuple #[.int .i64 c, .bool true]
end Go.Proofs.YtobbinppkjmhhaaDoor
