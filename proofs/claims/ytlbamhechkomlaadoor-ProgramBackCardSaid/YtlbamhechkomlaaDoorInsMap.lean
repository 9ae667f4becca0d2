/-
  A map from instructions to numbers that the call itself has made: what it says of each instruction.
  No condition: these are general lemmas.
-/
import Derived.Test.YtlbamhechkomlaaDoorAidP
import Derived.Test.YtlbamhechkomlaaDoorInsLaw
import Derived.Maps.Own
import Derived.Maps.OwnSet
import Derived.Maps.Views
import Derived.DeepKeys4
import Derived.MapViews
namespace Go.Proofs.YtlbamhechkomlaaDoor
open Go.RowKit
set_option linter.unusedVariables false

theorem Tryd.laidIns : laidOutB Tryd.prog = true := by kernel_rfl
theorem Tryd.rowIns : (37 : TypeId) < Tryd.prog.types.size := of_decide_eq_true (by kernel_rfl)
theorem Tryd.wideIns : (match Tryd.prog.underlying 37 with | some (.array _ _) | some (.struct _) => true | _ => false) = true := by rw [Tryd.underlying37]
set_option maxRecDepth 100000 in
theorem Tryd.keyIns : Maps.Keyed Tryd.prog 37 := Maps.Keyed.of_law (deep_law_laid Tryd.laidIns (m := 3) (by omega) Tryd.rowIns (by kernel_rfl) Tryd.wideIns)
theorem Tryd.keyTypeIns : Tryd.prog.keyType 37 = true := by kernel_rfl
set_option maxRecDepth 100000 in
theorem Tryd.sizeIns : ∃ m, Tryd.prog.types.size = m + 1 := ⟨Tryd.prog.types.size - 1, by have : 0 < Tryd.prog.types.size := of_decide_eq_true (by kernel_rfl); omega⟩
theorem Tryd.cellsIns : Tryd.prog.cellsOf 37 = 3 := by kernel_rfl
theorem Tryd.cellsInt : Tryd.prog.cellsOf 3 = 1 := by kernel_rfl
def insV (x : Ins) : Value := .agg #[.int .i64 x.op, .int .i64 x.a, .int .i64 x.b]
def insK (x : Ins) : Lit := .string (keyBytes [.int .i64 x.op, .int .i64 x.a, .int .i64 x.b])
/-- Numbers of 64 bits. -/
def Ok64 (a : Int) : Prop := -9223372036854775808 ≤ a ∧ a ≤ 9223372036854775807
def OkIns (x : Ins) : Prop := Ok64 x.op ∧ Ok64 x.a ∧ Ok64 x.b
theorem wf64 {a : Int} (h : Ok64 a) : (Lit.int .i64 a).wf = true := WalkArith.wf_i64 (by unfold Ok64 at h; omega)
theorem Tryd.keyOfIns (x : Ins) (h : OkIns x) : keyOf Tryd.prog 37 (insV x) = some (insK x) := by
  obtain ⟨h1, h2, h3⟩ := h
  obtain ⟨m, hm⟩ := Tryd.sizeIns
  unfold keyOf insV insK
  simp only [Tryd.underlying37]
  rw [if_pos (by simp [Tryd.keyTypeIns, Value.formed, Tryd.underlying37, Tryd.cellsIns]), hm]
  unfold Program.keyLits
  simp only [Tryd.underlying37, Value.cells]
  rw [if_pos (by rw [Tryd.cellsIns]; exact ⟨rfl, by kernel_rfl⟩)]
  simp [List.mapM_cons, Tryd.cellsInt, Program.keyLits, Tryd.underlying3, wf64 h1, wf64 h2, wf64 h3]
theorem insK_inj {x y : Ins} (hx : OkIns x) (hy : OkIns y) (h : insK x = insK y) : x = y := by
  have h1 := Tryd.keyOfIns x hx
  have h2 := Tryd.keyOfIns y hy
  rw [h] at h1
  have := Tryd.keyIns.inj h1 h2
  unfold insV at this
  simp at this
  cases x; cases y
  simp at this
  simp [this]
/-- The block b is a map of at most n entries; it says f of each instruction. -/
def KM (w : World) (b n : Nat) (f : Ins → Option Int) : Prop :=
  ∃ D : DataW Unit, w.ownsMap Tryd.prog 37 (plainElem Tryd.prog 3) b n D ∧ ∀ (x : Ins) (zd : DataW Unit), OkIns x → D.atKey (insK x) zd = match f x with | none => zd | some c => .lit (.int .i64 c)
theorem KM.made (w : World) : KM (w.alloc (.map #[] 0)) w.heap.size 0 (fun _ => none) := ⟨_, World.ownsMap_made w _ _ _, fun s zd _ => rfl⟩
theorem KM.same {w w' : World} {b n : Nat} {f : Ins → Option Int} (h : KM w b n f) (hh : w'.heap[b]? = w.heap[b]?) : KM w' b n f := by
  obtain ⟨D, ⟨es, clock, hb, hF, hs, hD⟩, hf⟩ := h
  exact ⟨D, ⟨es, clock, hh.trans hb, hF, hs, hD⟩, hf⟩
theorem KM.lt {w : World} {b n : Nat} {f : Ins → Option Int} (h : KM w b n f) : b < w.heap.size := by
  obtain ⟨D, hD, _⟩ := h
  exact hD.lt
theorem KM.mono {w : World} {b n m : Nat} {f : Ins → Option Int} (h : KM w b n f) (hm : n ≤ m) : KM w b m f := by
  obtain ⟨D, ⟨es, clock, hb, hF, hs, hD⟩, hf⟩ := h
  exact ⟨D, ⟨es, clock, hb, hF, by omega, hD⟩, hf⟩
/-- A map's block is no row of cells. -/
theorem KM.noCells {w : World} {b n : Nat} {f : Ins → Option Int} (h : KM w b n f) : ∀ cs t fz, w.heap[b]? ≠ some (.cells cs t fz) := by
  obtain ⟨D, ⟨es, clock, hb, _⟩, _⟩ := h
  intro cs t fz e
  rw [hb] at e; cases e
/-- What a look-up with 'ok' yields. -/
def lookI (o : Option Int) : Value := match o with | none => .tuple #[.int .i64 0, .bool false] | some c => .tuple #[.int .i64 c, .bool true]
theorem KM.look {w : World} {b n : Nat} {f : Ins → Option Int} (h : KM w b n f) (x : Ins) (hx : OkIns x) :
    (Instr.lookup 72 (.map (some b)) (insV x) true).run Tryd.prog w = .ok (lookI (f x)) w := by
  obtain ⟨D, ⟨es, clock, hb, hF, hsz, hD⟩, hf⟩ := h
  rcases Maps.fit_look true Tryd.keyIns Tryd.underlying72 (Tryd.zeroValue3 w) hb hF (Tryd.keyOfIns x hx) with ⟨hrun, _, hat⟩ | ⟨e0, y, _, _, hrun, hRv, hat, _⟩
  · have hn : f x = none := by
      cases hc : f x with
      | none => rfl
      | some c =>
        have h1 := hf x .nil hx
        rw [hc, hD, hat .nil] at h1
        cases h1
    rw [hn]
    exact hrun
  · obtain ⟨c, hv, hy, _⟩ := plainElem_int_inv Tryd.underlying3 hRv
    have hn : f x = some c := by
      cases hc : f x with
      | none =>
        have h1 := hf x .nil hx
        rw [hc, hD, hat .nil, hy] at h1
        cases h1
      | some c' =>
        have h1 := hf x .nil hx
        rw [hc, hD, hat .nil, hy] at h1
        simp only [DataW.lit.injEq, Lit.int.injEq, true_and] at h1
        rw [h1]
    rw [hn]
    rw [hv] at hrun
    exact hrun
theorem KM.store {w : World} {b n : Nat} {f : Ins → Option Int} (h : KM w b n f) (hn : n < 1000000) (x : Ins) (hx : OkIns x) (c : Int) (hc : Ok64 c) :
    ∃ w', (Instr.mapUpdate 72 (.map (some b)) (insV x) (.int .i64 c)).run Tryd.prog w = .ok () w' ∧ KM w' b (n + 1) (fun y => if y = x then some c else f y) ∧ w.grownBy w' (some b) := by
  obtain ⟨D, hD, hf⟩ := h
  obtain ⟨w', hrun, hown, hg⟩ := hD.update Tryd.keyIns Tryd.underlying72 (by unfold maxLen; omega) (Tryd.keyOfIns x hx) (plainElem_int Tryd.underlying3 (wf64 hc))
  refine ⟨w', hrun, ⟨_, hown, fun y zd hy => ?_⟩, hg⟩
  by_cases ht : y = x
  · subst ht
    rw [Maps.atKey_put_same hD.isMap (show WideAt.IsKeyLit (insK y) from trivial)]; simp
  · have hne : insK y ≠ insK x := fun e => ht (insK_inj hy hx e)
    rw [Maps.atKey_put_other hne, hf y _ hy]; simp [ht]
end Go.Proofs.YtlbamhechkomlaaDoor
