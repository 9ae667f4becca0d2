/-
  program.operations: the table of the operations.
  No condition.
-/
import Derived.Test.YtobbinppkjmhhaaDoorAidP
import Derived.Test.YtobbinppkjmhhaaDoorInsStr
import Derived.Deep.MidRow
import Derived.Deep.DeepCutAuto
import Derived.Deep.RegionHeld3
import Derived.Deep.QuietTactic
import Derived.Outline
namespace Go.Proofs.YtobbinppkjmhhaaDoor
open Go.RowKit
set_option linter.unusedVariables false

def opsCells : Array Value := #[
  .string ⟨#[]⟩, .int .i64 0, .nilFunc,
  .string ⟨#[122, 101, 114, 111]⟩, .int .i64 0, .func (.func 79) #[] #[],
  .string ⟨#[111, 110, 101]⟩, .int .i64 0, .func (.func 80) #[] #[],
  .string ⟨#[97, 110, 100]⟩, .int .i64 2, .func (.func 81) #[] #[],
  .string ⟨#[120, 111, 114]⟩, .int .i64 2, .func (.func 82) #[] #[],
  .string ⟨#[110, 111, 116]⟩, .int .i64 1, .func (.func 83) #[] #[]]
def opsV : Value := .agg opsCells
theorem opsCells_size : opsCells.size = 18 := rfl
theorem opsCells_one : opsCells.all (·.oneCell') = true := by kernel_rfl
theorem there_new (w : World) (T : TypeId) (cs : Array Value) : (w.alloc (.cells cs T)).there w.heap.size 0 cs.size := by
  intro j hj
  rw [Nat.zero_add, cell_of_row _ w.heap.size j cs T (0, 0) (heap_alloc_new w _)]
  refine ⟨by simp [hj], ?_⟩
  have hb := heap_alloc_new w (.cells cs T)
  simp only [World.frozen?, hb]
  simp
theorem results_cell1 {fn : Func} {p : Tmp} {ty : TypeId} (h : fn.results = #[.cell p ty]) (tmps : Array Value) (P : Program) (w : World) :
    (results fn tmps).run P w = ((asAddr (tmps.getD p undef)).run P w).andThen fun a w₁ => (loadVar ty a).run P w₁ := by
  simp only [results, h]
  simp [Sem.run_bind, Result.andThen]
theorem results_loaded {fn : Func} {p : Tmp} {ty : TypeId} {P : Program} {w : World} {tmps : Array Value} {a : Addr} {v : Value} (h : fn.results = #[.cell p ty]) (hp : tmps.getD p undef = .pointer (some a)) (hl : (loadVar ty a).run P w = .ok v w) :
    (results fn tmps).run P w = .ok v w := by
  rw [results_cell1 h, hp]
  simp only [asAddr, Sem.run_pure, Result.andThen_ok, hl]
theorem below_setCells {B : Nat} {a w : World} (h : Below B a w) {b : Nat} (hb : B ≤ b) (vs : List Value) (o : Nat) : Below B a (w.setCells b o vs) := by
  induction vs generalizing w o with
  | nil => exact h
  | cons v r ih => exact ih (h.setCell (p := ⟨b, o, none⟩) hb v) _
set_option maxRecDepth 100000 in
set_option maxHeartbeats 1000000 in
theorem operations_any (w : World) : Calls Tryd.prog 67 #[] w fun e w' => e = .returned opsV ∧ Below w.heap.size w w' := by
  have HI := hid (show (Tryd.prog.info? 138).map (·.size) = some opsCells.size by kernel_rfl)
  have HT := hid (fun cs : Array Value => there_new w 138 cs)
  go_enter Tryd.func67, Tryd.ntmps67
  go_upto_region 1 with fail
  obtain ⟨c0, hc0⟩ : ∃ c0, c0 = (#[Value.string ⟨#[]⟩, .int .i64 0, .nilFunc, .string ⟨#[]⟩, .int .i64 0, .nilFunc, .string ⟨#[]⟩, .int .i64 0, .nilFunc, .string ⟨#[]⟩, .int .i64 0, .nilFunc, .string ⟨#[]⟩, .int .i64 0, .nilFunc, .string ⟨#[]⟩, .int .i64 0, .nilFunc] : Array Value) := ⟨_, rfl⟩
  rw [← hc0]
  have h18 : c0.size = opsCells.size := by rw [hc0]; rfl
  have HO := hid (show (w.alloc (.cells c0 138)).there w.heap.size 0 opsCells.size by rw [← h18]; exact HT.out c0)
  clear hc0 h18 HT
  go_wp2_with (refine wpList_store_mid rfl 138 _ _ rfl w.heap.size 0 opsCells rfl rfl HO.out HI.out opsCells_one ?_)
  refine bodyPost_ret (v := opsV) ?_ rfl ⟨rfl, ?_⟩
  · exact results_loaded (p := 0) rfl rfl (run_loadVar_mid (P := Tryd.prog) _ w.heap.size 0 138 opsCells.toList (.array 6 137) (World.rangeAt_setCells_same _ _ _ _ HO.out) Tryd.underlying138 rfl HI.out)
  · exact below_setCells (bel_alloc _ _) (Nat.le_refl _) _ _
/-- The table lies in block g. -/
def Ops (w : World) (g : Nat) : Prop := w.rangeAt g 0 opsCells.toList
theorem Ops.below {w w' : World} {g : Nat} (h : Ops w g) {B : Nat} (hb : Below B w w') (hg : g < B) : Ops w' g := fun j v hj => (hb.cell (p := ⟨g, 0 + j, none⟩) hg).trans (h j v hj)
theorem Ops.at' {w : World} {g : Nat} (h : Ops w g) {j : Nat} {v : Value} (hj : opsCells[j]? = some v) : w.cell? ⟨g, j, none⟩ = some v := by
  have := h j v (by simpa using hj)
  rwa [Nat.zero_add] at this
/-- How many operands, by the table. -/
theorem Ops.num {w : World} {g k : Nat} (h : Ops w g) (h1 : 1 ≤ k) (h5 : k ≤ 5) : w.cell? ⟨g, k * 3 + 1, none⟩ = some (.int .i64 (usedN k)) := by
  refine h.at' ?_
  have : k = 1 ∨ k = 2 ∨ k = 3 ∨ k = 4 ∨ k = 5 := by omega
  rcases this with rfl | rfl | rfl | rfl | rfl <;> rfl
def opF (k : Nat) : Nat := if k = 1 then 79 else if k = 2 then 80 else if k = 3 then 81 else if k = 4 then 82 else 83
theorem Ops.fn {w : World} {g k : Nat} (h : Ops w g) (h1 : 1 ≤ k) (h5 : k ≤ 5) : w.cell? ⟨g, k * 3 + 2, none⟩ = some (.func (.func (opF k)) #[] #[]) := by
  refine h.at' ?_
  have : k = 1 ∨ k = 2 ∨ k = 3 ∨ k = 4 ∨ k = 5 := by omega
  rcases this with rfl | rfl | rfl | rfl | rfl <;> rfl
/-- The same, at a number of any kind. -/
theorem Ops.num' {w : World} {g : Nat} {op : Int} (h : Ops w g) (h1 : 1 ≤ op) (h5 : op ≤ 5) : w.cell? ⟨g, op.toNat * 3 + 1, none⟩ = some (.int .i64 (usedN op)) := by
  have := h.num (k := op.toNat) (by omega) (by omega)
  rwa [Int.toNat_of_nonneg (by omega)] at this
theorem Ops.fn' {w : World} {g : Nat} {op : Int} (h : Ops w g) (h1 : 1 ≤ op) (h5 : op ≤ 5) : w.cell? ⟨g, op.toNat * 3 + 2, none⟩ = some (.func (.func (opF op.toNat)) #[] #[]) := h.fn (by omega) (by omega)
theorem opsC_size : opsCells.toList.length = 18 := rfl
theorem opsC_info : (Tryd.prog.info? 138).map (·.size) = some opsCells.size := by kernel_rfl
/-- The table, stored in a new block. -/
theorem Ops.stored {w : World} {cs : Array Value} (hs : cs.size = opsCells.size) : Ops ((w.alloc (.cells cs 138)).setCells w.heap.size 0 opsCells.toList) w.heap.size :=
  World.rangeAt_setCells_same _ _ _ _ (by show World.there _ _ _ opsCells.size; rw [← hs]; exact there_new w _ cs)
theorem setCells_size (w : World) (b o : Nat) (vs : List Value) : (w.setCells b o vs).heap.size = w.heap.size := by
  induction vs generalizing w o with
  | nil => rfl
  | cons v r ih => show ((w.setCell _ v).setCells b (o + 1) r).heap.size = _; rw [ih]; simp
/-- 'ops := operations()': the store into the new block. -/
theorem wpList_store_ops {ops : Array Oper} {rest : List Oper} {op : Oper} {a : Act} {Q : Exit → Act → World → Prop} (w1 : World) (cs : Array Value) (hgd : op.guard = none) (x y : Operand) (ho : op.op = .store 138 x y)
    (hx : a.eval x = .pointer (some ⟨w1.heap.size, 0, none⟩)) (hy : a.eval y = opsV) (hs : cs.size = 18)
    (h : ∀ w2, Ops w2 w1.heap.size → Below w1.heap.size w1 w2 → w1.heap.size < w2.heap.size → wpList Tryd.prog ops Q rest (a.put op.dst undef) w2) :
    wpList Tryd.prog ops Q (op :: rest) a (w1.alloc (.cells cs 138)) := by
  refine wpList_store_mid hgd 138 x y ho w1.heap.size 0 opsCells hx hy (by rw [opsCells_size, ← hs]; exact there_new w1 _ cs) opsC_info opsCells_one ?_
  exact h _ (Ops.stored (by rw [hs]; rfl)) (below_setCells (bel_alloc _ _) (Nat.le_refl _) _ _) (by rw [setCells_size]; simp)
theorem ops_bel (w : World) (cs : Array Value) : Below w.heap.size w ((w.alloc (.cells cs 138)).setCells w.heap.size 0 opsCells.toList) := below_setCells (bel_alloc _ _) (Nat.le_refl _) _ _
end Go.Proofs.YtobbinppkjmhhaaDoor
