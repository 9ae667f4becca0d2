/-
  Words of 0 and 1 as strings, and what Run answers, as plain functions.
  program.operations: the table of the operations.
  Contracts of the library, laid at this translation by the kit (lay-shelf, lay-plain): a chosen part.
  Conditions: No condition. No condition. No condition.
-/
import Derived.Test.YtcdfghogmdhfcaaGreatDoorInsIdem
import Derived.Test.YtcdfghogmdhfcaaGreatDoorMg0
import Derived.Deep.MidRow
import Derived.Deep.DeepCutAuto
import Derived.Deep.RegionHeld3
import Derived.Deep.QuietTactic
import Derived.Outline
import Derived.Shelf.Strings.Builder1
import Derived.Shelf.Strings.Builder2
import Derived.Shelf.Strings.OnBuilder
import Derived.Shelf.Strings.Trim
import Derived.Shelf.Small.Bits
import Derived.Shelf.Small.Strs
import Derived.Shelf.Strings.BuilderF
import Derived.Shelf.Strconv.Itoa0
import Derived.Shelf.Strconv.Itoa1
import Derived.Shelf.LaysM
import Derived.Shelf.Strconv.Itoa2
import Derived.Shelf.Strconv.Itoa3
import Derived.Shelf.Strings.Search1
import Derived.Shelf.Strings.Prefix
import Derived.Shelf.Strings.Runes
import Derived.Shelf.Strings.AsciiSet
import Derived.Shelf.Bits.Mul64
import Derived.Shelf.Strings.Repeat
import Derived.Ground.SlgfProg
import Derived.Shelf.SlicesE.IndexFunc
import Derived.Test.YtcdfghogmdhfcaaGreatDoorProg
namespace Go.Proofs.YtcdfghogmdhfcaaGreatDoor
open Go.RowKit
set_option linter.unusedVariables false

def bitsB (s : ByteArray) : List Bool := s.data.toList.map fun c => c == 49
def bitC (b : Bool) : UInt8 := if b then 49 else 48
def bitS (l : List Bool) : ByteArray := ⟨(l.map bitC).toArray⟩
def okBits (s : ByteArray) : Bool := s.data.toList.all fun c => c == 48 || c == 49
/-- Why Run does not run. -/
def runErr (n : Int) (c : List Ins) (o : List Int) (s : ByteArray) : Int := if progErr n c o ≠ 0 then 1 else if (s.size : Int) ≠ n then 11 else if okBits s = false then 13 else 0
def runStr (n : Int) (c : List Ins) (o : List Int) (s : ByteArray) : ByteArray := if runErr n c o s = 0 then bitS (poutsV (bitsB s) c o) else ⟨#[]⟩
theorem bitsB_len (s : ByteArray) : (bitsB s).length = s.size := by simp [bitsB]
theorem bitS_list (l : List Bool) : (bitS l).data.toList = l.map bitC := by simp [bitS]
theorem bitS_size (l : List Bool) : (bitS l).size = l.length := by show (l.map bitC).toArray.size = _; simp
theorem runErr_zero {n : Int} {c : List Ins} {o : List Int} {s : ByteArray} : runErr n c o s = 0 ↔ progErr n c o = 0 ∧ (s.size : Int) = n ∧ okBits s = true := by
  unfold runErr
  by_cases h1 : progErr n c o = 0
  · rw [if_neg (by simp [h1])]
    by_cases h2 : (s.size : Int) = n
    · rw [if_neg (by simp [h2])]
      cases h3 : okBits s <;> simp [h1, h2]
    · rw [if_pos h2]; simp [h2]
  · rw [if_pos h1]; simp [h1]
theorem okBits_bitS (l : List Bool) : okBits (bitS l) = true := by
  unfold okBits
  rw [bitS_list, List.all_map, List.all_eq_true]
  intro b _
  cases b <;> rfl
theorem bitsB_bitS (l : List Bool) : bitsB (bitS l) = l := by
  unfold bitsB
  rw [bitS_list, List.map_map]
  conv => rhs; rw [← List.map_id l]
  exact List.map_congr_left fun b _ => by cases b <;> rfl
theorem poutsV_len (l : List Bool) (c : List Ins) (o : List Int) : (poutsV l c o).length = o.length := by simp [poutsV]
/-- A program of inputs n, as it is read. -/
def redN (n : Int) (c : List Ins) (o : List Int) : List Ins := if progErr n c o = 0 then redC n.toNat c o else []
def redP (n : Int) (c : List Ins) (o : List Int) : List Int := if progErr n c o = 0 then redO n.toNat c o else []
def redE (n : Int) (c : List Ins) (o : List Int) : Int := if progErr n c o = 0 then 0 else 1
def redI (n : Int) (c : List Ins) (o : List Int) : Int := if progErr n c o = 0 then n else 0
end Go.Proofs.YtcdfghogmdhfcaaGreatDoor

namespace Go.Proofs.YtcdfghogmdhfcaaGreatDoor
open Go.RowKit
set_option linter.unusedVariables false

def opsCells : Array Value := #[
  .string ⟨#[]⟩, .int .i64 0, .nilFunc,
  .string ⟨#[122, 101, 114, 111]⟩, .int .i64 0, .func (.func 69) #[] #[],
  .string ⟨#[111, 110, 101]⟩, .int .i64 0, .func (.func 70) #[] #[],
  .string ⟨#[97, 110, 100]⟩, .int .i64 2, .func (.func 71) #[] #[],
  .string ⟨#[120, 111, 114]⟩, .int .i64 2, .func (.func 72) #[] #[],
  .string ⟨#[110, 111, 116]⟩, .int .i64 1, .func (.func 73) #[] #[]]
def opsV : Value := .agg opsCells
theorem opsCells_size : opsCells.size = 18 := rfl
theorem opsCells_one : opsCells.all (·.oneCell') = true := by kernel_rfl
theorem there_new (w : World) (T : TypeId) (cs : Array Value) : (w.alloc (.cells cs T)).there w.heap.size 0 cs.size := by
  intro j hj
  rw [Nat.zero_add, cell_of_row _ w.heap.size j cs T (0, 0) (heap_alloc_new w _)]
  refine ⟨by simp [hj], ?_⟩
  have hb := heap_alloc_new w (.cells cs T)
  simp only [World.frozen?, hb]
  simp
theorem results_cell1 {fn : Func} {p : Tmp} {ty : TypeId} (h : fn.results = #[.cell p ty]) (tmps : Array Value) (P : Program) (w : World) :
    (results fn tmps).run P w = ((asAddr (tmps.getD p undef)).run P w).andThen fun a w₁ => (loadVar ty a).run P w₁ := by
  simp only [results, h]
  simp [Sem.run_bind, Result.andThen]
theorem results_loaded {fn : Func} {p : Tmp} {ty : TypeId} {P : Program} {w : World} {tmps : Array Value} {a : Addr} {v : Value} (h : fn.results = #[.cell p ty]) (hp : tmps.getD p undef = .pointer (some a)) (hl : (loadVar ty a).run P w = .ok v w) :
    (results fn tmps).run P w = .ok v w := by
  rw [results_cell1 h, hp]
  simp only [asAddr, Sem.run_pure, Result.andThen_ok, hl]
theorem below_setCells {B : Nat} {a w : World} (h : Below B a w) {b : Nat} (hb : B ≤ b) (vs : List Value) (o : Nat) : Below B a (w.setCells b o vs) := by
  induction vs generalizing w o with
  | nil => exact h
  | cons v r ih => exact ih (h.setCell (p := ⟨b, o, none⟩) hb v) _
set_option maxRecDepth 100000 in
set_option maxHeartbeats 1000000 in
theorem operations_any (w : World) : Calls Tryz.prog 42 #[] w fun e w' => e = .returned opsV ∧ Below w.heap.size w w' := by
  have HI := hid (show (Tryz.prog.info? 91).map (·.size) = some opsCells.size by kernel_rfl)
  have HT := hid (fun cs : Array Value => there_new w 91 cs)
  go_enter Tryz.func42, Tryz.ntmps42
  go_upto_region 1 with fail
  obtain ⟨c0, hc0⟩ : ∃ c0, c0 = (#[Value.string ⟨#[]⟩, .int .i64 0, .nilFunc, .string ⟨#[]⟩, .int .i64 0, .nilFunc, .string ⟨#[]⟩, .int .i64 0, .nilFunc, .string ⟨#[]⟩, .int .i64 0, .nilFunc, .string ⟨#[]⟩, .int .i64 0, .nilFunc, .string ⟨#[]⟩, .int .i64 0, .nilFunc] : Array Value) := ⟨_, rfl⟩
  rw [← hc0]
  have h18 : c0.size = opsCells.size := by rw [hc0]; rfl
  have HO := hid (show (w.alloc (.cells c0 91)).there w.heap.size 0 opsCells.size by rw [← h18]; exact HT.out c0)
  clear hc0 h18 HT
  go_wp2_with (refine wpList_store_mid rfl 91 _ _ rfl w.heap.size 0 opsCells rfl rfl HO.out HI.out opsCells_one ?_)
  refine bodyPost_ret (v := opsV) ?_ rfl ⟨rfl, ?_⟩
  · exact results_loaded (p := 0) rfl rfl (run_loadVar_mid (P := Tryz.prog) _ w.heap.size 0 91 opsCells.toList (.array 6 90) (World.rangeAt_setCells_same _ _ _ _ HO.out) Tryz.underlying91 rfl HI.out)
  · exact below_setCells (bel_alloc _ _) (Nat.le_refl _) _ _
/-- The table lies in block g. -/
def Ops (w : World) (g : Nat) : Prop := w.rangeAt g 0 opsCells.toList
theorem Ops.below {w w' : World} {g : Nat} (h : Ops w g) {B : Nat} (hb : Below B w w') (hg : g < B) : Ops w' g := fun j v hj => (hb.cell (p := ⟨g, 0 + j, none⟩) hg).trans (h j v hj)
theorem Ops.at' {w : World} {g : Nat} (h : Ops w g) {j : Nat} {v : Value} (hj : opsCells[j]? = some v) : w.cell? ⟨g, j, none⟩ = some v := by
  have := h j v (by simpa using hj)
  rwa [Nat.zero_add] at this
/-- How many operands, by the table. -/
theorem Ops.num {w : World} {g k : Nat} (h : Ops w g) (h1 : 1 ≤ k) (h5 : k ≤ 5) : w.cell? ⟨g, k * 3 + 1, none⟩ = some (.int .i64 (usedN k)) := by
  refine h.at' ?_
  have : k = 1 ∨ k = 2 ∨ k = 3 ∨ k = 4 ∨ k = 5 := by omega
  rcases this with rfl | rfl | rfl | rfl | rfl <;> rfl
def opF (k : Nat) : Nat := if k = 1 then 69 else if k = 2 then 70 else if k = 3 then 71 else if k = 4 then 72 else 73
theorem Ops.fn {w : World} {g k : Nat} (h : Ops w g) (h1 : 1 ≤ k) (h5 : k ≤ 5) : w.cell? ⟨g, k * 3 + 2, none⟩ = some (.func (.func (opF k)) #[] #[]) := by
  refine h.at' ?_
  have : k = 1 ∨ k = 2 ∨ k = 3 ∨ k = 4 ∨ k = 5 := by omega
  rcases this with rfl | rfl | rfl | rfl | rfl <;> rfl
/-- The same, at a number of any kind. -/
theorem Ops.num' {w : World} {g : Nat} {op : Int} (h : Ops w g) (h1 : 1 ≤ op) (h5 : op ≤ 5) : w.cell? ⟨g, op.toNat * 3 + 1, none⟩ = some (.int .i64 (usedN op)) := by
  have := h.num (k := op.toNat) (by omega) (by omega)
  rwa [Int.toNat_of_nonneg (by omega)] at this
theorem Ops.fn' {w : World} {g : Nat} {op : Int} (h : Ops w g) (h1 : 1 ≤ op) (h5 : op ≤ 5) : w.cell? ⟨g, op.toNat * 3 + 2, none⟩ = some (.func (.func (opF op.toNat)) #[] #[]) := h.fn (by omega) (by omega)
theorem opsC_size : opsCells.toList.length = 18 := rfl
theorem opsC_info : (Tryz.prog.info? 91).map (·.size) = some opsCells.size := by kernel_rfl
/-- The table, stored in a new block. -/
theorem Ops.stored {w : World} {cs : Array Value} (hs : cs.size = opsCells.size) : Ops ((w.alloc (.cells cs 91)).setCells w.heap.size 0 opsCells.toList) w.heap.size :=
  World.rangeAt_setCells_same _ _ _ _ (by show World.there _ _ _ opsCells.size; rw [← hs]; exact there_new w _ cs)
theorem setCells_size (w : World) (b o : Nat) (vs : List Value) : (w.setCells b o vs).heap.size = w.heap.size := by
  induction vs generalizing w o with
  | nil => rfl
  | cons v r ih => show ((w.setCell _ v).setCells b (o + 1) r).heap.size = _; rw [ih]; simp
/-- 'ops := operations()': the store into the new block. -/
theorem wpList_store_ops {ops : Array Oper} {rest : List Oper} {op : Oper} {a : Act} {Q : Exit → Act → World → Prop} (w1 : World) (cs : Array Value) (hgd : op.guard = none) (x y : Operand) (ho : op.op = .store 91 x y)
    (hx : a.eval x = .pointer (some ⟨w1.heap.size, 0, none⟩)) (hy : a.eval y = opsV) (hs : cs.size = 18)
    (h : ∀ w2, Ops w2 w1.heap.size → Below w1.heap.size w1 w2 → w1.heap.size < w2.heap.size → wpList Tryz.prog ops Q rest (a.put op.dst undef) w2) :
    wpList Tryz.prog ops Q (op :: rest) a (w1.alloc (.cells cs 91)) := by
  refine wpList_store_mid hgd 91 x y ho w1.heap.size 0 opsCells hx hy (by rw [opsCells_size, ← hs]; exact there_new w1 _ cs) opsC_info opsCells_one ?_
  exact h _ (Ops.stored (by rw [hs]; rfl)) (below_setCells (bel_alloc _ _) (Nat.le_refl _) _ _) (by rw [setCells_size]; simp)
theorem ops_bel (w : World) (cs : Array Value) : Below w.heap.size w ((w.alloc (.cells cs 91)).setCells w.heap.size 0 opsCells.toList) := below_setCells (bel_alloc _ _) (Nat.le_refl _) _ _
end Go.Proofs.YtcdfghogmdhfcaaGreatDoor

namespace Go.Proofs
open Go.Shelf
def Tryz.lays125_ren : Go.Shelf.Ren := ⟨fun | 125 => 49 | 128 => 84 | 129 => 85 | n => n, fun | 46 => 105 | 3 => 3 | 51 => 138 | 53 => 140 | 4 => 4 | 5 => 5 | 9 => 9 | n => n, fun | n => n⟩
theorem Tryz.lays125 : Go.Proofs.Lays.n125 Tryz.prog Tryz.lays125_ren := {
  mixed := by kernel_rfl
  f125 := Tryz.func49.trans (congrArg some (by kernel_rfl))
  f128 := Tryz.func84.trans (congrArg some (by kernel_rfl))
  f129 := Tryz.func85.trans (congrArg some (by kernel_rfl))
  t3 := Tryz.underlying3
  a3 := Tryz.isAgg3
  z3 := Tryz.sizeOf3
  v3 := Tryz.zeroValue3
  t4 := Tryz.underlying4
  a4 := Tryz.isAgg4
  z4 := Tryz.sizeOf4
  v4 := Tryz.zeroValue4
  t5 := Tryz.underlying5
  a5 := Tryz.isAgg5
  z5 := Tryz.sizeOf5
  v5 := Tryz.zeroValue5
  t9 := Tryz.underlying9
  a9 := Tryz.isAgg9
  z9 := Tryz.sizeOf9
  v9 := Tryz.zeroValue9
  t46 := Tryz.underlying105
  a46 := Tryz.isAgg105
  z46 := Tryz.sizeOf105
  v46 := Tryz.zeroValue105
  t51 := Tryz.underlying138
  a51 := Tryz.isAgg138
  z51 := Tryz.sizeOf138
  v51 := Tryz.zeroValue138
  t53 := Tryz.underlying140
  a53 := Tryz.isAgg140
  z53 := Tryz.sizeOf140
  v53 := Tryz.zeroValue140 }
theorem Tryz.bits_Len (x : Int) (w : World) (h0 : 0 ≤ x) (h1 : x ≤ 18446744073709551615) :
    Calls Tryz.prog 49 #[.int .u64 x] w fun e w' => e = .returned (.int .i64 (Lib.bitLen x.toNat)) ∧ w' = w := Any.bits_Len Tryz.lays125 x w h0 h1
def Tryz.lays137_ren : Go.Shelf.Ren := ⟨fun | 137 => 54 | 217 => 90 | 266 => 102 | n => n, fun | 9 => 9 | 5 => 5 | 3 => 3 | n => n, fun | n => n⟩
theorem Tryz.lays137 : Go.Proofs.Lays.n137 Tryz.prog Tryz.lays137_ren := {
  mixed := by kernel_rfl
  f137 := Tryz.func54.trans (congrArg some (by kernel_rfl))
  f217 := Tryz.func90.trans (congrArg some (by kernel_rfl))
  f266 := Tryz.func102.trans (congrArg some (by kernel_rfl))
  t3 := Tryz.underlying3
  a3 := Tryz.isAgg3
  z3 := Tryz.sizeOf3
  v3 := Tryz.zeroValue3
  t5 := Tryz.underlying5
  a5 := Tryz.isAgg5
  z5 := Tryz.sizeOf5
  v5 := Tryz.zeroValue5
  t9 := Tryz.underlying9
  a9 := Tryz.isAgg9
  z9 := Tryz.sizeOf9
  v9 := Tryz.zeroValue9 }
open Go.RowKit in
theorem Tryz.strings_IndexByte (s : ByteArray) (c : Int) (w : World) :
    Calls Tryz.prog 54 #[.string s, .int .u8 c] w fun e w' => e = .returned (.int .i64 (Lib.indexByte s.data.toList c.toNat.toUInt8)) ∧ w' = w := Any.strings_IndexByte Tryz.lays137 s c w
def Tryz.laysSlH8_f67_ren : Go.Shelf.Ren := ⟨fun | 8 => 67 | 6 => 96 | n => n, fun | 22 => 26 | 23 => 3 | 25 => 127 | 4 => 4 | 3 => 3 | 0 => 0 | n => n, fun | n => n⟩
theorem Tryz.laysSlH8_f67 : Go.Proofs.SlLaysH.n8 Tryz.prog Tryz.laysSlH8_f67_ren := {
  mixed := by kernel_rfl
  f6 := ⟨Tryz.f96.name, by decide, Tryz.func96.trans (congrArg some (by kernel_rfl))⟩
  f8 := ⟨Tryz.f67.name, by decide, Tryz.func67.trans (congrArg some (by kernel_rfl))⟩
  t0 := Tryz.underlying0
  a0 := Tryz.isAgg0
  z0 := Tryz.sizeOf0
  v0 := Tryz.zeroValue0
  t3 := Tryz.underlying3
  a3 := Tryz.isAgg3
  z3 := Tryz.sizeOf3
  v3 := Tryz.zeroValue3
  t4 := Tryz.underlying4
  a4 := Tryz.isAgg4
  z4 := Tryz.sizeOf4
  v4 := Tryz.zeroValue4
  t22 := Tryz.underlying26
  a22 := Tryz.isAgg26
  z22 := Tryz.sizeOf26
  v22 := Tryz.zeroValue26
  a23 := Tryz.isAgg3
  z23 := Tryz.sizeOf3
  t25 := Tryz.underlying127
  a25 := Tryz.isAgg127
  z25 := Tryz.sizeOf127
  v25 := Tryz.zeroValue127 }
open Go.RowKit Go.Lib in
theorem Tryz.slices_ContainsFunc {α : Type} [Inhabited α] (enc : α → Value) (p : α → Bool) (g : Nat) (lb : Array Value) (eg : ∀ args w, (callFunc g args).run Tryz.prog w = .ok (.enter g args) w) (b off n c : Nat) (zs : List α) (w : World) (hp : PredAt Tryz.prog g lb enc p w) (hz : n ≤ zs.length) (hbig : n ≤ 9223372036854775807) (hc : ∀ j, j < zs.length → w.cell? ⟨b, off + j, none⟩ = some (enc zs[j]!)) :
    Calls Tryz.prog 67 #[.slice (some ⟨b, off, none⟩) n c, .func (.func g) #[] lb] w fun e w' => e = .returned (.bool ((zs.take n).any p)) ∧ ∃ q, w' = w.drewN q := AnyE.slices_ContainsFunc Tryz.laysSlH8_f67 enc p g lb eg b off n c zs w hp hz hbig hc
open Go.RowKit Go.Lib in
theorem Tryz.slices_ContainsFunc_empty {α : Type} [Inhabited α] (a : Option Addr) (c : Nat) (fv : Value) (w : World) :
    Calls Tryz.prog 67 #[.slice a 0 c, fv] w fun e w' => e = .returned (.bool false) ∧ w' = w := AnyE.slices_ContainsFunc_empty Tryz.laysSlH8_f67 a c fv w
end Go.Proofs
