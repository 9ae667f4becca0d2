/-
  A map from instructions to numbers that the call itself has made: what it says of each instruction.
  The reducer of program.Reduce in memory: its code, its map; put, not, and, xor.
  Conditions: No condition: these are general lemmas. The code is well formed, and not longer than a million.
-/
import Derived.Test.YtcdfghogmdhfcaaGreatDoorMg0
import Derived.Test.YtcdfghogmdhfcaaGreatDoorInsLaw
import Derived.Maps.Own
import Derived.Maps.OwnSet
import Derived.Maps.Views
import Derived.DeepKeys4
import Derived.MapViews
import Derived.Test.YtcdfghogmdhfcaaGreatDoorPrRun
import Derived.Deep.OwnRows
import Derived.Sort.OwnSorted
import Derived.Deep.QuietTactic
import Derived.Deep.RegionLaw
import Derived.RegionTactic
import Derived.ChangeAlike
namespace Go.Proofs.YtcdfghogmdhfcaaGreatDoor
open Go.RowKit
set_option linter.unusedVariables false

theorem Tryz.laidIns : laidOutB Tryz.prog = true := by kernel_rfl
theorem Tryz.rowIns : (47 : TypeId) < Tryz.prog.types.size := of_decide_eq_true (by kernel_rfl)
theorem Tryz.wideIns : (match Tryz.prog.underlying 47 with | some (.array _ _) | some (.struct _) => true | _ => false) = true := by rw [Tryz.underlying47]
set_option maxRecDepth 100000 in
theorem Tryz.keyIns : Maps.Keyed Tryz.prog 47 := Maps.Keyed.of_law (deep_law_laid Tryz.laidIns (m := 3) (by omega) Tryz.rowIns (by kernel_rfl) Tryz.wideIns)
theorem Tryz.keyTypeIns : Tryz.prog.keyType 47 = true := by kernel_rfl
set_option maxRecDepth 100000 in
theorem Tryz.sizeIns : ∃ m, Tryz.prog.types.size = m + 1 := ⟨Tryz.prog.types.size - 1, by have : 0 < Tryz.prog.types.size := of_decide_eq_true (by kernel_rfl); omega⟩
theorem Tryz.cellsIns : Tryz.prog.cellsOf 47 = 3 := by kernel_rfl
theorem Tryz.cellsInt : Tryz.prog.cellsOf 3 = 1 := by kernel_rfl
def insV (x : Ins) : Value := .agg #[.int .i64 x.op, .int .i64 x.a, .int .i64 x.b]
def insK (x : Ins) : Lit := .string (keyBytes [.int .i64 x.op, .int .i64 x.a, .int .i64 x.b])
/-- Numbers of 64 bits. -/
def Ok64 (a : Int) : Prop := -9223372036854775808 ≤ a ∧ a ≤ 9223372036854775807
def OkIns (x : Ins) : Prop := Ok64 x.op ∧ Ok64 x.a ∧ Ok64 x.b
theorem wf64 {a : Int} (h : Ok64 a) : (Lit.int .i64 a).wf = true := WalkArith.wf_i64 (by unfold Ok64 at h; omega)
theorem Tryz.keyOfIns (x : Ins) (h : OkIns x) : keyOf Tryz.prog 47 (insV x) = some (insK x) := by
  obtain ⟨h1, h2, h3⟩ := h
  obtain ⟨m, hm⟩ := Tryz.sizeIns
  unfold keyOf insV insK
  simp only [Tryz.underlying47]
  rw [if_pos (by simp [Tryz.keyTypeIns, Value.formed, Tryz.underlying47, Tryz.cellsIns]), hm]
  unfold Program.keyLits
  simp only [Tryz.underlying47, Value.cells]
  rw [if_pos (by rw [Tryz.cellsIns]; exact ⟨rfl, by kernel_rfl⟩)]
  simp [List.mapM_cons, Tryz.cellsInt, Program.keyLits, Tryz.underlying3, wf64 h1, wf64 h2, wf64 h3]
theorem insK_inj {x y : Ins} (hx : OkIns x) (hy : OkIns y) (h : insK x = insK y) : x = y := by
  have h1 := Tryz.keyOfIns x hx
  have h2 := Tryz.keyOfIns y hy
  rw [h] at h1
  have := Tryz.keyIns.inj h1 h2
  unfold insV at this
  simp at this
  cases x; cases y
  simp at this
  simp [this]
/-- The block b is a map of at most n entries; it says f of each instruction. -/
def KM (w : World) (b n : Nat) (f : Ins → Option Int) : Prop :=
  ∃ D : DataW Unit, w.ownsMap Tryz.prog 47 (plainElem Tryz.prog 3) b n D ∧ ∀ (x : Ins) (zd : DataW Unit), OkIns x → D.atKey (insK x) zd = match f x with | none => zd | some c => .lit (.int .i64 c)
theorem KM.made (w : World) : KM (w.alloc (.map #[] 0)) w.heap.size 0 (fun _ => none) := ⟨_, World.ownsMap_made w _ _ _, fun s zd _ => rfl⟩
theorem KM.same {w w' : World} {b n : Nat} {f : Ins → Option Int} (h : KM w b n f) (hh : w'.heap[b]? = w.heap[b]?) : KM w' b n f := by
  obtain ⟨D, ⟨es, clock, hb, hF, hs, hD⟩, hf⟩ := h
  exact ⟨D, ⟨es, clock, hh.trans hb, hF, hs, hD⟩, hf⟩
theorem KM.lt {w : World} {b n : Nat} {f : Ins → Option Int} (h : KM w b n f) : b < w.heap.size := by
  obtain ⟨D, hD, _⟩ := h
  exact hD.lt
theorem KM.mono {w : World} {b n m : Nat} {f : Ins → Option Int} (h : KM w b n f) (hm : n ≤ m) : KM w b m f := by
  obtain ⟨D, ⟨es, clock, hb, hF, hs, hD⟩, hf⟩ := h
  exact ⟨D, ⟨es, clock, hb, hF, by omega, hD⟩, hf⟩
/-- A map's block is no row of cells. -/
theorem KM.noCells {w : World} {b n : Nat} {f : Ins → Option Int} (h : KM w b n f) : ∀ cs t fz, w.heap[b]? ≠ some (.cells cs t fz) := by
  obtain ⟨D, ⟨es, clock, hb, _⟩, _⟩ := h
  intro cs t fz e
  rw [hb] at e; cases e
/-- What a look-up with 'ok' yields. -/
def lookI (o : Option Int) : Value := match o with | none => .tuple #[.int .i64 0, .bool false] | some c => .tuple #[.int .i64 c, .bool true]
theorem KM.look {w : World} {b n : Nat} {f : Ins → Option Int} (h : KM w b n f) (x : Ins) (hx : OkIns x) :
    (Instr.lookup 96 (.map (some b)) (insV x) true).run Tryz.prog w = .ok (lookI (f x)) w := by
  obtain ⟨D, ⟨es, clock, hb, hF, hsz, hD⟩, hf⟩ := h
  rcases Maps.fit_look true Tryz.keyIns Tryz.underlying96 (Tryz.zeroValue3 w) hb hF (Tryz.keyOfIns x hx) with ⟨hrun, _, hat⟩ | ⟨e0, y, _, _, hrun, hRv, hat, _⟩
  · have hn : f x = none := by
      cases hc : f x with
      | none => rfl
      | some c =>
        have h1 := hf x .nil hx
        rw [hc, hD, hat .nil] at h1
        cases h1
    rw [hn]
    exact hrun
  · obtain ⟨c, hv, hy, _⟩ := plainElem_int_inv Tryz.underlying3 hRv
    have hn : f x = some c := by
      cases hc : f x with
      | none =>
        have h1 := hf x .nil hx
        rw [hc, hD, hat .nil, hy] at h1
        cases h1
      | some c' =>
        have h1 := hf x .nil hx
        rw [hc, hD, hat .nil, hy] at h1
        simp only [DataW.lit.injEq, Lit.int.injEq, true_and] at h1
        rw [h1]
    rw [hn]
    rw [hv] at hrun
    exact hrun
theorem KM.store {w : World} {b n : Nat} {f : Ins → Option Int} (h : KM w b n f) (hn : n < 1000000) (x : Ins) (hx : OkIns x) (c : Int) (hc : Ok64 c) :
    ∃ w', (Instr.mapUpdate 96 (.map (some b)) (insV x) (.int .i64 c)).run Tryz.prog w = .ok () w' ∧ KM w' b (n + 1) (fun y => if y = x then some c else f y) ∧ w.grownBy w' (some b) := by
  obtain ⟨D, hD, hf⟩ := h
  obtain ⟨w', hrun, hown, hg⟩ := hD.update Tryz.keyIns Tryz.underlying96 (by unfold maxLen; omega) (Tryz.keyOfIns x hx) (plainElem_int Tryz.underlying3 (wf64 hc))
  refine ⟨w', hrun, ⟨_, hown, fun y zd hy => ?_⟩, hg⟩
  by_cases ht : y = x
  · subst ht
    rw [Maps.atKey_put_same hD.isMap (show WideAt.IsKeyLit (insK y) from trivial)]; simp
  · have hne : insK y ≠ insK x := fun e => ht (insK_inj hy hx e)
    rw [Maps.atKey_put_other hne, hf y _ hy]; simp [ht]
end Go.Proofs.YtcdfghogmdhfcaaGreatDoor

namespace Go.Proofs.YtcdfghogmdhfcaaGreatDoor
open Go.RowKit Go.Deep
set_option linter.unusedVariables false

theorem own_block {w : World} {base : Nat} {e : TypeId} {sz : Nat} {v : Value} {n : Nat} {xs : List Value} (h : w.ownsRow base e sz v n xs) {g : Nat} (hg : v.ownBlock = some g) : base ≤ g ∧ ∃ cur, w.heap[g]? = some (.cells cur e (0, 0)) := by
  rcases h.2 with ⟨rfl, _⟩ | ⟨g', cap, cur, rfl, h1, h2, _⟩
  · cases hg
  · simp only [Value.ownBlock, Option.some.injEq] at hg
    subst hg
    exact ⟨h1, cur, h2⟩
theorem own_apart {w : World} {b1 b2 : Nat} {e1 e2 : TypeId} {s1 s2 : Nat} {v1 v2 : Value} {n1 n2 : Nat} {x1 x2 : List Value} (h1 : w.ownsRow b1 e1 s1 v1 n1 x1) (h2 : w.ownsRow b2 e2 s2 v2 n2 x2) (hne : e1 ≠ e2) : v1.ownBlock = none ∨ v1.ownBlock ≠ v2.ownBlock := by
  cases h : v1.ownBlock with
  | none => exact .inl rfl
  | some g =>
    right
    intro e
    obtain ⟨_, c1, hc1⟩ := own_block h1 h
    obtain ⟨_, c2, hc2⟩ := own_block h2 e.symm
    rw [hc1] at hc2
    simp only [Option.some.injEq, Obj.cells.injEq] at hc2
    exact hne hc2.2.1
theorem row_ne_low53 {w : World} {base : Nat} {e : TypeId} {sz : Nat} {v : Value} {n : Nat} {xs : List Value} (h : w.ownsRow base e sz v n xs) {b : Nat} (hb : b < base) : some b ≠ v.ownBlock := fun e => by have := (own_block h e.symm).1; omega
theorem row_grown {w w' : World} {b : Nat} {t : TypeId} {n : Nat} {f : Nat → Value} {row : Option Nat} (h : w.rowIs b t n f) (hg : w.grownBy w' row) (hne : some b ≠ row) : w'.rowIs b t n f := h.of_block (hg.block b h.lt hne)
theorem row_below {w w' : World} {b : Nat} {t : TypeId} {n : Nat} {f : Nat → Value} (h : w.rowIs b t n f) (hb : Below w.heap.size w w') : w'.rowIs b t n f := h.of_block (hb.block b h.lt)

theorem Tryz.infoInstr : (Tryz.prog.info? 47).map (fun i => (i.zero, i.size, i.bytes)) = some (some (.agg #[.int .i64 0, .int .i64 0, .int .i64 0]), 3, 24) := by kernel_rfl
def rfun (N : Nat) (vc : Value) (MB : Nat) : Nat → Value
  | 0 => .int .i64 N
  | 1 => vc
  | _ => .map (some MB)
/-- Which bit an instruction has. -/
def kn (N : Nat) (c : List Ins) (x : Ins) : Option Int := if x ∈ c then some (putV N c x) else none
structure RS (w : World) (B RB MB N : Nat) (c : List Ins) : Prop where
  lr : RB < B
  lm : MB < B
  ne : RB ≠ MB
  lb : B ≤ w.heap.size
  r : ∃ vc, w.rowIs RB 98 3 (rfun N vc MB) ∧ w.ownsRow B 47 3 vc c.length (icells c)
  m : KM w MB c.length (kn N c)
/-- What a step of the reducer leaves alone: all but its own block, its map, and rows of instructions from B on. -/
structure Fr (B RB MB : Nat) (w w' : World) : Prop where
  os : w'.os = w.os
  tape : w'.tape = w.tape
  output : w'.output = w.output
  size : w.heap.size ≤ w'.heap.size
  block : ∀ k, k < w.heap.size → k ≠ RB → k ≠ MB → (k < B ∨ ∀ cs fz, w.heap[k]? ≠ some (.cells cs 47 fz)) → w'.heap[k]? = w.heap[k]?
theorem Fr.refl (B RB MB : Nat) (w : World) : Fr B RB MB w w := ⟨rfl, rfl, rfl, Nat.le_refl _, fun _ _ _ _ _ => rfl⟩
theorem Fr.trans {B RB MB : Nat} {w1 w2 w3 : World} (h : Fr B RB MB w1 w2) (k : Fr B RB MB w2 w3) : Fr B RB MB w1 w3 :=
  ⟨k.os.trans h.os, k.tape.trans h.tape, k.output.trans h.output, Nat.le_trans h.size k.size, fun j hj h1 h2 h3 => by
    have e := h.block j hj h1 h2 h3
    rw [k.block j (Nat.lt_of_lt_of_le hj h.size) h1 h2 (by rw [e]; exact h3), e]⟩
theorem Fr.of {B RB MB : Nat} {w w' : World} (h : Below w.heap.size w w') : Fr B RB MB w w' := ⟨h.os, h.tape, h.output, h.size, fun k hk _ _ _ => h.block k hk⟩
theorem Fr.own {B RB MB base : Nat} {w w' : World} {e : TypeId} {sz : Nat} {v : Value} {n : Nat} {xs : List Value} (h : Fr B RB MB w w') (ho : w.ownsRow base e sz v n xs) (he : e ≠ 47) (h1 : RB < base) (h2 : MB < base) : w'.ownsRow base e sz v n xs := by
  refine ⟨ho.1, ?_⟩
  rcases ho.2 with h3 | ⟨g, cap, cur, hv, hg, hh, r⟩
  · exact .inl h3
  · refine .inr ⟨g, cap, cur, hv, hg, (h.block g (Array.getElem?_eq_some_iff.1 hh).1 (by omega) (by omega) (.inr fun cs fz e => ?_)).trans hh, r⟩
    rw [hh] at e
    simp only [Option.some.injEq, Obj.cells.injEq] at e
    exact he e.2.1
/-- Cells below B that are not the reducer's. -/
theorem Fr.cell {B RB MB : Nat} {w w' : World} (h : Fr B RB MB w w') {b j : Nat} {v : Value} (hc : w.cell? ⟨b, j, none⟩ = some v) (h0 : b < B) (h1 : b ≠ RB) (h2 : b ≠ MB) : w'.cell? ⟨b, j, none⟩ = some v := by
  have := h.block b (World.block_lt_of_cell? w _ hc) h1 h2 (.inl h0)
  unfold World.cell? at hc ⊢
  simp only at hc ⊢
  rw [this]; exact hc
theorem RS.below {w w' : World} {B RB MB N : Nat} {c : List Ins} (h : RS w B RB MB N c) (hb : Below w.heap.size w w') : RS w' B RB MB N c := by
  obtain ⟨h1, h2, h3, h4, ⟨vc, h5, h6⟩, h7⟩ := h
  exact ⟨h1, h2, h3, Nat.le_trans h4 hb.size, ⟨vc, row_below h5 hb, own_below h6 hb⟩, h7.same (hb.block MB h7.lt)⟩
/-- A row of another type is pushed. -/
theorem RS.other {w w' : World} {B RB MB N n base : Nat} {c : List Ins} {e : TypeId} {sz : Nat} {v : Value} {xs : List Value} (h : RS w B RB MB N c) (ho : w.ownsRow base e sz v n xs) (he : e ≠ 47) (hbase : B ≤ base) (hg : w.grownBy w' v.ownBlock) : RS w' B RB MB N c := by
  obtain ⟨h1, h2, h3, h4, ⟨vc, h5, h6⟩, h7⟩ := h
  exact ⟨h1, h2, h3, Nat.le_trans h4 hg.size, ⟨vc, row_grown h5 hg (row_ne_low53 ho (by omega)), h6.kept hg (own_apart h6 ho (fun e' => he e'.symm))⟩, h7.same (hg.block MB h7.lt (row_ne_low53 ho (by omega)))⟩
theorem KM.congr {w : World} {b n : Nat} {f g : Ins → Option Int} (h : KM w b n f) (he : ∀ s, f s = g s) : KM w b n g := by
  obtain ⟨D, hD, hf⟩ := h
  exact ⟨D, hD, fun s zd hs => by rw [hf s zd hs, he]⟩
theorem kn_snoc {N : Nat} {c : List Ins} {x : Ins} (h : x ∉ c) (y : Ins) : (if y = x then some ((N + c.length : Nat) : Int) else kn N c y) = kn N (c ++ [x]) y := by
  unfold kn putV
  by_cases e : y = x
  · subst e
    rw [if_pos rfl, if_pos (by simp), List.idxOf_append, if_neg h]
    simp
  · rw [if_neg e]
    by_cases hy : y ∈ c
    · rw [if_pos hy, if_pos (by simp [hy]), List.idxOf_append, if_pos hy]
    · rw [if_neg hy, if_neg (by simp [hy, e])]
theorem RS.c {w : World} {B RB MB N : Nat} {c : List Ins} (h : RS w B RB MB N c) : ∃ ac cc, w.cell? ⟨RB, 0, none⟩ = some (.int .i64 N) ∧ w.cell? ⟨RB, 1, none⟩ = some (.slice ac c.length cc) ∧ w.cell? ⟨RB, 2, none⟩ = some (.map (some MB)) ∧ w.frozen? ⟨RB, 1, none⟩ = false ∧ w.rowIs RB 98 3 (rfun N (.slice ac c.length cc) MB) ∧ w.ownsRow B 47 3 (.slice ac c.length cc) c.length (icells c) ∧ RB < w.heap.size ∧ c.length ≤ cc ∧ cc ≤ 9223372036854775807 := by
  obtain ⟨h1, h2, h3, h4, ⟨vc, h5, h6⟩, h7⟩ := h
  obtain ⟨ac, cc, rfl⟩ := own_slice h6
  obtain ⟨ao', cap', e, _, hn, hm, _⟩ := Sl.of_owns h6
  simp only [Value.slice.injEq] at e
  obtain ⟨rfl, -, rfl⟩ := e
  exact ⟨ac, cc, h5.cell (i := 0) (by omega), h5.cell (i := 1) (by omega), h5.cell (i := 2) (by omega), h5.frozen 1, h5, h6, by omega, hn, hm⟩
theorem boxI' {w w0 : World} {a b c : Int} (h : w.alloc (.cells #[.int .i64 a, .int .i64 b, .int .i64 c] 47) = w0) :
    Below w.heap.size w w0 ∧ w0.cell? ⟨w.heap.size, 0, none⟩ = some (.int .i64 a) ∧ w0.cell? ⟨w.heap.size, 1, none⟩ = some (.int .i64 b) ∧ w0.cell? ⟨w.heap.size, 2, none⟩ = some (.int .i64 c) := by
  subst h
  exact ⟨bel_alloc _ _, by simp, by simp, by simp⟩
theorem kn_yes {N : Nat} {c : List Ins} {x : Ins} (h : x ∈ c) : kn N c x = some (putV N c x) := by rw [kn, if_pos h]
theorem kn_no {N : Nat} {c : List Ins} {x : Ins} (h : x ∉ c) : kn N c x = none := by rw [kn, if_neg h]

theorem bel_ad {w : World} {o : Obj} : Below w.heap.size w (w.alloc o).drew := below_now ⟨rfl, rfl, rfl⟩ (.inr ⟨_, rfl⟩)
theorem bel_da {w : World} {o : Obj} : Below w.heap.size w (w.drew.alloc o) := below_now ⟨rfl, rfl, rfl⟩ (.inr ⟨_, rfl⟩)
/-- The code with one instruction more, laid into the reducer. -/
theorem RS.pushed {w wa w3 : World} {B RB MB N : Nat} {c : List Ins} {x : Ins} {v v' : Value} (h : RS w B RB MB N c) (hw : Below w.heap.size w wa) (h5 : w.rowIs RB 98 3 (rfun N v MB)) (h6 : w.ownsRow B 47 3 v c.length (icells c)) (hg : wa.grownBy w3 v.ownBlock) (ho : w3.ownsRow B 47 3 v' (c.length + 1) (icells c ++ [.int .i64 x.op, .int .i64 x.a, .int .i64 x.b])) :
    (w3.setCell ⟨RB, 1, none⟩ v').rowIs RB 98 3 (rfun N v' MB) ∧ (w3.setCell ⟨RB, 1, none⟩ v').ownsRow B 47 3 v' (c ++ [x]).length (icells (c ++ [x])) ∧ KM (w3.setCell ⟨RB, 1, none⟩ v') MB c.length (kn N c) ∧ B ≤ (w3.setCell ⟨RB, 1, none⟩ v').heap.size ∧ Fr B RB MB w (w3.setCell ⟨RB, 1, none⟩ v') := by
  obtain ⟨l1, l2, l3, l4, _, l7⟩ := h
  have r1 := row_grown (row_below h5 hw) hg (row_ne_low53 (own_below h6 hw) l1)
  have o1 := own_below h6 hw
  refine ⟨(r1.set 1 v').congr fun i hi => ?_, ?_, ?_, ?_, ?_⟩
  · have : i = 0 ∨ i = 1 ∨ i = 2 := by omega
    rcases this with rfl | rfl | rfl <;> rfl
  · have := ownsRow_setCell_below (a := ⟨RB, 1, none⟩) ho l1 v'
    rw [List.length_append, icells_snoc]
    exact this
  · refine (l7.same (hw.block _ l7.lt)).same (((blk_setCell_other _ _ _ _ (by show MB ≠ RB; omega)).trans (hg.block MB (Nat.lt_of_lt_of_le l7.lt hw.size) (row_ne_low53 o1 l2))))
  · simp
    have := hg.size
    have := hw.size
    omega
  · refine (Fr.of (B := B) (RB := RB) (MB := MB) hw).trans ⟨hg.os, hg.tape, hg.output, by simp; exact hg.size, fun k hk h1 h2 h3 => ?_⟩
    rw [blk_setCell_other _ _ _ _ (by show k ≠ RB; omega)]
    refine hg.block k hk fun e => ?_
    obtain ⟨g1, cur, g2⟩ := own_block o1 e.symm
    rcases h3 with h3 | h3
    · omega
    · exact h3 _ _ g2
set_option maxRecDepth 100000 in
set_option maxHeartbeats 4000000 in
theorem put_any (B RB MB N : Nat) (c : List Ins) (op a b : Int) (w : World) (h : RS w B RB MB N c) (hx : OkIns ⟨op, a, b⟩) (hN : N ≤ 24) (hc : c.length ≤ 100000) :
    Calls Tryz.prog 82 #[.pointer (some ⟨RB, 0, none⟩), .agg #[.int .i64 op, .int .i64 a, .int .i64 b]] w fun e w' => e = .returned (.int .i64 (putV N c ⟨op, a, b⟩)) ∧ RS w' B RB MB N (putC c ⟨op, a, b⟩) ∧ Fr B RB MB w w' := by
  have HS := hid h
  clear h
  go_enter Tryz.func82, Tryz.ntmps82
  go_upto_region 1 with fail
  obtain ⟨wx, hwx⟩ : ∃ wx, w.alloc (.cells #[.int .i64 op, .int .i64 a, .int .i64 b] 47) = wx := ⟨_, rfl⟩
  obtain ⟨hbx, y0, y1, y2⟩ := boxI' hwx
  rw [hwx]
  have HX := hid (HS.out.below hbx)
  have HFx := hid (Fr.of (B := B) (RB := RB) (MB := MB) hbx)
  obtain ⟨ac, cc, c0, c1, c2, f1, h5, h6, hlt, hcc1, hcc2⟩ := HS.out.c
  have HNe := hid (show some w.heap.size ≠ (Value.slice ac c.length cc).ownBlock from fun e => by
    obtain ⟨_, cur, h⟩ := own_block h6 e.symm
    have := (Array.getElem?_eq_some_iff.1 h).1
    omega)
  have HRx := hid (row_below h5 hbx)
  have HOx := hid (own_below h6 hbx)
  have c0 := keeps hbx c0
  have c1 := keeps hbx c1
  have c2 := keeps hbx c2
  clear hwx hbx h5 h6 f1
  by_cases hm : (⟨op, a, b⟩ : Ins) ∈ c
  · have hlook := fun n => ((HX.out.below (below_drewN (Below.refl wx.heap.size wx) n)).m.look ⟨op, a, b⟩ hx)
    rw [kn_yes hm] at hlook
    unfold lookI insV at hlook
    have HP := hid (show putC c ⟨op, a, b⟩ = c by rw [putC, if_pos hm])
    clear hm
    obtain ⟨V, hV⟩ : ∃ V, putV N c ⟨op, a, b⟩ = V := ⟨_, rfl⟩
    rw [hV] at hlook
    have HV := hid hV
    clear hV
    go_quiet (fail)
    clear hlook
    go_wp2
    go_ret
    exact ⟨ret_int HV.out.symm, by rw [HP.out]; exact HX.out.below (below_drewN (Below.refl _ _) _), HFx.out.trans (Fr.of (below_drewN (Below.refl _ _) _))⟩
  · have hlook := fun n => ((HX.out.below (below_drewN (Below.refl wx.heap.size wx) n)).m.look ⟨op, a, b⟩ hx)
    rw [kn_no hm] at hlook
    unfold lookI insV at hlook
    have HP := hid (show putC c ⟨op, a, b⟩ = c ++ [⟨op, a, b⟩] by rw [putC, if_neg hm])
    have HV := hid (show putV N c ⟨op, a, b⟩ = ((N + c.length : Nat) : Int) by rw [putV, List.idxOf_eq_length hm])
    have HK := hid (fun y => kn_snoc (N := N) hm y)
    clear hm
    go_quiet (fail)
    clear hlook
    have HQ := hid (show ∀ n, RS (wx.drewN n) B RB MB N c ∧ Below wx.heap.size wx (wx.drewN n) from fun n => ⟨HX.out.below (below_drewN (Below.refl _ _) n), below_drewN (Below.refl _ _) n⟩)
    rename Nat => nq
    obtain ⟨w2, hw2⟩ : ∃ w2, wx.drewN nq = w2 := ⟨_, rfl⟩
    obtain ⟨h2, hb2⟩ := HQ.out nq
    rw [hw2] at h2 hb2 ⊢
    have H2 := hid h2
    have HF2 := hid (HFx.out.trans (Fr.of hb2))
    have y0 := keeps hb2 y0
    have y1 := keeps hb2 y1
    have y2 := keeps hb2 y2
    have HR := hid (row_below HRx.out hb2)
    have HO := hid (own_below HOx.out hb2)
    have c0 := keeps hb2 c0
    have c1 := keeps hb2 c1
    have c2 := keeps hb2 c2
    have HYl := hid (World.block_lt_of_cell? _ _ y0)
    clear HQ hw2 hb2 h2 HX HRx HOx
    have hlB := H2.out.lb
    have hlR := H2.out.lr
    have hlw := HS.out.lb
    go_upto_region 4 with fail
    have hc1' : (w2.alloc (.cells #[.int .i64 op, .int .i64 a, .int .i64 b] 47)).cell? ⟨RB, 1, none⟩ = some (.slice ac c.length cc) := keeps (bel_alloc _ _) c1
    go_region_law ((refine step_push (by rfl) _ _ 25 (by rfl) B 47 (.agg #[.int .i64 0, .int .i64 0, .int .i64 0]) 3 24 Tryz.underlying25 Tryz.infoInstr rfl (by decide) (.slice ac c.length cc) c.length (icells c) (by rfl) (own_below HO.out (below_now ⟨rfl, rfl, rfl⟩ (.inr ⟨_, rfl⟩))) w2.heap.size #[.int .i64 op, .int .i64 a, .int .i64 b] rfl (by intro u hu; simp at hu; rcases hu with rfl | rfl | rfl <;> rfl) (by rfl) (heap_alloc_new _ _) (by unfold maxLen; omega) (by omega) (by simp; omega) ?_; intro g gc w3 hown3 hg3 hb3; have hp3 := row_grown (row_below HR.out (below_now ⟨rfl, rfl, rfl⟩ (.inr ⟨_, rfl⟩) : Below w2.heap.size w2 (w2.alloc (.cells #[.int .i64 op, .int .i64 a, .int .i64 b] 47)).drew)) hg3 (row_ne_low53 HO.out (by omega)); have k1 := hp3.cell (i := 1) (by omega); have kf := hp3.frozen 1))
    all_goals
      have hP3 := H2.out.pushed (x := ⟨op, a, b⟩) (below_now ⟨rfl, rfl, rfl⟩ (.inr ⟨_, rfl⟩) : Below w2.heap.size w2 (w2.alloc (.cells #[.int .i64 op, .int .i64 a, .int .i64 b] 47)).drew) HR.out HO.out hg3 hown3
      have hY : ∀ j v, w2.cell? ⟨w.heap.size, j, none⟩ = some v → (w3.setCell ⟨RB, 1, none⟩ (.slice (some ⟨g, 0, none⟩) (c.length + 1) gc)).cell? ⟨w.heap.size, j, none⟩ = some v := fun j v hv => by
        rw [World.cell?_setCell_other _ _ _ _ (by simp)]
        have h1 := keeps (below_now ⟨rfl, rfl, rfl⟩ (.inr ⟨_, rfl⟩) : Below w2.heap.size w2 (w2.alloc (.cells #[.int .i64 op, .int .i64 a, .int .i64 b] 47)).drew) hv
        exact (World.cell?_of_block (hg3.block _ (World.block_lt_of_cell? _ _ h1) HNe.out)).trans h1
      have y0 := hY 0 _ y0
      have y1 := hY 1 _ y1
      have y2 := hY 2 _ y2
      obtain ⟨w5, hw5⟩ : ∃ w5, w3.setCell ⟨RB, 1, none⟩ (.slice (some ⟨g, 0, none⟩) (c.length + 1) gc) = w5 := ⟨_, rfl⟩
      rw [hw5] at hP3 y0 y1 y2 ⊢
      obtain ⟨r5, o5, m5, l5, f5⟩ := hP3
      have HR5 := hid r5
      have HO5 := hid o5
      have HM5 := hid m5
      have HF5 := hid f5
      have HL5 := hid l5
      clear hw5 hown3 hg3 hb3 hp3 k1 kf c0 c1 c2 hc1' r5 o5 m5 f5 l5 hY
      have d0 := HR5.out.cell (i := 0) (by omega)
      have d1 := HR5.out.cell (i := 1) (by omega)
      have d2 := HR5.out.cell (i := 2) (by omega)
      simp only [rfun] at d0 d1 d2
      have hs1 : IntKind.i64.wrap ((N : Int) + ((c.length : Int) + 1)) = (N : Int) + ((c.length : Int) + 1) := IntWalk.i64_in _ (by omega)
      have hs2 : IntKind.i64.wrap ((N : Int) + ((c.length : Int) + 1) - 1) = (N : Int) + (c.length : Int) := (IntWalk.i64_in _ (by omega)).trans (by omega)
      go_upto_region 5 with fail
      go_quiet (fail)
      clear hs1 hs2
      go_upto_region 6 with fail
      have HQ5 := hid (show ∀ n, Below w5.heap.size w5 (w5.drewN n) from fun n => below_drewN (Below.refl _ _) n)
      rename Nat => nq
      obtain ⟨w6, hw6⟩ : ∃ w6, w5.drewN nq = w6 := ⟨_, rfl⟩
      have hb6 := HQ5.out nq
      rw [hw6] at hb6 ⊢
      have y0 := keeps hb6 y0
      have y1 := keeps hb6 y1
      have y2 := keeps hb6 y2
      have d2 := keeps hb6 d2
      have HB6 := hid hb6
      have HM6 := hid (HM5.out.same (w' := w6.drew) (hb6.block _ HM5.out.lt))
      clear HQ5 hw6 hb6 d0 d1
      obtain ⟨w7, hrun7, hm7, hg7⟩ := HM6.out.store (by omega) ⟨op, a, b⟩ hx ((N : Int) + (c.length : Int)) (by unfold Ok64; omega)
      unfold insV at hrun7
      simp only at hrun7
      have HM7 := hid hm7
      have HG7 := hid hg7
      clear hm7 hg7
      go_region
      all_goals
        have HB6d := hid (show Below w5.heap.size w5 w6.drew from HB6.out.trans (below_drewN (Below.refl _ _) 1))
        have HRS := hid (show RS w7 B RB MB N (putC c ⟨op, a, b⟩) by
          rw [HP.out]
          have h1 := H2.out.lr
          have h2 := H2.out.lm
          refine ⟨h1, h2, H2.out.ne, Nat.le_trans HL5.out (Nat.le_trans HB6d.out.size HG7.out.size), ⟨_, row_grown (row_below HR5.out HB6d.out) HG7.out (by simp; exact H2.out.ne), (own_below HO5.out HB6d.out).kept HG7.out ?_⟩, ?_⟩
          · right
            intro e
            have := (own_block HO5.out e).1
            omega
          · have := (HM7.out.congr HK.out)
            rw [List.length_append]
            exact this)
        have HFr := hid (show Fr B RB MB w w7 from ((HF2.out.trans HF5.out).trans (Fr.of HB6d.out)).trans ⟨HG7.out.os, HG7.out.tape, HG7.out.output, HG7.out.size, fun k hk h1 h2 h3 => HG7.out.block k hk (by simp; exact h2)⟩)
        clear hrun7
        go_wp2
        go_ret
        exact ⟨ret_int (by rw [HV.out]; omega), HRS.out, HFr.out⟩
end Go.Proofs.YtcdfghogmdhfcaaGreatDoor
