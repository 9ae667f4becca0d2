/-
  A map from tables (a number and a string) to numbers that the call itself has made.
  The maker of program.Encoder in memory: its code, its map; add.
  A text trimmed of one letter is empty exactly if it is that letter alone.
  program.maker.bit: the bit of a truth table.
  Conditions: No condition: these are general lemmas. The code is not longer than a hundred thousand. No condition: plain laws. The table has a power of two of letters, 0 and 1; the maker's map says what its code does.
-/
import Derived.Test.YtcdfghogmdhfcaaGreatDoorMg0
import Derived.Test.YtcdfghogmdhfcaaGreatDoorMg15
import Derived.Test.YtcdfghogmdhfcaaGreatDoorMakAlg
import Derived.Test.YtcdfghogmdhfcaaGreatDoorCodeLaw
import Derived.Lib.TrimByte
import Derived.Test.YtcdfghogmdhfcaaGreatDoorShelfT
import Derived.Deep.RegionHeld3
namespace Go.Proofs.YtcdfghogmdhfcaaGreatDoor
open Go.RowKit
set_option linter.unusedVariables false

theorem Tryz.rowMade : (113 : TypeId) < Tryz.prog.types.size := of_decide_eq_true (by kernel_rfl)
theorem Tryz.wideMade : (match Tryz.prog.underlying 113 with | some (.array _ _) | some (.struct _) => true | _ => false) = true := by rw [Tryz.underlying113]
set_option maxRecDepth 100000 in
theorem Tryz.keyMade : Maps.Keyed Tryz.prog 113 := Maps.Keyed.of_law (deep_law_laid Tryz.laidIns (m := 3) (by omega) Tryz.rowMade (by kernel_rfl) Tryz.wideMade)
theorem Tryz.keyTypeMade : Tryz.prog.keyType 113 = true := by kernel_rfl
theorem Tryz.cellsMade : Tryz.prog.cellsOf 113 = 2 := by kernel_rfl
theorem Tryz.cellsStr : Tryz.prog.cellsOf 9 = 1 := by kernel_rfl
def strB (t : List UInt8) : ByteArray := ⟨t.toArray⟩
def madeV (x : MKey) : Value := .agg #[.int .i64 x.1, .string (strB x.2)]
def madeK (x : MKey) : Lit := .string (keyBytes [.int .i64 x.1, .string x.2])
def OkKey (x : MKey) : Prop := Ok64 x.1 ∧ x.2.length ≤ 65536
theorem Tryz.keyOfMade (x : MKey) (h : OkKey x) : keyOf Tryz.prog 113 (madeV x) = some (madeK x) := by
  obtain ⟨h1, h2⟩ := h
  obtain ⟨m, hm⟩ := Tryz.sizeIns
  unfold keyOf madeV madeK
  simp only [Tryz.underlying113]
  rw [if_pos (by simp [Tryz.keyTypeMade, Value.formed, Tryz.underlying113, Tryz.cellsMade]), hm]
  unfold Program.keyLits
  simp only [Tryz.underlying113, Value.cells]
  rw [if_pos (by rw [Tryz.cellsMade]; exact ⟨rfl, by kernel_rfl⟩)]
  simp [List.mapM_cons, Tryz.cellsInt, Tryz.cellsStr, Program.keyLits, Tryz.underlying3, Tryz.underlying9, wf64 h1]
  have hs : (strB x.2).size ≤ maxLen := by
    show x.2.toArray.size ≤ maxLen
    simp only [List.size_toArray]
    unfold maxLen; omega
  rw [if_pos hs]
  simp [strB]
theorem madeK_inj {x y : MKey} (hx : OkKey x) (hy : OkKey y) (h : madeK x = madeK y) : x = y := by
  have h1 := Tryz.keyOfMade x hx
  have h2 := Tryz.keyOfMade y hy
  rw [h] at h1
  have := Tryz.keyMade.inj h1 h2
  unfold madeV strB at this
  obtain ⟨a, b⟩ := x
  obtain ⟨c, d⟩ := y
  simp at this
  simp [this]
/-- The block b is a map of at most n entries; it says f of each table. -/
def TM (w : World) (b n : Nat) (f : MKey → Option Int) : Prop :=
  ∃ D : DataW Unit, w.ownsMap Tryz.prog 113 (plainElem Tryz.prog 3) b n D ∧ ∀ (x : MKey) (zd : DataW Unit), OkKey x → D.atKey (madeK x) zd = match f x with | none => zd | some c => .lit (.int .i64 c)
theorem TM.made (w : World) : TM (w.alloc (.map #[] 0)) w.heap.size 0 (fun _ => none) := ⟨_, World.ownsMap_made w _ _ _, fun s zd _ => rfl⟩
theorem TM.same {w w' : World} {b n : Nat} {f : MKey → Option Int} (h : TM w b n f) (hh : w'.heap[b]? = w.heap[b]?) : TM w' b n f := by
  obtain ⟨D, ⟨es, clock, hb, hF, hs, hD⟩, hf⟩ := h
  exact ⟨D, ⟨es, clock, hh.trans hb, hF, hs, hD⟩, hf⟩
theorem TM.lt {w : World} {b n : Nat} {f : MKey → Option Int} (h : TM w b n f) : b < w.heap.size := by
  obtain ⟨D, hD, _⟩ := h
  exact hD.lt
theorem TM.mono {w : World} {b n m : Nat} {f : MKey → Option Int} (h : TM w b n f) (hm : n ≤ m) : TM w b m f := by
  obtain ⟨D, ⟨es, clock, hb, hF, hs, hD⟩, hf⟩ := h
  exact ⟨D, ⟨es, clock, hb, hF, by omega, hD⟩, hf⟩
theorem TM.noCells {w : World} {b n : Nat} {f : MKey → Option Int} (h : TM w b n f) : ∀ cs t fz, w.heap[b]? ≠ some (.cells cs t fz) := by
  obtain ⟨D, ⟨es, clock, hb, _⟩, _⟩ := h
  intro cs t fz e
  rw [hb] at e; cases e
theorem TM.look {w : World} {b n : Nat} {f : MKey → Option Int} (h : TM w b n f) (x : MKey) (hx : OkKey x) :
    (Instr.lookup 58 (.map (some b)) (madeV x) true).run Tryz.prog w = .ok (lookI (f x)) w := by
  obtain ⟨D, ⟨es, clock, hb, hF, hsz, hD⟩, hf⟩ := h
  rcases Maps.fit_look true Tryz.keyMade Tryz.underlying58 (Tryz.zeroValue3 w) hb hF (Tryz.keyOfMade x hx) with ⟨hrun, _, hat⟩ | ⟨e0, y, _, _, hrun, hRv, hat, _⟩
  · have hn : f x = none := by
      cases hc : f x with
      | none => rfl
      | some c =>
        have h1 := hf x .nil hx
        rw [hc, hD, hat .nil] at h1
        cases h1
    rw [hn]
    exact hrun
  · obtain ⟨c, hv, hy, _⟩ := plainElem_int_inv Tryz.underlying3 hRv
    have hn : f x = some c := by
      cases hc : f x with
      | none =>
        have h1 := hf x .nil hx
        rw [hc, hD, hat .nil, hy] at h1
        cases h1
      | some c' =>
        have h1 := hf x .nil hx
        rw [hc, hD, hat .nil, hy] at h1
        simp only [DataW.lit.injEq, Lit.int.injEq, true_and] at h1
        rw [h1]
    rw [hn]
    rw [hv] at hrun
    exact hrun
theorem TM.store {w : World} {b n : Nat} {f : MKey → Option Int} (h : TM w b n f) (hn : n < 1000000) (x : MKey) (hx : OkKey x) (c : Int) (hc : Ok64 c) :
    ∃ w', (Instr.mapUpdate 58 (.map (some b)) (madeV x) (.int .i64 c)).run Tryz.prog w = .ok () w' ∧ TM w' b (n + 1) (fun y => if y = x then some c else f y) ∧ w.grownBy w' (some b) := by
  obtain ⟨D, hD, hf⟩ := h
  obtain ⟨w', hrun, hown, hg⟩ := hD.update Tryz.keyMade Tryz.underlying58 (by unfold maxLen; omega) (Tryz.keyOfMade x hx) (plainElem_int Tryz.underlying3 (wf64 hc))
  refine ⟨w', hrun, ⟨_, hown, fun y zd hy => ?_⟩, hg⟩
  by_cases ht : y = x
  · subst ht
    rw [Maps.atKey_put_same hD.isMap (show WideAt.IsKeyLit (madeK y) from trivial)]; simp
  · have hne : madeK y ≠ madeK x := fun e => ht (madeK_inj hy hx e)
    rw [Maps.atKey_put_other hne, hf y _ hy]; simp [ht]
end Go.Proofs.YtcdfghogmdhfcaaGreatDoor

namespace Go.Proofs.YtcdfghogmdhfcaaGreatDoor
open Go.RowKit Go.Deep
set_option linter.unusedVariables false

def mfun (N : Nat) (vc vo : Value) (MB : Nat) : Nat → Value
  | 0 => .int .i64 N
  | 1 => vc
  | 2 => vo
  | _ => .map (some MB)
structure MS (w : World) (B RB MB N K : Nat) (vo : Value) (st : MSt) : Prop where
  lr : RB < B
  lm : MB < B
  ne : RB ≠ MB
  lb : B ≤ w.heap.size
  r : ∃ vc, w.rowIs RB 60 4 (mfun N vc vo MB) ∧ w.ownsRow B 47 3 vc st.code.length (icells st.code)
  m : TM w MB K st.kn
theorem MS.below {w w' : World} {B RB MB N K : Nat} {vo : Value} {st : MSt} (h : MS w B RB MB N K vo st) (hb : Below w.heap.size w w') : MS w' B RB MB N K vo st := by
  obtain ⟨h1, h2, h3, h4, ⟨vc, h5, h6⟩, h7⟩ := h
  exact ⟨h1, h2, h3, Nat.le_trans h4 hb.size, ⟨vc, row_below h5 hb, own_below h6 hb⟩, h7.same (hb.block MB h7.lt)⟩
theorem MS.mono {w : World} {B RB MB N K K' : Nat} {vo : Value} {st : MSt} (h : MS w B RB MB N K vo st) (hk : K ≤ K') : MS w B RB MB N K' vo st := ⟨h.lr, h.lm, h.ne, h.lb, h.r, h.m.mono hk⟩
theorem MS.c {w : World} {B RB MB N K : Nat} {vo : Value} {st : MSt} (h : MS w B RB MB N K vo st) : ∃ ac cc, w.cell? ⟨RB, 0, none⟩ = some (.int .i64 N) ∧ w.cell? ⟨RB, 1, none⟩ = some (.slice ac st.code.length cc) ∧ w.cell? ⟨RB, 3, none⟩ = some (.map (some MB)) ∧ w.frozen? ⟨RB, 1, none⟩ = false ∧ w.rowIs RB 60 4 (mfun N (.slice ac st.code.length cc) vo MB) ∧ w.ownsRow B 47 3 (.slice ac st.code.length cc) st.code.length (icells st.code) ∧ RB < w.heap.size ∧ st.code.length ≤ cc ∧ cc ≤ 9223372036854775807 := by
  obtain ⟨h1, h2, h3, h4, ⟨vc, h5, h6⟩, h7⟩ := h
  obtain ⟨ac, cc, rfl⟩ := own_slice h6
  obtain ⟨ao', cap', e, _, hn, hm, _⟩ := Sl.of_owns h6
  simp only [Value.slice.injEq] at e
  obtain ⟨rfl, -, rfl⟩ := e
  exact ⟨ac, cc, h5.cell (i := 0) (by omega), h5.cell (i := 1) (by omega), h5.cell (i := 3) (by omega), h5.frozen 1, h5, h6, by omega, hn, hm⟩
/-- The code with one instruction more, laid into the maker. -/
theorem MS.pushed {w w3 : World} {B RB MB N K : Nat} {vo : Value} {st : MSt} {x : Ins} {v v' : Value} (h : MS w B RB MB N K vo st) (h5 : w.rowIs RB 60 4 (mfun N v vo MB)) (h6 : w.ownsRow B 47 3 v st.code.length (icells st.code)) (hg : w.grownBy w3 v.ownBlock) (ho : w3.ownsRow B 47 3 v' (st.code.length + 1) (icells st.code ++ [.int .i64 x.op, .int .i64 x.a, .int .i64 x.b])) :
    MS (w3.setCell ⟨RB, 1, none⟩ v') B RB MB N K vo (st.add [x]) ∧ Fr B RB MB w (w3.setCell ⟨RB, 1, none⟩ v') := by
  obtain ⟨l1, l2, l3, l4, _, l7⟩ := h
  have r1 := row_grown h5 hg (row_ne_low53 h6 l1)
  refine ⟨⟨l1, l2, l3, ?_, ⟨v', (r1.set 1 v').congr fun i hi => ?_, ?_⟩, ?_⟩, ?_⟩
  · simp
    have := hg.size
    omega
  · have : i = 0 ∨ i = 1 ∨ i = 2 ∨ i = 3 := by omega
    rcases this with rfl | rfl | rfl | rfl <;> rfl
  · have := ownsRow_setCell_below (a := ⟨RB, 1, none⟩) ho l1 v'
    show (w3.setCell ⟨RB, 1, none⟩ v').ownsRow B 47 3 v' (st.code ++ [x]).length (icells (st.code ++ [x]))
    rw [List.length_append, icells_snoc]
    exact this
  · show TM _ MB K st.kn
    exact l7.same ((blk_setCell_other _ _ _ _ (by show MB ≠ RB; omega)).trans (hg.block MB l7.lt (row_ne_low53 h6 l2)))
  · refine ⟨hg.os, hg.tape, hg.output, by simp; exact hg.size, fun k hk h1 h2 h3 => ?_⟩
    rw [blk_setCell_other _ _ _ _ (by show k ≠ RB; omega)]
    refine hg.block k hk fun e => ?_
    obtain ⟨g1, cur, g2⟩ := own_block h6 e.symm
    rcases h3 with h3 | h3
    · omega
    · exact h3 _ _ g2
set_option maxRecDepth 100000 in
set_option maxHeartbeats 4000000 in
theorem add_any (B RB MB N K : Nat) (vo : Value) (st : MSt) (op a b : Int) (w : World) (h : MS w B RB MB N K vo st) (hN : N ≤ 24) (hc : st.code.length ≤ 100000) :
    Calls Tryz.prog 55 #[.pointer (some ⟨RB, 0, none⟩), .int .i64 op, .int .i64 a, .int .i64 b] w fun e w' => e = .returned (.int .i64 ((N + st.code.length : Nat) : Int)) ∧ MS w' B RB MB N K vo (st.add [⟨op, a, b⟩]) ∧ Fr B RB MB w w' := by
  have HS := hid h
  have hlb := h.lb
  clear h
  obtain ⟨ac, cc, c0, c1, c2, f1, h5, h6, hlt, hcc1, hcc2⟩ := HS.out.c
  have HR := hid h5
  have HO := hid h6
  clear h5 h6
  go_enter Tryz.func55, Tryz.ntmps55
  go_upto_region 2 with (at_builtin; refine wpList_push w rfl _ _ 25 rfl B 47 (.agg #[.int .i64 0, .int .i64 0, .int .i64 0]) 3 24 Tryz.underlying25 Tryz.infoInstr rfl (by decide) (.slice ac st.code.length cc) st.code.length (icells st.code) rfl HO.out #[.int .i64 op, .int .i64 a, .int .i64 b] rfl (by intro u hu; simp at hu; rcases hu with rfl | rfl | rfl <;> rfl) rfl (by unfold maxLen; omega) (by omega) hlb ?_; intro g cp w3 hown3 hg3 hb3; have hr3 := row_grown HR.out hg3 (row_ne_low53 HO.out HS.out.lr); have k1 := hr3.cell (i := 1) (by omega); have kf := hr3.frozen 1; have HP := hid (HS.out.pushed (x := ⟨op, a, b⟩) HR.out HO.out hg3 hown3))
  obtain ⟨w5, hw5⟩ : ∃ w5, w3.setCell ⟨RB, 1, none⟩ (.slice (some ⟨g, 0, none⟩) (st.code.length + 1) cp) = w5 := ⟨_, rfl⟩
  rw [hw5] at HP
  rw [hw5]
  obtain ⟨ac5, cc5, d0, d1, _⟩ := HP.out.1.c
  clear hw5 hr3 k1 kf hown3 hg3 hb3 c0 c1 c2 f1
  have hl5 : (st.add [⟨op, a, b⟩]).code.length = st.code.length + 1 := by simp [MSt.add]
  rw [hl5] at d1
  have hs1 : IntKind.i64.wrap ((N : Int) + ((st.code.length : Int) + 1)) = (N : Int) + ((st.code.length : Int) + 1) := IntWalk.i64_in _ (by omega)
  have hs2 : IntKind.i64.wrap ((N : Int) + ((st.code.length : Int) + 1) - 1) = (N : Int) + (st.code.length : Int) := (IntWalk.i64_in _ (by omega)).trans (by omega)
  clear hl5
  go_quiet (fail)
  clear hs1 hs2
  go_wp2
  go_ret
  have hbq : Below w5.heap.size w5 (w5.drewN nq) := below_drewN (Below.refl _ _) nq
  exact ⟨ret_int (by omega), HP.out.1.below hbq, HP.out.2.trans (Fr.of hbq)⟩
end Go.Proofs.YtcdfghogmdhfcaaGreatDoor

namespace Go.Proofs.YtcdfghogmdhfcaaGreatDoor
set_option linter.unusedVariables false

theorem dropWhile_nilM (c : UInt8) : ∀ l : List UInt8, l.dropWhile (· == c) = [] ↔ l.all (· == c) = true
  | [] => by simp
  | b :: l => by
    rw [List.dropWhile_cons, List.all_cons]
    by_cases h : (b == c) = true
    · rw [if_pos h, h, Bool.true_and]; exact dropWhile_nilM c l
    · rw [if_neg h]; simp [h]
theorem takeWhile_all (c : UInt8) : ∀ l : List UInt8, (l.takeWhile (· == c)).all (· == c) = true
  | [] => rfl
  | b :: l => by
    rw [List.takeWhile_cons]
    by_cases h : (b == c) = true
    · rw [if_pos h, List.all_cons, h, Bool.true_and]; exact takeWhile_all c l
    · rw [if_neg h]; rfl
theorem trim_nil (c : UInt8) (l : List UInt8) : Lib.trimB l c = [] ↔ l.all (· == c) = true := by
  unfold Lib.trimB Lib.trimLeftB Lib.trimRightB
  rw [dropWhile_nilM, List.all_reverse]
  constructor
  · intro h
    rw [← List.all_reverse, ← List.takeWhile_append_dropWhile (p := (· == c)) (l := l.reverse), List.all_append, h, Bool.and_true]
    exact takeWhile_all c l.reverse
  · intro h
    rw [(dropWhile_nilM c l.reverse).2 (by rw [List.all_reverse]; exact h)]
    rfl
end Go.Proofs.YtcdfghogmdhfcaaGreatDoor

namespace Go.Proofs.YtcdfghogmdhfcaaGreatDoor
open Go.RowKit Go.Deep
set_option linter.unusedVariables false

theorem trim1_any (c : UInt8) (hc : c.toNat < 128) (t : List UInt8) (w : World) (ht : t.length ≤ 65536) :
    Calls Tryz.prog 43 #[.string (strB t), .string ⟨#[c]⟩] w fun e w' => ∃ u : ByteArray, e = .returned (.string u) ∧ u.toList.isEmpty = t.all (· == c) ∧ (t.all (· == c) = true → u = ⟨#[]⟩) ∧ Dr w w' := by
  refine (Tryz.strings_Trim_one (strB t) c hc w (by show t.toArray.size ≤ _; simp; omega)).mono ?_
  rintro e w' ⟨rfl, hw⟩
  have h1 := trim_nil c t
  refine ⟨_, rfl, ?_, fun h => ?_, ?_⟩
  · rw [Bool.eq_iff_iff, ← h1]
    have : (⟨(Lib.trimB (strB t).data.toList c).toArray⟩ : ByteArray).toList = Lib.trimB t c := by rw [ByteArray.toList_eq]; simp [strB]
    rw [this, List.isEmpty_iff]
  · have := h1.2 h
    show (⟨(Lib.trimB t.toArray.toList c).toArray⟩ : ByteArray) = _
    rw [List.toList_toArray, this]
  · rcases hw with rfl | rfl
    · exact Dr.refl _
    · exact ⟨1, rfl⟩
theorem mk_zero {N d : Nat} {fr : Int} {t : List UInt8} {st : MSt} (h : t.all (· == 48) = true) : mkBit N d fr t st = mkConst N 1 48 st := by
  cases d <;> (unfold mkBit mkStep; rw [if_pos h])
theorem mk_one {N d : Nat} {fr : Int} {t : List UInt8} {st : MSt} (h0 : t.all (· == 48) = false) (h : t.all (· == 49) = true) : mkBit N d fr t st = mkConst N 2 49 st := by
  cases d <;> (unfold mkBit mkStep; rw [if_neg (by simp [h0]), if_pos h])
theorem mk_known {N d : Nat} {fr : Int} {t : List UInt8} {st : MSt} {k : Int} (h0 : t.all (· == 48) = false) (h1 : t.all (· == 49) = false) (h : st.kn (fr, t) = some k) : mkBit N d fr t st = (k, st) := by
  cases d <;> (unfold mkBit mkStep; rw [if_neg (by simp [h0]), if_neg (by simp [h1]), h])
theorem mk_same {N d : Nat} {fr : Int} {t : List UInt8} {st : MSt} (h0 : t.all (· == 48) = false) (h1 : t.all (· == 49) = false) (h : st.kn (fr, t) = none) (he : t.take (t.length / 2) = t.drop (t.length / 2)) : mkBit N (d + 1) fr t st = ((mkBit N d (fr + 1) (t.take (t.length / 2)) st).1, (mkBit N d (fr + 1) (t.take (t.length / 2)) st).2.put (fr, t) (mkBit N d (fr + 1) (t.take (t.length / 2)) st).1) := by
  rw [mkBit]
  unfold mkStep
  rw [if_neg (by simp [h0]), if_neg (by simp [h1]), h]
  dsimp only
  rw [if_pos he]
def mkTwo (N d : Nat) (fr : Int) (t : List UInt8) (st : MSt) : (Int × MSt) × (Int × MSt) :=
  (mkBit N d (fr + 1) (t.take (t.length / 2)) st, mkBit N d (fr + 1) (t.drop (t.length / 2)) (mkBit N d (fr + 1) (t.take (t.length / 2)) st).2)
theorem mk_mux {N d : Nat} {fr : Int} {t : List UInt8} {st : MSt} {L H : Int × MSt} (h0 : t.all (· == 48) = false) (h1 : t.all (· == 49) = false) (h : st.kn (fr, t) = none) (he : ¬ t.take (t.length / 2) = t.drop (t.length / 2)) (h2 : mkBit N d (fr + 1) (t.take (t.length / 2)) st = L) (h3 : mkBit N d (fr + 1) (t.drop (t.length / 2)) L.2 = H) :
    mkBit N (d + 1) fr t st = (((N + H.2.code.length + 2 : Nat) : Int), (((H.2.add [⟨4, L.1, H.1⟩]).add [⟨3, fr, ((N + H.2.code.length : Nat) : Int)⟩]).add [⟨4, L.1, ((N + H.2.code.length + 1 : Nat) : Int)⟩]).put (fr, t) ((N + H.2.code.length + 2 : Nat) : Int)) := by
  rw [mkBit]
  unfold mkStep
  rw [if_neg (by simp [h0]), if_neg (by simp [h1]), h]
  dsimp only
  rw [if_neg he, h2, h3]
  simp [MSt.add]
theorem mkc_known {N : Nat} {op : Int} {b : UInt8} {st : MSt} {k : Int} (h : st.kn ((N : Int), [b]) = some k) : mkConst N op b st = (k, st) := by unfold mkConst; rw [h]
theorem mkc_new {N : Nat} {op : Int} {b : UInt8} {st : MSt} (h : st.kn ((N : Int), [b]) = none) : mkConst N op b st = (((N + st.code.length : Nat) : Int), (st.add [⟨op, 0, 0⟩]).put ((N : Int), [b]) ((N + st.code.length : Nat) : Int)) := by unfold mkConst; rw [h]
theorem boxM {w w0 : World} {x : Int} {s : ByteArray} (h : w.alloc (.cells #[.int .i64 x, .string s] 113) = w0) : Below w.heap.size w w0 ∧ w0.cell? ⟨w.heap.size, 0, none⟩ = some (.int .i64 x) ∧ w0.cell? ⟨w.heap.size, 1, none⟩ = some (.string s) := by
  subst h
  exact ⟨bel_alloc _ _, by simp, by simp⟩
theorem Fr.rowT {B RB MB g : Nat} {w w' : World} {cs : Array Value} {T : TypeId} {fz : Nat × Nat} (h : Fr B RB MB w w') (hk : w.heap[g]? = some (.cells cs T fz)) (hT : T ≠ 47) (h1 : g ≠ RB) (h2 : g ≠ MB) : w'.heap[g]? = some (.cells cs T fz) := by
  rw [h.block g (Array.getElem?_eq_some_iff.1 hk).1 h1 h2 (.inr fun cs' fz' e => ?_)]
  · exact hk
  · rw [hk] at e
    simp only [Option.some.injEq, Obj.cells.injEq] at e
    exact hT e.2.1
theorem made_cells {w : World} {g : Nat} {x : Int} {s : ByteArray} (h : w.heap[g]? = some (.cells #[.int .i64 x, .string s] 113 (0, 0))) : w.cell? ⟨g, 0, none⟩ = some (.int .i64 x) ∧ w.cell? ⟨g, 1, none⟩ = some (.string s) := by
  constructor <;> (rw [Lib.cell_of_heap h]; rfl)
/-- Behind a store into the map. -/
theorem MS.stored {w w' : World} {B RB MB N K : Nat} {vo : Value} {st : MSt} {key : MKey} {k : Int} (h : MS w B RB MB N K vo st) (hg : w.grownBy w' (some MB)) (ht : TM w' MB (K + 1) (fun y => if y = key then some k else st.kn y)) : MS w' B RB MB N (K + 1) vo (st.put key k) ∧ Fr B RB MB w w' := by
  obtain ⟨h1, h2, h3, h4, ⟨vc, h5, h6⟩, h7⟩ := h
  have hne : some MB ≠ vc.ownBlock := row_ne_low53 h6 h2
  refine ⟨⟨h1, h2, h3, Nat.le_trans h4 hg.size, ⟨vc, row_grown h5 hg (by simp only [ne_eq, Option.some.injEq]; exact h3), ?_⟩, ht⟩, ⟨hg.os, hg.tape, hg.output, hg.size, fun k hk a b c => hg.block k hk (by simp only [ne_eq, Option.some.injEq]; exact b)⟩⟩
  refine ⟨h6.1, ?_⟩
  rcases h6.2 with h8 | ⟨g, cap, cur, hv, hgb, hh, r⟩
  · exact .inl h8
  · refine .inr ⟨g, cap, cur, hv, hgb, (hg.block g (Array.getElem?_eq_some_iff.1 hh).1 (fun e => ?_)).trans hh, r⟩
    apply hne
    rw [hv]
    exact e.symm
set_option maxRecDepth 100000 in
set_option maxHeartbeats 4000000 in
theorem bit48_any (N B RB MB K : Nat) (vo : Value) (hN : N ≤ 24) (fr : Int) (t : List UInt8) (st : MSt) (w : World) (hS : MS w B RB MB N K vo st) (hG : MGood N st) (ht6 : t.length ≤ 65536) (a0 : t.all (· == 48) = true) (hcl : st.code.length + 4 ≤ 100000) (hK : K + 2 ≤ 900000) :
    Calls Tryz.prog 23 #[.pointer (some ⟨RB, 0, none⟩), .int .i64 fr, .string (strB t)] w fun e w' => e = .returned (.int .i64 (mkConst N 1 48 st).1) ∧ MS w' B RB MB N (K + 1) vo (mkConst N 1 48 st).2 ∧ Fr B RB MB w w' := by
  have HS := hid hS
  have HG := hid hG
  have hlb := hS.lb
  obtain ⟨ac, cc, c0, c1, c3, _, _, _, hlt, _, _⟩ := hS.c
  have HTr0 := hid (fun X => trim1_any 48 (by decide) t X ht6)
  have HTr1 := hid (fun X => trim1_any 49 (by decide) t X ht6)
  clear hS hG
  go_enter Tryz.func23, Tryz.ntmps23
  rw [a0] at HTr0
  clear a0
  go_upto_region 3 with (go_at_call 43; refine (HTr0.out _).mono ?_; rintro e w2 ⟨u2, rfl, _, hu2, hD2⟩; have hu2 := hu2 (by trivial); subst hu2; have c0 := keeps (hD2.below _) c0; have c1 := keeps (hD2.below _) c1; have c3 := keeps (hD2.below _) c3; have HD := hid hD2; clear hD2)
  clear HTr0 HTr1
  go_quiet (fail)
  have hDq : Dr w2 (w2.drewN nq) := ⟨_, rfl⟩
  have c3 := keeps (hDq.below _) c3
  have HDq := hid (HD.out.trans hDq)
  clear hDq HD c0 c1
  generalize w2.drewN nq = w3 at *
  have HS3 := hid (HS.out.below (HDq.out.below _))
  go_upto_region 7 with fail
  obtain ⟨wx, hwx⟩ : ∃ wx, w3.alloc (.cells #[.int .i64 (N : Int), .string ⟨#[48]⟩] 113) = wx := ⟨_, rfl⟩
  obtain ⟨hbx, y0, y1⟩ := boxM hwx
  rw [hwx]
  have HSx := hid (HS3.out.below hbx)
  have HFx := hid (Fr.of (B := B) (RB := RB) (MB := MB) (show Below w.heap.size w wx from bel_step (HDq.out.below _) hbx))
  have c3 := keeps hbx c3
  have HNx := hid (show MB < w3.heap.size from Nat.lt_of_lt_of_le (HS3.out.lm) HS3.out.lb)
  have HNr := hid (show RB < w3.heap.size from Nat.lt_of_lt_of_le (HS3.out.lr) HS3.out.lb)
  have hkx : wx.heap[w3.heap.size]? = some (.cells #[.int .i64 (N : Int), .string ⟨#[48]⟩] 113 (0, 0)) := by rw [← hwx]; exact heap_alloc_new w3 _
  generalize w3.heap.size = gx at *
  clear hwx hbx HS3
  have hky : OkKey ((N : Int), [48]) := ⟨by unfold Ok64; omega, show 1 ≤ 65536 by decide⟩
  have hlook : ∀ n, (Instr.lookup 58 (.map (some MB)) (.agg #[.int .i64 (N : Int), .string ⟨#[48]⟩]) true).run Tryz.prog (wx.drewN n) = .ok (lookI (st.kn ((N : Int), [48]))) (wx.drewN n) := fun n => (HSx.out.below (below_drewN (Below.refl _ _) n)).m.look ((N : Int), [48]) hky
  cases hk : st.kn ((N : Int), [48]) with
  | some k =>
    have HMk := hid (mkc_known (N := N) (op := 1) (b := 48) hk)
    rw [hk] at hlook
    unfold lookI at hlook
    clear hk
    go_quiet (fail)
    clear hlook
    go_wp2
    go_ret
    have hbq : Below wx.heap.size wx (wx.drewN nq) := below_drewN (Below.refl _ _) nq
    exact ⟨by rw [HMk.out]; rfl, by rw [HMk.out]; exact (HSx.out.below hbq).mono (Nat.le_add_right _ _), HFx.out.trans (Fr.of hbq)⟩
  | none =>
    have HMk := hid (mkc_new (N := N) (op := 1) (b := 48) hk)
    rw [hk] at hlook
    unfold lookI at hlook
    clear hk
    go_quiet (fail)
    clear hlook
    have hbq : Below wx.heap.size wx (wx.drewN nq) := below_drewN (Below.refl _ _) nq
    have HSr := hid (HSx.out.below hbq)
    have HFr2 := hid (HFx.out.trans (Fr.of hbq))
    have HKr := hid ((hbq.block _ (Array.getElem?_eq_some_iff.1 hkx).1).trans hkx)
    clear hbq HSx HFx hkx y0 y1 c3
    generalize wx.drewN nq = wr at *
    have HAd := hid (fun X h => add_any B RB MB N K vo st 1 0 0 X h hN (by omega))
    have HKV := hid (show Ok64 ((N + st.code.length : Nat) : Int) by unfold Ok64; omega)
    have HKk := hid (show K < 1000000 by omega)
    generalize ((N + st.code.length : Nat) : Int) = KV at *
    go_upto_region 20 with (go_at_call 55; refine (HAd.out _ HSr.out).mono ?_; rintro e w5 ⟨rfl, hS9, hF9⟩; have HSf := hid hS9; have HFf := hid (HFr2.out.trans hF9); have HKf := hid (hF9.rowT HKr.out (by decide) (by have := HNr.out; omega) (by have := HNx.out; omega)); clear hS9 hF9)
    obtain ⟨ac5, cc5, d0, d1, d3, _⟩ := HSf.out.c
    obtain ⟨y0, y1⟩ := made_cells HKf.out
    have hbd : Below w5.heap.size w5 w5.drew := below_drewN (Below.refl _ _) 1
    obtain ⟨wb, hrb, htb, hgb⟩ := (HSf.out.below hbd).m.store HKk.out ((N : Int), [48]) hky KV HKV.out
    have hrb : (Instr.mapUpdate 58 (.map (some MB)) (.agg #[.int .i64 (N : Int), .string ⟨#[48]⟩]) (.int .i64 KV)).run Tryz.prog w5.drew = .ok () wb := hrb
    have HPb := hid ((HSf.out.below hbd).stored hgb htb)
    have HFb := hid (HFf.out.trans (Fr.of hbd))
    have yb0 := hgb.cell (keeps hbd y0) (by simp only [ne_eq, Option.some.injEq]; have := HNx.out; omega)
    have yb1 := hgb.cell (keeps hbd y1) (by simp only [ne_eq, Option.some.injEq]; have := HNx.out; omega)
    have db3 := hgb.cell (keeps hbd d3) (by simp only [ne_eq, Option.some.injEq]; exact HSf.out.ne)
    clear htb hgb d0 d1 hbd
    go_region_held3 (fun w' => w'.cell? ⟨RB, 3, none⟩ = some (.map (some MB)) ∧ w'.cell? ⟨gx, 0, none⟩ = some (.int .i64 (N : Int)) ∧ w'.cell? ⟨gx, 1, none⟩ = some (.string ⟨#[48]⟩))
      (first | exact ⟨d3, y0, y1⟩ | exact ⟨db3, yb0, yb1⟩ | go_keep)
      (fail)
    all_goals
      clear hrb yb0 yb1 db3
      go_wp2
      go_ret
      exact ⟨by rw [HMk.out]; rfl, by rw [HMk.out]; exact HPb.out.1, HFb.out.trans HPb.out.2⟩
set_option maxRecDepth 100000 in
set_option maxHeartbeats 4000000 in
theorem bit49_any (N B RB MB K : Nat) (vo : Value) (hN : N ≤ 24) (fr : Int) (t : List UInt8) (st : MSt) (w : World) (hS : MS w B RB MB N K vo st) (hG : MGood N st) (ht6 : t.length ≤ 65536) (a0 : t.all (· == 48) = false) (a1 : t.all (· == 49) = true) (hcl : st.code.length + 4 ≤ 100000) (hK : K + 2 ≤ 900000) :
    Calls Tryz.prog 23 #[.pointer (some ⟨RB, 0, none⟩), .int .i64 fr, .string (strB t)] w fun e w' => e = .returned (.int .i64 (mkConst N 2 49 st).1) ∧ MS w' B RB MB N (K + 1) vo (mkConst N 2 49 st).2 ∧ Fr B RB MB w w' := by
  have HS := hid hS
  have HG := hid hG
  have hlb := hS.lb
  obtain ⟨ac, cc, c0, c1, c3, _, _, _, hlt, _, _⟩ := hS.c
  have HTr0 := hid (fun X => trim1_any 48 (by decide) t X ht6)
  have HTr1 := hid (fun X => trim1_any 49 (by decide) t X ht6)
  clear hS hG
  go_enter Tryz.func23, Tryz.ntmps23
  rw [a0] at HTr0
  rw [a1] at HTr1
  clear a0 a1
  go_upto_region 4 with (go_at_call 43; refine (HTr0.out _).mono ?_; rintro e w1 ⟨u1, rfl, hu1, _, hD1⟩; have c0 := keeps (hD1.below _) c0; have c1 := keeps (hD1.below _) c1; have c3 := keeps (hD1.below _) c3; have HD1 := hid hD1; clear hD1)
  go_upto_region 5 with (go_at_call 43; refine (HTr1.out _).mono ?_; rintro e w2 ⟨u2, rfl, _, hu2, hD2⟩; have hu2 := hu2 (by trivial); subst hu2; have c0 := keeps (hD2.below _) c0; have c1 := keeps (hD2.below _) c1; have c3 := keeps (hD2.below _) c3; have HD2 := hid hD2; clear hD2)
  have HD := hid (HD1.out.trans HD2.out)
  clear HD1 HD2 HTr0 HTr1 hu1
  go_quiet (fail)
  have hDq : Dr w2 (w2.drewN nq) := ⟨_, rfl⟩
  have c3 := keeps (hDq.below _) c3
  have HDq := hid (HD.out.trans hDq)
  clear hDq HD c0 c1
  generalize w2.drewN nq = w3 at *
  have HS3 := hid (HS.out.below (HDq.out.below _))
  go_upto_region 7 with fail
  obtain ⟨wx, hwx⟩ : ∃ wx, w3.alloc (.cells #[.int .i64 (N : Int), .string ⟨#[49]⟩] 113) = wx := ⟨_, rfl⟩
  obtain ⟨hbx, y0, y1⟩ := boxM hwx
  rw [hwx]
  have HSx := hid (HS3.out.below hbx)
  have HFx := hid (Fr.of (B := B) (RB := RB) (MB := MB) (show Below w.heap.size w wx from bel_step (HDq.out.below _) hbx))
  have c3 := keeps hbx c3
  have HNx := hid (show MB < w3.heap.size from Nat.lt_of_lt_of_le (HS3.out.lm) HS3.out.lb)
  have HNr := hid (show RB < w3.heap.size from Nat.lt_of_lt_of_le (HS3.out.lr) HS3.out.lb)
  have hkx : wx.heap[w3.heap.size]? = some (.cells #[.int .i64 (N : Int), .string ⟨#[49]⟩] 113 (0, 0)) := by rw [← hwx]; exact heap_alloc_new w3 _
  generalize w3.heap.size = gx at *
  clear hwx hbx HS3
  have hky : OkKey ((N : Int), [49]) := ⟨by unfold Ok64; omega, show 1 ≤ 65536 by decide⟩
  have hlook : ∀ n, (Instr.lookup 58 (.map (some MB)) (.agg #[.int .i64 (N : Int), .string ⟨#[49]⟩]) true).run Tryz.prog (wx.drewN n) = .ok (lookI (st.kn ((N : Int), [49]))) (wx.drewN n) := fun n => (HSx.out.below (below_drewN (Below.refl _ _) n)).m.look ((N : Int), [49]) hky
  cases hk : st.kn ((N : Int), [49]) with
  | some k =>
    have HMk := hid (mkc_known (N := N) (op := 2) (b := 49) hk)
    rw [hk] at hlook
    unfold lookI at hlook
    clear hk
    go_quiet (fail)
    clear hlook
    go_wp2
    go_ret
    have hbq : Below wx.heap.size wx (wx.drewN nq) := below_drewN (Below.refl _ _) nq
    exact ⟨by rw [HMk.out]; rfl, by rw [HMk.out]; exact (HSx.out.below hbq).mono (Nat.le_add_right _ _), HFx.out.trans (Fr.of hbq)⟩
  | none =>
    have HMk := hid (mkc_new (N := N) (op := 2) (b := 49) hk)
    rw [hk] at hlook
    unfold lookI at hlook
    clear hk
    go_quiet (fail)
    clear hlook
    have hbq : Below wx.heap.size wx (wx.drewN nq) := below_drewN (Below.refl _ _) nq
    have HSr := hid (HSx.out.below hbq)
    have HFr2 := hid (HFx.out.trans (Fr.of hbq))
    have HKr := hid ((hbq.block _ (Array.getElem?_eq_some_iff.1 hkx).1).trans hkx)
    clear hbq HSx HFx hkx y0 y1 c3
    generalize wx.drewN nq = wr at *
    have HAd := hid (fun X h => add_any B RB MB N K vo st 2 0 0 X h hN (by omega))
    have HKV := hid (show Ok64 ((N + st.code.length : Nat) : Int) by unfold Ok64; omega)
    have HKk := hid (show K < 1000000 by omega)
    generalize ((N + st.code.length : Nat) : Int) = KV at *
    go_upto_region 20 with (go_at_call 55; refine (HAd.out _ HSr.out).mono ?_; rintro e w5 ⟨rfl, hS9, hF9⟩; have HSf := hid hS9; have HFf := hid (HFr2.out.trans hF9); have HKf := hid (hF9.rowT HKr.out (by decide) (by have := HNr.out; omega) (by have := HNx.out; omega)); clear hS9 hF9)
    obtain ⟨ac5, cc5, d0, d1, d3, _⟩ := HSf.out.c
    obtain ⟨y0, y1⟩ := made_cells HKf.out
    have hbd : Below w5.heap.size w5 w5.drew := below_drewN (Below.refl _ _) 1
    obtain ⟨wb, hrb, htb, hgb⟩ := (HSf.out.below hbd).m.store HKk.out ((N : Int), [49]) hky KV HKV.out
    have hrb : (Instr.mapUpdate 58 (.map (some MB)) (.agg #[.int .i64 (N : Int), .string ⟨#[49]⟩]) (.int .i64 KV)).run Tryz.prog w5.drew = .ok () wb := hrb
    have HPb := hid ((HSf.out.below hbd).stored hgb htb)
    have HFb := hid (HFf.out.trans (Fr.of hbd))
    have yb0 := hgb.cell (keeps hbd y0) (by simp only [ne_eq, Option.some.injEq]; have := HNx.out; omega)
    have yb1 := hgb.cell (keeps hbd y1) (by simp only [ne_eq, Option.some.injEq]; have := HNx.out; omega)
    have db3 := hgb.cell (keeps hbd d3) (by simp only [ne_eq, Option.some.injEq]; exact HSf.out.ne)
    clear htb hgb d0 d1 hbd
    go_region_held3 (fun w' => w'.cell? ⟨RB, 3, none⟩ = some (.map (some MB)) ∧ w'.cell? ⟨gx, 0, none⟩ = some (.int .i64 (N : Int)) ∧ w'.cell? ⟨gx, 1, none⟩ = some (.string ⟨#[49]⟩))
      (first | exact ⟨d3, y0, y1⟩ | exact ⟨db3, yb0, yb1⟩ | go_keep)
      (fail)
    all_goals
      clear hrb yb0 yb1 db3
      go_wp2
      go_ret
      exact ⟨by rw [HMk.out]; rfl, by rw [HMk.out]; exact HPb.out.1, HFb.out.trans HPb.out.2⟩
set_option maxRecDepth 100000 in
set_option maxHeartbeats 8000000 in
theorem bit_any (N B RB MB : Nat) (vo : Value) (hN : N ≤ 24) : ∀ (d K fr : Nat) (t : List UInt8) (st : MSt) (w : World), MS w B RB MB N K vo st → MGood N st → fr + d = N → t.length = 2 ^ d → t.length ≤ 65536 → (∀ c ∈ t, c = 48 ∨ c = 49) → st.code.length + 4 * 2 ^ d ≤ 100000 → K + 2 * 2 ^ d ≤ 900000 →
    Calls Tryz.prog 23 #[.pointer (some ⟨RB, 0, none⟩), .int .i64 (fr : Int), .string (strB t)] w fun e w' => e = .returned (.int .i64 (mkBit N d (fr : Int) t st).1) ∧ MS w' B RB MB N (K + (2 * 2 ^ d - 1)) vo (mkBit N d (fr : Int) t st).2 ∧ Fr B RB MB w w' := by
  intro d
  induction d with
  | zero =>
    intro K fr t st w hS hG hfr htl ht6 hbits hcl hK
    match t, htl, hbits with
    | [c], _, hbits =>
      rcases hbits c (by simp) with rfl | rfl
      · rw [mk_zero (by decide)]
        exact bit48_any N B RB MB K vo hN fr [48] st w hS hG (by decide) (by decide) (by omega) (by omega)
      · rw [mk_one (by decide) (by decide)]
        exact bit49_any N B RB MB K vo hN fr [49] st w hS hG (by decide) (by decide) (by decide) (by omega) (by omega)
  | succ d ih =>
    intro K fr t st w hS hG hfr htl ht6 hbits hcl hK
    have hp1 := two_pow_pos (d + 1)
    by_cases a0 : t.all (· == 48) = true
    · rw [mk_zero a0]
      exact (bit48_any N B RB MB K vo hN fr t st w hS hG ht6 a0 (by omega) (by omega)).mono fun e w' ⟨h1, h2, h3⟩ => ⟨h1, h2.mono (by omega), h3⟩
    have a0 : t.all (· == 48) = false := by simpa using a0
    by_cases a1 : t.all (· == 49) = true
    · rw [mk_one a0 a1]
      exact (bit49_any N B RB MB K vo hN fr t st w hS hG ht6 a0 a1 (by omega) (by omega)).mono fun e w' ⟨h1, h2, h3⟩ => ⟨h1, h2.mono (by omega), h3⟩
    have a1 : t.all (· == 49) = false := by simpa using a1
    clear hp1
    have HS := hid hS
    have HIH := hid ih
    have HG := hid hG
    have hlb := hS.lb
    obtain ⟨ac, cc, c0, c1, c3, _, _, _, hlt, _, _⟩ := hS.c
    have HTr0 := hid (fun X => trim1_any 48 (by decide) t X ht6)
    have HTr1 := hid (fun X => trim1_any 49 (by decide) t X ht6)
    have HFr := hid (And.intro hfr (And.intro htl hbits))
    have htw : 2 ^ (d + 1) = 2 * 2 ^ d := by rw [Nat.pow_succ, Nat.mul_comm]
    rw [htw] at hcl hK ⊢
    have HCl := hid (And.intro hcl hK)
    clear ih hS hG hbits hfr htl hcl hK htw
    go_enter Tryz.func23, Tryz.ntmps23
    rw [a0] at HTr0
    rw [a1] at HTr1
    have HA := hid (And.intro a0 a1)
    clear a0 a1
    go_upto_region 4 with (go_at_call 43; refine (HTr0.out _).mono ?_; rintro e w1 ⟨u1, rfl, hu1, _, hD1⟩; have c0 := keeps (hD1.below _) c0; have c1 := keeps (hD1.below _) c1; have c3 := keeps (hD1.below _) c3; have HD1 := hid hD1; clear hD1)
    go_upto_region 6 with (go_at_call 43; refine (HTr1.out _).mono ?_; rintro e w2 ⟨u2, rfl, hu2, _, hD2⟩; have c0 := keeps (hD2.below _) c0; have c1 := keeps (hD2.below _) c1; have c3 := keeps (hD2.below _) c3; have HD2 := hid hD2; clear hD2)
    have HD := hid (HD1.out.trans HD2.out)
    have HS2 := hid (HS.out.below (HD.out.below _))
    clear HD1 HD2 HTr0 HTr1 hu1 hu2
    go_upto_region 7 with fail
    obtain ⟨wx, hwx⟩ : ∃ wx, w2.alloc (.cells #[.int .i64 (fr : Int), .string (strB t)] 113) = wx := ⟨_, rfl⟩
    obtain ⟨hbx, y0, y1⟩ := boxM hwx
    rw [hwx]
    have HSx := hid (HS2.out.below hbx)
    have HFx := hid (Fr.of (B := B) (RB := RB) (MB := MB) (show Below w.heap.size w wx from bel_step (HD.out.below _) hbx))
    have c0 := keeps hbx c0
    have c1 := keeps hbx c1
    have c3 := keeps hbx c3
    have HNx := hid (show MB < w2.heap.size from Nat.lt_of_lt_of_le (HS2.out.lm) HS2.out.lb)
    have HNr := hid (show RB < w2.heap.size from Nat.lt_of_lt_of_le (HS2.out.lr) HS2.out.lb)
    have hkx : wx.heap[w2.heap.size]? = some (.cells #[.int .i64 (fr : Int), .string (strB t)] 113 (0, 0)) := by rw [← hwx]; exact heap_alloc_new w2 _
    generalize w2.heap.size = gx at *
    clear hwx hbx HS2
    have hky : OkKey ((fr : Int), t) := ⟨by unfold Ok64; have := HFr.out.1; omega, ht6⟩
    have hlook : ∀ n, (Instr.lookup 58 (.map (some MB)) (.agg #[.int .i64 (fr : Int), .string (strB t)]) true).run Tryz.prog (wx.drewN n) = .ok (lookI (st.kn ((fr : Int), t))) (wx.drewN n) := fun n => (HSx.out.below (below_drewN (Below.refl _ _) n)).m.look ((fr : Int), t) hky
    cases hk : st.kn ((fr : Int), t) with
    | some k =>
      have HMk := hid (mk_known (N := N) (d := d + 1) HA.out.1 HA.out.2 hk)
      rw [hk] at hlook
      unfold lookI at hlook
      clear hk
      go_quiet (fail)
      clear hlook
      go_wp2
      go_ret
      have hbq : Below wx.heap.size wx (wx.drewN nq) := below_drewN (Below.refl _ _) nq
      exact ⟨by rw [HMk.out]; rfl, by rw [HMk.out]; exact (HSx.out.below hbq).mono (Nat.le_add_right _ _), HFx.out.trans (Fr.of hbq)⟩
    | none =>
      rw [hk] at hlook
      unfold lookI at hlook
      have HK := hid hk
      clear hk
      go_quiet (fail)
      clear hlook
      have hbq : Below wx.heap.size wx (wx.drewN nq) := below_drewN (Below.refl _ _) nq
      have HSq := hid (HSx.out.below hbq)
      have HFq := hid (HFx.out.trans (Fr.of hbq))
      have HKq := hid ((hbq.block _ (Array.getElem?_eq_some_iff.1 hkx).1).trans hkx)
      clear hbq y0 y1 c0 c1 c3 hkx HSx HFx
      generalize wx.drewN nq = wq at *
      obtain ⟨H, hH⟩ : ∃ H, t.length / 2 = H := ⟨_, rfl⟩
      have HSz := hid (show H = 2 ^ d ∧ t.length = 2 * 2 ^ d by have := HFr.out.2.1; rw [Nat.pow_succ] at this; omega)
      have HH := hid hH
      have hLS : (strB t).size = t.length := by rw [← ba_len]; simp [strB]
      have hxl : (strB t).extract 0 H = strB (t.take H) := by apply ba_ext; rw [Lib.extract_data]; simp [strB]
      have hxr : (strB t).extract H t.length = strB (t.drop H) := by apply ba_ext; rw [Lib.extract_data]; simp only [strB, List.toList_toArray]; exact List.take_of_length_le (by rw [List.length_drop]; exact Nat.le_refl _)
      have HHalf := hid (show IntKind.i64.wrap ((t.length : Int) / 2) = (H : Int) by
        have : (t.length : Int) / 2 = (H : Int) := by omega
        rw [this]; exact IntWalk.i64_in _ (by omega))
      have hHt : H ≤ t.length := by omega
      have HEq := hid (show ((strB (t.take H)).toList == (strB (t.drop H)).toList) = true ↔ t.take H = t.drop H by
        rw [beq_iff_eq, ByteArray.toList_eq, ByteArray.toList_eq]; simp [strB])
      have HTl := hid (show (t.take H).length = 2 ^ d ∧ (t.drop H).length = 2 ^ d by rw [List.length_take, List.length_drop]; have := HSz.out; omega)
      have HRl := hid (fun X (h : MS X B RB MB N K vo st) => HIH.out K (fr + 1) (t.take H) st X h HG.out (by have := HFr.out.1; omega) HTl.out.1 (by rw [HTl.out.1]; have := HSz.out; omega) (fun c hc => HFr.out.2.2 c (List.mem_of_mem_take hc)) (by have := HCl.out.1; omega) (by have := HCl.out.2; omega))
      have HPl := hid (mkBit_post (N := N) (d := d) (fr := fr + 1) (t := t.take H) HG.out (by have := HFr.out.1; omega) HTl.out.1 (fun c hc => HFr.out.2.2 c (List.mem_of_mem_take hc)))
      have HPr := hid (fun st' (hg : MGood N st') => mkBit_post (N := N) (d := d) (fr := fr + 1) (t := t.drop H) hg (by have := HFr.out.1; omega) HTl.out.2 (fun c hc => HFr.out.2.2 c (List.mem_of_mem_drop hc)))
      have HRr := hid (fun K' st' X (h : MS X B RB MB N K' vo st') hg (hc : st'.code.length + 4 * 2 ^ d ≤ 100000) (hk : K' + 2 * 2 ^ d ≤ 900000) => HIH.out K' (fr + 1) (t.drop H) st' X h hg (by have := HFr.out.1; omega) HTl.out.2 (by rw [HTl.out.2]; have := HSz.out; omega) (fun c hc => HFr.out.2.2 c (List.mem_of_mem_drop hc)) hc hk)
      have hfe : ((fr + 1 : Nat) : Int) = (fr : Int) + 1 := by omega
      rw [hfe] at HRl HRr HPl HPr
      have hwf : IntKind.i64.wrap ((fr : Int) + 1) = (fr : Int) + 1 := IntWalk.i64_in _ (by have := HFr.out.1; omega)
      have HMs := hid (fun h => mk_same (N := N) (d := d) HA.out.1 HA.out.2 HK.out h)
      have HMm := hid (fun L R h h2 h3 => mk_mux (N := N) (d := d) (L := L) (H := R) HA.out.1 HA.out.2 HK.out h h2 h3)
      rw [hH] at HMs HMm
      clear hH HIH hfe
      have HSt := hid (show strB t = strB t from rfl)
      generalize hS0 : strB t = S at *
      generalize hS1 : strB (t.take H) = SL at *
      generalize hS2 : strB (t.drop H) = SR at *
      generalize htL : t.length = TL at *
      have HS0 := hid hS0
      have HTL := hid htL
      clear hS0 hS1 hS2 htL HSt
      cases hb : (SL.toList == SR.toList)
      · have HE := hid (show ¬ t.take H = t.drop H from fun h => by have := HEq.out.2 h; rw [hb] at this; cases this)
        have hhalf := HHalf.out
        go_upto_region 18 with fail
        clear hhalf
        go_quiet (fail)
        have hbq : Below wq.heap.size wq (wq.drewN nq) := below_drewN (Below.refl _ _) nq
        have HSr := hid (HSq.out.below hbq)
        have HFr2 := hid (HFq.out.trans (Fr.of hbq))
        have HKr := hid ((hbq.block _ (Array.getElem?_eq_some_iff.1 HKq.out).1).trans HKq.out)
        clear hbq HSq HFq HKq hb
        generalize wq.drewN nq = wr at *
        have HMx := hid (fun L R h2 h3 => HMm.out L R HE.out h2 h3)
        clear HMs HMm
        obtain ⟨RA, hRA⟩ : ∃ RA, mkBit N d ((fr : Int) + 1) (t.take H) st = RA := ⟨_, rfl⟩
        rw [hRA] at HRl HPl
        obtain ⟨KL, st1⟩ := RA
        have HG1 := hid HPl.out.good
        have HRs := hid (fun X h => HRr.out (K + (2 * 2 ^ d - 1)) st1 X h HG1.out (by have h3 := HPl.out.len; have h4 := HCl.out.1; simp only at h3; omega) (by have := HCl.out.2; omega))
        have HPs := hid (HPr.out st1 HG1.out)
        obtain ⟨RC, hRC⟩ : ∃ RC, mkBit N d ((fr : Int) + 1) (t.drop H) st1 = RC := ⟨_, rfl⟩
        rw [hRC] at HRs HPs
        obtain ⟨KH, st2⟩ := RC
        have HMk := hid (HMx.out (KL, st1) (KH, st2) hRA hRC)
        clear hRA hRC HRr HPr HMx
        have HCb := hid (show st2.code.length + 6 ≤ 100000 by have h3 := HPl.out.len; have h4 := HCl.out.1; have h5 := HPs.out.len; simp only at h3 h5; have := two_pow_pos d; omega)
        have hhalf := HHalf.out
        go_upto_region 12 with fail
        clear hhalf
        go_region_held3 (fun _ => True) (trivial) (first
          | (have _g := HSl.out; clear _g; go_at_call 23; refine (HRs.out _ HSl.out).mono ?_; rintro e w6 ⟨rfl, hS6, hF6⟩; have HS6 := hid hS6; have HF6 := hid (HFl.out.trans hF6); have HK6 := hid (hF6.rowT HKl.out (by decide) (by have := HNr.out; omega) (by have := HNx.out; omega)); clear hS6 hF6)
          | (go_at_call 23; refine (HRl.out _ (HSr.out.below (show Below wr.heap.size wr wr.drew from below_drewN (Below.refl _ _) 1))).mono ?_; rintro e w5 ⟨rfl, hS5, hF5⟩; have HSl := hid hS5; have HFl := hid ((HFr2.out.trans (Fr.of (show Below wr.heap.size wr wr.drew from below_drewN (Below.refl _ _) 1))).trans hF5); have HKl := hid (hF5.rowT (((show Below wr.heap.size wr wr.drew from below_drewN (Below.refl _ _) 1).block _ (Array.getElem?_eq_some_iff.1 HKr.out).1).trans HKr.out) (by decide) (by have := HNr.out; omega) (by have := HNx.out; omega)); clear hS5 hF5))
        have hl7 : (st2.add [⟨4, KL, KH⟩]).code.length = st2.code.length + 1 := by simp [MSt.add]
        have hl8 : ((st2.add [⟨4, KL, KH⟩]).add [⟨3, (fr : Int), ((N + st2.code.length : Nat) : Int)⟩]).code.length = st2.code.length + 2 := by simp [MSt.add]
        have HA1 := hid (fun X h => add_any B RB MB N (K + (2 * 2 ^ d - 1) + (2 * 2 ^ d - 1)) vo st2 4 KL KH X h hN (by have := HCb.out; omega))
        have HA2 := hid (fun X h => add_any B RB MB N (K + (2 * 2 ^ d - 1) + (2 * 2 ^ d - 1)) vo (st2.add [⟨4, KL, KH⟩]) 3 (fr : Int) ((N + st2.code.length : Nat) : Int) X h hN (by rw [hl7]; have := HCb.out; omega))
        have HA3 := hid (fun X h => add_any B RB MB N (K + (2 * 2 ^ d - 1) + (2 * 2 ^ d - 1)) vo ((st2.add [⟨4, KL, KH⟩]).add [⟨3, (fr : Int), ((N + st2.code.length : Nat) : Int)⟩]) 4 KL ((N + st2.code.length + 1 : Nat) : Int) X h hN (by rw [hl8]; have := HCb.out; omega))
        rw [hl7, ← Nat.add_assoc] at HA2
        rw [hl8, ← Nat.add_assoc] at HA3
        have HKV := hid (show Ok64 ((N + st2.code.length + 2 : Nat) : Int) by have := HCb.out; unfold Ok64; omega)
        have HKk := hid (show K + (2 * 2 ^ d - 1) + (2 * 2 ^ d - 1) < 1000000 by have := HCl.out.2; omega)
        clear hl7 hl8
        generalize ((N + st2.code.length + 2 : Nat) : Int) = KV at *
        generalize ((N + st2.code.length + 1 : Nat) : Int) = K1 at *
        generalize ((N + st2.code.length : Nat) : Int) = K0 at *
        go_upto_region 14 with (go_at_call 55; refine (HA1.out _ HS6.out).mono ?_; rintro e w7 ⟨rfl, hS7, hF7⟩; have HS7 := hid hS7; have HF7 := hid (HF6.out.trans hF7); have HK7 := hid (hF7.rowT HK6.out (by decide) (by have := HNr.out; omega) (by have := HNx.out; omega)); clear hS7 hF7)
        go_upto_region 15 with (go_at_call 55; refine (HA2.out _ HS7.out).mono ?_; rintro e w8 ⟨rfl, hS8, hF8⟩; have HS8 := hid hS8; have HF8 := hid (HF7.out.trans hF8); have HK8 := hid (hF8.rowT HK7.out (by decide) (by have := HNr.out; omega) (by have := HNx.out; omega)); clear hS8 hF8)
        go_upto_region 20 with (go_at_call 55; refine (HA3.out _ HS8.out).mono ?_; rintro e w5 ⟨rfl, hS9, hF9⟩; have HSf := hid hS9; have HFf := hid (HF8.out.trans hF9); have HKf := hid (hF9.rowT HK8.out (by decide) (by have := HNr.out; omega) (by have := HNx.out; omega)); clear hS9 hF9)
        obtain ⟨ac5, cc5, d0, d1, d3, _⟩ := HSf.out.c
        obtain ⟨y0, y1⟩ := made_cells HKf.out
        have hbd : Below w5.heap.size w5 w5.drew := below_drewN (Below.refl _ _) 1
        obtain ⟨wb, hrb, htb, hgb⟩ := (HSf.out.below hbd).m.store HKk.out ((fr : Int), t) hky KV HKV.out
        unfold madeV at hrb
        simp only [HS0.out] at hrb
        have HPb := hid ((HSf.out.below hbd).stored hgb htb)
        have HFb := hid (HFf.out.trans (Fr.of hbd))
        have yb0 := hgb.cell (keeps hbd y0) (by simp only [ne_eq, Option.some.injEq]; have := HNx.out; omega)
        have yb1 := hgb.cell (keeps hbd y1) (by simp only [ne_eq, Option.some.injEq]; have := HNx.out; omega)
        have db3 := hgb.cell (keeps hbd d3) (by simp only [ne_eq, Option.some.injEq]; exact HSf.out.ne)
        clear htb hgb d0 d1 hbd
        go_region_held3 (fun w' => w'.cell? ⟨RB, 3, none⟩ = some (.map (some MB)) ∧ w'.cell? ⟨gx, 0, none⟩ = some (.int .i64 (fr : Int)) ∧ w'.cell? ⟨gx, 1, none⟩ = some (.string S))
          (first | exact ⟨d3, y0, y1⟩ | exact ⟨db3, yb0, yb1⟩ | go_keep)
          (fail)
        all_goals
          clear hrb yb0 yb1 db3
          go_wp2
          go_ret
          exact ⟨by rw [HMk.out]; rfl, by rw [HMk.out]; exact HPb.out.1.mono (by have := two_pow_pos d; omega), HFb.out.trans HPb.out.2⟩
      · have HE := hid (HEq.out.1 hb)
        have hhalf := HHalf.out
        go_upto_region 18 with fail
        clear hhalf
        go_quiet (fail)
        have hbq : Below wq.heap.size wq (wq.drewN nq) := below_drewN (Below.refl _ _) nq
        have HSr := hid (HSq.out.below hbq)
        have HFr2 := hid (HFq.out.trans (Fr.of hbq))
        have HKr := hid ((hbq.block _ (Array.getElem?_eq_some_iff.1 HKq.out).1).trans HKq.out)
        clear hbq HSq HFq HKq hb hxr HRr HPr
        generalize wq.drewN nq = wr at *
        have HMk := hid (HMs.out HE.out)
        clear HMs HMm
        generalize mkBit N d ((fr : Int) + 1) (t.take H) st = R at *
        obtain ⟨KV, st1⟩ := R
        go_upto_region 20 with (go_at_call 23; refine (HRl.out _ HSr.out).mono ?_; rintro e w5 ⟨rfl, hS5, hF5⟩; have HSf := hid hS5; have HFf := hid (HFr2.out.trans hF5); have HKf := hid (hF5.rowT HKr.out (by decide) (by have := HNr.out; omega) (by have := HNx.out; omega)); clear hS5 hF5)
        have HKV := hid (show Ok64 KV by have h1 := HPl.out.k0; have h2 := HPl.out.k1; have h3 := HPl.out.len; have h4 := HCl.out.1; unfold Ok64; simp only at h1 h2 h3; omega)
        have HKk := hid (show K + (2 * 2 ^ d - 1) < 1000000 by have := HCl.out.2; omega)
        obtain ⟨ac5, cc5, d0, d1, d3, _⟩ := HSf.out.c
        obtain ⟨y0, y1⟩ := made_cells HKf.out
        have hbd : Below w5.heap.size w5 w5.drew := below_drewN (Below.refl _ _) 1
        obtain ⟨wb, hrb, htb, hgb⟩ := (HSf.out.below hbd).m.store HKk.out ((fr : Int), t) hky KV HKV.out
        unfold madeV at hrb
        simp only [HS0.out] at hrb
        have HPb := hid ((HSf.out.below hbd).stored hgb htb)
        have HFb := hid (HFf.out.trans (Fr.of hbd))
        have yb0 := hgb.cell (keeps hbd y0) (by simp only [ne_eq, Option.some.injEq]; have := HNx.out; omega)
        have yb1 := hgb.cell (keeps hbd y1) (by simp only [ne_eq, Option.some.injEq]; have := HNx.out; omega)
        have db3 := hgb.cell (keeps hbd d3) (by simp only [ne_eq, Option.some.injEq]; exact HSf.out.ne)
        clear htb hgb d0 d1 hbd
        go_region_held3 (fun w' => w'.cell? ⟨RB, 3, none⟩ = some (.map (some MB)) ∧ w'.cell? ⟨gx, 0, none⟩ = some (.int .i64 (fr : Int)) ∧ w'.cell? ⟨gx, 1, none⟩ = some (.string S))
          (first | exact ⟨d3, y0, y1⟩ | exact ⟨db3, yb0, yb1⟩ | go_keep)
          (fail)
        all_goals
          clear hrb yb0 yb1 db3
          go_wp2
          go_ret
          exact ⟨by rw [HMk.out]; rfl, by rw [HMk.out]; exact HPb.out.1.mono (by have := two_pow_pos d; omega), HFb.out.trans HPb.out.2⟩
end Go.Proofs.YtcdfghogmdhfcaaGreatDoor
