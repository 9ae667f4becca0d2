/-
  encoder.writer in memory, with its embedded strings.Builder: copyCheck, WriteString, String.
  encoder.Encode at one input: the word and the state of the cell.
  Conditions: String: of a builder that holds at least one byte. The encoder is valid; the state and the input are its own.
-/
import Derived.Test.YtmibbhghbhjmmaaDoorBldT
import Derived.Test.YtmibbhghbhjmmaaDoorEncStepS
import Derived.Lib.UnsafeStr
namespace Go.Proofs.YtmibbhghbhjmmaaDoor
open Go.RowKit Go.Deep
set_option linter.unusedVariables false

theorem Tryd.liesWriter : liesAt Tryd.prog Tryd.prog.depth 89 (7 / Tryd.prog.cellsOf 89) 5 87 1 = true := by kernel_rfl
/-- The writer's block: the encoder, the state, the builder that holds bs; its row lies from S on. -/
def Wr (w : World) (b S : Nat) (e0 e1 e2 e3 : Value) (st : Int) (bs : List Value) : Prop :=
  b < S ∧ S ≤ w.heap.size ∧ ∃ p v, (p = .pointer none ∨ p = .pointer (some ⟨b, 5, none⟩)) ∧ w.heap[b]? = some (.cells #[e0, e1, e2, e3, .int .i64 st, p, v] 89 (0, 0)) ∧ w.ownsRow S 5 1 v bs.length bs
theorem Wr.lt {w : World} {b S : Nat} {e0 e1 e2 e3 : Value} {st : Int} {bs : List Value} (h : Wr w b S e0 e1 e2 e3 st bs) : b < w.heap.size := by have := h.1; have := h.2.1; omega
theorem Wr.below {w w' : World} {b S : Nat} {e0 e1 e2 e3 : Value} {st : Int} {bs : List Value} (h : Wr w b S e0 e1 e2 e3 st bs) (hb : Below w.heap.size w w') : Wr w' b S e0 e1 e2 e3 st bs := by
  obtain ⟨h1, h2, p, v, h3, h4, h5⟩ := h
  exact ⟨h1, Nat.le_trans h2 hb.size, p, v, h3, (hb.block b (Array.getElem?_eq_some_iff.1 h4).1).trans h4, own_below h5 hb⟩
theorem Wr.cells {w : World} {b S : Nat} {e0 e1 e2 e3 : Value} {st : Int} {bs : List Value} (h : Wr w b S e0 e1 e2 e3 st bs) : w.cell? ⟨b, 0, none⟩ = some e0 ∧ w.cell? ⟨b, 1, none⟩ = some e1 ∧ w.cell? ⟨b, 2, none⟩ = some e2 ∧ w.cell? ⟨b, 3, none⟩ = some e3 ∧ w.cell? ⟨b, 4, none⟩ = some (.int .i64 st) ∧ w.frozen? ⟨b, 4, none⟩ = false := by
  obtain ⟨h1, h2, p, v, h3, h4, h5⟩ := h
  refine ⟨?_, ?_, ?_, ?_, ?_, Lib.frozen_of_heap h4 4⟩ <;> (rw [Lib.cell_of_heap h4]; rfl)
/-- Another state. -/
theorem Wr.state {w : World} {b S : Nat} {e0 e1 e2 e3 : Value} {st : Int} {bs : List Value} (h : Wr w b S e0 e1 e2 e3 st bs) (st' : Int) : Wr (w.setCell ⟨b, 4, none⟩ (.int .i64 st')) b S e0 e1 e2 e3 st' bs := by
  obtain ⟨h1, h2, p, v, h3, h4, h5⟩ := h
  exact ⟨h1, by simpa using h2, p, v, h3, by simp [World.setCell, Array.getElem?_modify, h4], ownsRow_setCell_below h5 h1 _⟩
set_option maxHeartbeats 2000000 in
set_option maxRecDepth 100000 in
theorem copyCheck_wr (b S : Nat) (e0 e1 e2 e3 : Value) (st : Int) (bs : List Value) (w : World) (h : Wr w b S e0 e1 e2 e3 st bs) :
    Calls Tryd.prog 78 #[.pointer (some ⟨b, 5, none⟩)] w fun e w' => e = .returned (.tuple #[]) ∧ (∃ v, w'.heap[b]? = some (.cells #[e0, e1, e2, e3, .int .i64 st, .pointer (some ⟨b, 5, none⟩), v] 89 (0, 0)) ∧ w'.ownsRow S 5 1 v bs.length bs) ∧ BelB S b w w' ∧ BelT b w w' := by
  obtain ⟨h1, h2, p, v, h3, h4, h5⟩ := h
  have c5 : w.cell? ⟨b, 5, none⟩ = some p := by rw [Lib.cell_of_heap h4]; rfl
  have f5 := Lib.frozen_of_heap h4 5
  obtain ⟨j, hj, hjs⟩ := Option.map_eq_some_iff.1 Tryd.infoBuilder
  have hsh : w.shape? b = some (89, 7) := by simp [World.shape?, h4]
  rcases h3 with rfl | rfl
  · have HX := hid (show (∃ v', (w.setCell ⟨b, 5, none⟩ (.pointer (some ⟨b, 5, none⟩))).heap[b]? = some (.cells #[e0, e1, e2, e3, .int .i64 st, .pointer (some ⟨b, 5, none⟩), v'] 89 (0, 0)) ∧ (w.setCell ⟨b, 5, none⟩ (.pointer (some ⟨b, 5, none⟩))).ownsRow S 5 1 v' bs.length bs) from ⟨v, by simp [World.setCell, Array.getElem?_modify, h4], ownsRow_setCell_below h5 h1 _⟩)
    clear h4 h5
    go_enter Tryd.func78, Tryd.ntmps78
    go_wp2
    rw [Lib.run_to_unsafe w ⟨b, 5, none⟩ Tryd.underlying85 Tryd.underlying163 hj (by rw [hjs]; decide) hsh (by show 5 < 7; decide)]
    simp only [Result.andThen]
    rw [Oper.upon_value]
    go_wp2
    rw [run_callFunc_extern Tryd.func91 (by kernel_rfl) (by kernel_rfl) (by kernel_rfl) (e := Extern.AbiNoEscape.same) (by kernel_rfl)]
    rw [Lib.run_noEscape]
    simp only [Result.andThen]
    rw [Oper.upon_value]
    go_wp2
    rw [Lib.run_from_unsafe w ⟨b, 5, none⟩ Tryd.underlying163 Tryd.underlying85 hj hsh Tryd.liesWriter]
    simp only [Result.andThen]
    rw [Oper.upon_value]
    go_wp2
    go_end0
    exact ⟨rfl, HX.out, bel_set, BelT.set⟩
  · go_enter Tryd.func78, Tryd.ntmps78
    go_wp2
    rw [Lib.run_neq_ptr_same w _ Tryd.underlying85 hj]
    go_wp2
    go_end0
    exact ⟨rfl, ⟨v, h4, h5⟩, BelB.refl _ _ _, BelT.refl _ _⟩
/-- The new row is laid into the builder. -/
theorem wr_put {w1 w2 : World} {b S n : Nat} {e0 e1 e2 e3 v v' : Value} {st : Int} {bs bs' : List Value} (hs : b < S) (hS : S ≤ w1.heap.size) (h1 : w1.heap[b]? = some (.cells #[e0, e1, e2, e3, .int .i64 st, .pointer (some ⟨b, 5, none⟩), v] 89 (0, 0))) (hv : w1.ownsRow S 5 1 v n bs) (hg : w1.grownBy w2 v.ownBlock) (ho : w2.ownsRow S 5 1 v' bs'.length bs') :
    Wr (w2.setCell ⟨b, 6, none⟩ v') b S e0 e1 e2 e3 st bs' ∧ BelB S b w1 (w2.setCell ⟨b, 6, none⟩ v') ∧ BelT b w1 (w2.setCell ⟨b, 6, none⟩ v') := by
  have hbl : Below S w1 w2 := (Below.refl _ _).grown hg hS (fun k hk => ((hv.lt k hk).1))
  have h2 : w2.heap[b]? = some (.cells #[e0, e1, e2, e3, .int .i64 st, .pointer (some ⟨b, 5, none⟩), v] 89 (0, 0)) := (hbl.block b hs).trans h1
  refine ⟨⟨hs, ?_, _, _, .inr rfl, ?_, ownsRow_setCell_below ho hs _⟩, (BelB.of hbl).trans bel_set, (BelT.grown hv hg).trans BelT.set⟩
  · have := hbl.size; simp; omega
  · simp [World.setCell, Array.getElem?_modify, h2]
set_option maxHeartbeats 2000000 in
set_option maxRecDepth 100000 in
theorem writeString_wr (b S : Nat) (e0 e1 e2 e3 : Value) (st : Int) (bs : List Value) (s : ByteArray) (w : World) (h : Wr w b S e0 e1 e2 e3 st bs) (hlen : bs.length + s.size ≤ 140737488355328) :
    Calls Tryd.prog 47 #[.pointer (some ⟨b, 5, none⟩), .string s] w fun e w' => e = .returned (.tuple #[.int .i64 s.size, .nilIface]) ∧ Wr w' b S e0 e1 e2 e3 st (bs ++ Lib.strCells s) ∧ BelB S b w w' ∧ BelT b w w' := by
  have hbS := h.1
  have hSw := h.2.1
  obtain ⟨i0, hi, hz0, hz1, hz2⟩ := info_parts Tryd.info5
  go_enter Tryd.func47, Tryd.ntmps47
  go_wp2_with fail
  refine (copyCheck_wr b S e0 e1 e2 e3 st bs w h).mono ?_
  rintro e w1 ⟨rfl, ⟨v, hbk, hown⟩, hb1, ht1⟩
  have c1 : w1.cell? ⟨b, 6, none⟩ = some v := by rw [Lib.cell_of_heap hbk]; rfl
  have hs1 : S ≤ w1.heap.size := Nat.le_trans hSw hb1.2.2.2.1
  have HK := hid hbk
  have HB1 := hid hb1
  have HT1 := hid ht1
  have HH := hid h
  clear hbk hb1 ht1 h
  go_wp2_with (at_builtin; refine Lib.wpList_append_own_string _ rfl _ _ 25 9 rfl S 5 i0 Tryd.underlying25 Tryd.underlying9 hi hz0 hz1 hz2 v bs.length bs rfl hown s rfl (by unfold maxLen; omega) (by omega) hs1 ?_; intro v' w2 hown' hgrow _; obtain ⟨av, cv, rfl⟩ := own_slice hown'; have HP := hid (wr_put (bs' := bs ++ Lib.strCells s) hbS hs1 HK.out hown hgrow (by rw [List.length_append, Lib.strCells_length]; exact hown')); have hb2 : Below S w1 w2 := (Below.refl _ _).grown hgrow hs1 (fun k hk => ((hown.lt k hk).1)); have hk2 := (hb2.block b hbS).trans HK.out; have d1 : w2.cell? ⟨b, 6, none⟩ = some v := (by rw [Lib.cell_of_heap hk2]; rfl); have f1 := Lib.frozen_of_heap hk2 6; clear hk2 hb2)
  go_ret2
  exact ⟨rfl, HP.out.1, HB1.out.trans HP.out.2.1, HT1.out.trans HP.out.2.2⟩
set_option maxHeartbeats 2000000 in
set_option maxRecDepth 100000 in
theorem string_wr (b S : Nat) (e0 e1 e2 e3 : Value) (st : Int) (l : List UInt8) (w : World) (h : Wr w b S e0 e1 e2 e3 st (Lib.byteCells l)) (h0 : l ≠ []) :
    Calls Tryd.prog 31 #[.pointer (some ⟨b, 5, none⟩)] w fun e w' => e = .returned (.string ⟨l.toArray⟩) ∧ Below S w w' := by
  obtain ⟨h1, h2, p, v, h3, hbk, hown⟩ := h
  have hl0 : l.length ≠ 0 := by simpa using h0
  rw [Lib.byteCells_length] at hown
  obtain ⟨g, cap, cur, rfl, hbg, hg, hnc, hcm, hcs, htake⟩ : ∃ g cap cur, v = .slice (some ⟨g, 0, none⟩) l.length cap ∧ S ≤ g ∧ w.heap[g]? = some (.cells cur 5 (0, 0)) ∧ l.length ≤ cap ∧ cap ≤ maxLen ∧ cur.size = cap * 1 ∧ cur.toList.take (l.length * 1) = Lib.byteCells l := by
    rcases hown.2 with ⟨_, hz⟩ | ⟨g, cap, cur, hv, r⟩
    · exact absurd hz hl0
    · exact ⟨g, cap, cur, hv, r⟩
  have c1 : w.drew.cell? ⟨b, 6, none⟩ = some (.slice (some ⟨g, 0, none⟩) l.length cap) := by
    have : w.drew.heap[b]? = some (.cells #[e0, e1, e2, e3, .int .i64 st, p, .slice (some ⟨g, 0, none⟩) l.length cap] 89 (0, 0)) := hbk
    rw [Lib.cell_of_heap this]; rfl
  have hSD : (Builtin.unsafeSliceData_ #[25] 124 #[.slice (some ⟨g, 0, none⟩) l.length cap]).run Tryd.prog w.drew = .ok (.pointer (some ⟨g, 0, none⟩)) w.drew :=
    Lib.run_unsafeSliceData_row _ _ _ _ _ _ (by omega)
  have hUS : (Builtin.unsafeString_ #[124, 3] 9 #[.pointer (some ⟨g, 0, none⟩), .int .i64 l.length]).run Tryd.prog w.drew = .ok (.string ⟨l.toArray⟩) (w.drew.freeze ⟨g, 0, none⟩ l.length) := by
    refine Lib.run_unsafeString_row w.drew 124 3 9 5 Tryd.underlying124 (by kernel_rfl) g cur.size (by have hg' : w.drew.heap[g]? = some (.cells cur 5 (0, 0)) := hg; simp [World.shape?, hg']) l h0 (by omega) (by unfold maxLen at hcm; omega) ?_
    intro j x hx
    have := hown.cells (g := g) rfl j (.int .u8 x.toNat) (by simp [Lib.byteCells, hx])
    exact this
  have HB := hid (Lib.below_freeze (Below.drew (Below.refl S w)) (p := ⟨g, 0, none⟩) hbg l.length)
  clear hbk hown h3 hbg hg hcs htake
  go_enter Tryd.func31, Tryd.ntmps31
  go_wp2
  go_region
  all_goals (go_wp2; go_ret; exact ⟨rfl, HB.out⟩)
end Go.Proofs.YtmibbhghbhjmmaaDoor

namespace Go.Proofs.YtmibbhghbhjmmaaDoor
open Go.RowKit Go.Deep
set_option linter.unusedVariables false

set_option maxHeartbeats 400000 in
theorem enc1_any (B : Nat) (I k : Int) (w : World) (h0 : 0 ≤ k) (h1 : k < I) (c2 : w.cell? ⟨B, 2, none⟩ = some (.int .i64 I)) :
    Calls Tryd.prog 29 #[.int .i64 k, .pointer (some ⟨B, 0, none⟩)] w fun e w' => e = .returned (.bool false) ∧ w = w' := by
  go_enter Tryd.func29, Tryd.ntmps29
  go_wp2
  go_ret
  exact ⟨ret_bool (by simp; omega), rfl⟩
theorem ins_any (B b : Nat) (I k : Int) (w : World) (h0 : 0 ≤ k) (h1 : k < I) (c2 : w.cell? ⟨B, 2, none⟩ = some (.int .i64 I)) (cb : w.cell? ⟨b, 0, none⟩ = some (.int .i64 k)) :
    Calls Tryd.prog 28 #[.slice (some ⟨b, 0, none⟩) 1 1, .func (.func 29) #[] #[.pointer (some ⟨B, 0, none⟩)]] w fun e w' => e = .returned (.bool false) ∧ Dr w w' := by
  have eg : ∀ args w, (callFunc 29 args).run Tryd.prog w = .ok (.enter 29 args) w := enters_of Tryd.func29 (by kernel_rfl) rfl
  have hp : PredAt Tryd.prog 29 #[.pointer (some ⟨B, 0, none⟩)] (fun x : Unit => Value.int .i64 k) (fun _ => false) w := by
    intro W x hB
    refine (enc1_any B I k W h0 h1 (keeps hB c2)).mono ?_
    rintro e w' ⟨rfl, rfl⟩; exact ⟨rfl, 0, rfl⟩
  refine (Tryd.slices_ContainsFunc _ _ 29 #[.pointer (some ⟨B, 0, none⟩)] eg b 0 1 1 [()] w hp (by simp) (by omega) fun j hj => ?_).mono ?_
  · obtain rfl : j = 0 := by simp at hj; omega
    exact cb
  · rintro e w' ⟨rfl, n, rfl⟩
    exact ⟨rfl, n, rfl⟩
set_option maxRecDepth 100000 in
set_option maxHeartbeats 4000000 in
theorem wput_any (b S s k n cap : Nat) (am : Option Addr) (e0 e1 e2 : Value) (rows : List (List Cl)) (row : List Cl) (x : Cl) (bs : List Value) (w W0 : World) (hM : MC W0 (.slice am n cap) rows) (hb : Below W0.heap.size W0 w) (h : Wr w b S e0 e1 e2 (.slice am n cap) (s : Int) bs) (hn : rows.length = n) (hrow : rows[s]? = some row) (hx : row[k]? = some x) (hlen : bs.length + x.word.size ≤ 100000) (hS : W0.heap.size ≤ b) :
    Calls Tryd.prog 30 #[.pointer (some ⟨b, 0, none⟩), .int .i64 (k : Int)] w fun e w' => e = .returned (.tuple #[]) ∧ Wr w' b S e0 e1 e2 (.slice am n cap) x.st (bs ++ Lib.strCells x.word) ∧ BelB S b w w' := by
  have HWr := hid h
  obtain ⟨c0, c1, c2, c3, c4, f4⟩ := h.cells
  obtain ⟨br, o, r, cr, rfl, n1, hSr⟩ := hM.row hrow
  obtain ⟨b2, o2, rfl, m1, m2⟩ := hSr.cl hx
  have n1 := keeps hb n1
  have m1 := keeps hb m1
  have m2 := keeps hb m2
  have hsn : s < n := by rw [← hn]; exact lt_of_some hrow
  have hkn : k < row.length := lt_of_some hx
  have hbS := h.1
  have hSw := h.2.1
  have HWs := hid (fun X h => writeString_wr b S e0 e1 e2 (.slice (some ⟨br, o, none⟩) n cap) (s : Int) bs x.word X h (by omega))
  clear h hM hSr hrow hx hn
  go_enter Tryd.func30, Tryd.ntmps30
  go_wp2_with fail
  go_region_held3 (fun w' => w'.cell? ⟨b, 3, none⟩ = some (.slice (some ⟨br, o, none⟩) n cap) ∧ w'.cell? ⟨b, 4, none⟩ = some (.int .i64 (s : Int)) ∧ w'.cell? ⟨br, o + s, none⟩ = some (.slice (some ⟨b2, o2, none⟩) row.length cr) ∧ w'.cell? ⟨b2, o2 + k * 2, none⟩ = some (.int .i64 x.st) ∧ w'.cell? ⟨b2, o2 + k * 2 + 1, none⟩ = some (.string x.word))
    (first | exact ⟨c3, c4, n1, m1, m2⟩ | exact ⟨keeps (bel_alloc _ _) c3, keeps (bel_alloc _ _) c4, keeps (bel_alloc _ _) n1, keeps (bel_alloc _ _) m1, keeps (bel_alloc _ _) m2⟩ | go_keep)
    (fail)
  clear c0 c1 c2 c3 c4 f4 n1 m1 m2
  obtain ⟨wx, hwx⟩ : ∃ wx, (w.alloc (.cells #[.int .i64 x.st, .string x.word] 51)).drew = wx := ⟨_, rfl⟩
  have hbx : Below w.heap.size w wx := by rw [← hwx]; exact bel_step (bel_alloc w _) (below_drewN (Below.refl _ _) 1)
  have hkx : wx.heap[w.heap.size]? = some (.cells #[.int .i64 x.st, .string x.word] 51 (0, 0)) := by rw [← hwx]; exact heap_alloc_new w _
  rw [hwx]
  have HBx := hid hbx
  have HKx := hid hkx
  have y0 : wx.cell? ⟨w.heap.size, 0, none⟩ = some (.int .i64 x.st) := by rw [Lib.cell_of_heap hkx]; rfl
  have y1 : wx.cell? ⟨w.heap.size, 1, none⟩ = some (.string x.word) := by rw [Lib.cell_of_heap hkx]; rfl
  have hbd : Below wx.heap.size wx wx.drew := below_drewN (Below.refl _ _) 1
  have HBd := hid (bel_step hbx hbd)
  have HKd := hid (show wx.drew.heap[w.heap.size]? = some (.cells #[.int .i64 x.st, .string x.word] 51 (0, 0)) from hkx)
  have hwb : b ≠ w.heap.size := by have := HWr.out.lt; omega
  clear hwx hbx hkx hbd
  generalize hbq : w.heap.size = bx at *
  go_wp2_with fail
  go_region_held3 (fun w' => w'.cell? ⟨bx, 1, none⟩ = some (.string x.word))
    (first | exact y1 | go_keep)
    (first | (go_at_call 47; refine (HWs.out _ (HWr.out.below (hbq ▸ HBd.out))).mono ?_; rintro e w2 ⟨rfl, hW2, hB2, hT2⟩; have HW2 := hid hW2; have HB2 := hid hB2; have y0 := hT2.cell (a := ⟨bx, 0, none⟩) (show wx.drew.cell? ⟨bx, 0, none⟩ = some (.int .i64 x.st) from y0) HKd.out (by decide) (fun e => hwb e.symm); have y1 := hT2.cell (a := ⟨bx, 1, none⟩) (show wx.drew.cell? ⟨bx, 1, none⟩ = some (.string x.word) from y1) HKd.out (by decide) (fun e => hwb e.symm); clear hW2 hB2 hT2))
  obtain ⟨_, _, _, _, c4, f4⟩ := HW2.out.cells
  clear y1
  go_wp2
  go_end0
  exact ⟨rfl, HW2.out.state x.st, ((BelB.of (HBd.out.mono hSw)).trans HB2.out).trans bel_set⟩
theorem Wr.start (w w0 : World) (e0 e1 e2 e3 : Value) (s : Int) (h : w.alloc (.cells #[e0, e1, e2, e3, .int .i64 s, .pointer none, .slice none 0 0] 89) = w0) : Wr w0 w.heap.size w0.heap.size e0 e1 e2 e3 s [] ∧ Below w.heap.size w w0 := by
  subst h
  exact ⟨⟨by simp, Nat.le_refl _, _, _, .inl rfl, heap_alloc_new w _, World.ownsRow_nil _ _ _ _⟩, bel_alloc _ _⟩
set_option maxRecDepth 100000 in
set_option maxHeartbeats 8000000 in
theorem encode_one (q bl I s k b : Nat) (v : Value) (rows : List (List Cl)) (row : List Cl) (x : Cl) (w : World) (hM : MC w v rows) (hE : eErr (q : Int) (bl : Int) (I : Int) rows = 0) (hV : EncV (q : Int) (bl : Int) (I : Int) rows) (hs : s < rows.length) (hk : k < I) (hrow : rows[s]? = some row) (hx : row[k]? = some x) (cb : w.cell? ⟨b, 0, none⟩ = some (.int .i64 (k : Int))) :
    Calls Tryd.prog 10 #[.agg #[.int .i64 (q : Int), .int .i64 (bl : Int), .int .i64 (I : Int), v], .int .i64 (s : Int), .slice (some ⟨b, 0, none⟩) 1 1] w fun e w' => e = .returned (.tuple #[.string x.word, .int .i64 x.st, .int .i64 0]) ∧ Below w.heap.size w w' := by
  have HM := hid hM
  have HCk := hid (fun X h => echk_any (q : Int) (bl : Int) (I : Int) v rows X h)
  rw [hE] at HCk
  obtain ⟨am, cap, rfl, hm1, hm2⟩ := hM.slice
  have hmr := List.mem_of_getElem? hrow
  have hmx := List.mem_of_getElem? hx
  have hb1 := hV.b1
  have hb2 := hV.b16
  have hn64 := hV.r64
  have hxs : x.word.size = bl := by have := hV.sz row hmr x hmx; omega
  have HIn := hid (fun B X h1 h2 => ins_any B b (I : Int) (k : Int) X (by omega) (by omega) h1 h2)
  have HPut := hid (fun B S e0 e1 e2 X h1 h2 h3 => wput_any B S s k rows.length cap am e0 e1 e2 rows row x [] X w hM h1 h2 rfl hrow hx (by rw [hxs]; simp; omega) h3)
  clear hM hE hV hmr hmx hrow hx
  have hmul : IntKind.i64.wrap (1 * (bl : Int)) = (bl : Int) := (IntWalk.i64_in _ (by omega)).trans (by omega)
  generalize rows.length = n at *
  go_enter Tryd.func10, Tryd.ntmps10
  go_upto_region 1 with fail
  obtain ⟨w0, hw0⟩ : ∃ w0, w.alloc (.cells #[.int .i64 (q : Int), .int .i64 (bl : Int), .int .i64 (I : Int), .slice am n cap] 24) = w0 := ⟨_, rfl⟩
  obtain ⟨hb0, c0, c1, c2, c3⟩ := boxedE hw0
  rw [hw0]
  have HB0 := hid hb0
  have cb := keeps hb0 cb
  clear hw0 hb0
  go_upto_region 5 with (go_at_call 15; refine (HCk.out _ (HM.out.below HB0.out)).mono ?_; rintro e w1 ⟨rfl, hb1⟩; have HB1 := hid (bel_step HB0.out hb1); have c0 := keeps hb1 c0; have c1 := keeps hb1 c1; have c2 := keeps hb1 c2; have c3 := keeps hb1 c3; have cb := keeps hb1 cb; clear hb1)
  go_upto_region 7 with (go_at_call 28; refine (HIn.out _ _ c2 cb).mono ?_; rintro e w2 ⟨rfl, hD⟩; have hb2 := hD.below w1.heap.size; have HB2 := hid (bel_step HB1.out hb2); have c0 := keeps hb2 c0; have c1 := keeps hb2 c1; have c2 := keeps hb2 c2; have c3 := keeps hb2 c3; have cb := keeps hb2 cb; clear hb2 hD)
  go_upto_region 10 with fail
  obtain ⟨w3, hw3⟩ : ∃ w3, w2.alloc (.cells #[.int .i64 (q : Int), .int .i64 (bl : Int), .int .i64 (I : Int), .slice am n cap, .int .i64 (s : Int), .pointer none, .slice none 0 0] 89) = w3 := ⟨_, rfl⟩
  obtain ⟨hW3, hb3⟩ := Wr.start w2 w3 _ _ _ _ _ hw3
  rw [hw3]
  have HW3 := hid hW3
  have HB3 := hid (bel_step HB2.out hb3)
  have cb := keeps hb3 cb
  have hS2 := HB2.out.size
  have HBw := hid hb3
  clear hw3 hW3 hb3 hmul c0 c1 c2 c3
  generalize w2.heap.size = wb at *
  go_wp2_with fail
  go_loopw [46] (fun i wr => (i = .int .i64 0 ∧ w3 = wr) ∨ (i = .int .i64 1 ∧ Wr wr wb w3.heap.size (.int .i64 (q : Int)) (.int .i64 (bl : Int)) (.int .i64 (I : Int)) (.slice am n cap) x.st (Lib.strCells x.word) ∧ Hid (BelB w3.heap.size wb w3 wr))) (fun i _ => 1 - (intOf i).toNat)
  case atStart => exact .inl ⟨rfl, rfl⟩
  case round =>
    rcases hrel with ⟨rfl, rfl⟩ | ⟨rfl, hWr, HBl⟩
    · go_wp2_with (go_at_call 30; refine (HPut.out wb w3.heap.size _ _ _ w3 HB3.out HW3.out hS2).mono ?_; rintro e w4 ⟨rfl, hW4, hB4⟩; have HW4 := hid hW4; have HB4 := hid hB4; clear hW4 hB4)
      go_roundw
      case rel => exact .inr ⟨by go_num, HW4.out, HB4⟩
      case measure => simp [intOf]
    · have HWr := hid hWr
      clear hWr
      obtain ⟨_, _, _, _, c4, _⟩ := HWr.out.cells
      have HD := hid (show Below wr.heap.size wr wr.drew from below_drewN (Below.refl _ _) 1)
      have HSt := hid (fun X h => string_wr wb w3.heap.size (.int .i64 (q : Int)) (.int .i64 (bl : Int)) (.int .i64 (I : Int)) (.slice am n cap) x.st x.word.data.toList X h (fun e => by have := ba_len x.word; rw [e] at this; simp at this; omega))
      have HLt := hid HW3.out.1
      go_upto_region 16 with fail
      go_region_held3 (fun w' => w'.cell? ⟨wb, 4, none⟩ = some (.int .i64 x.st))
        (first | exact c4 | go_keep)
        (first | (go_at_call 31; refine (HSt.out _ (HWr.out.below HD.out)).mono ?_; rintro e w5 ⟨rfl, hb5⟩; have HB5 := hid hb5; have c4 := World.cell?_of_block (a := ⟨wb, 4, none⟩) (hb5.block wb HLt.out) |>.trans c4; clear hb5))
      go_wp2
      go_ret3
      refine ⟨rfl, ?_⟩
      have h1 := HB3.out
      have hsz := h1.size
      have hs3 := HW3.out.2.1
      have hlt := HLt.out
      have h2 : Below w.heap.size w3 wr := HBl.out.below (by omega) hsz
      have h3 : Below w.heap.size wr wr.drew := below_drewN (Below.refl _ _) 1
      exact ((h1.trans h2).trans h3).trans (HB5.out.mono hsz)
end Go.Proofs.YtmibbhghbhjmmaaDoor
