/-
  (*strings.Builder).copyCheck and WriteByte at a builder that the call itself made.
  A strings.Builder that the call itself made, beside other memory of the call: WriteByte, WriteString, String; what they leave alone.
  Conditions: No condition beyond the length's bound of 2^47 bytes. No condition beyond the length's bound of 2^47 bytes.
-/
import Derived.Test.YtcdfghogmdhfcaaGreatDoorProg
import Derived.Test.YtcdfghogmdhfcaaGreatDoorMg0
import Derived.Lib.Builder
import Derived.Laws.Externs
import Derived.Test.YtcdfghogmdhfcaaGreatDoorShelfT
import Derived.Lib.AppendStr
namespace Go.Proofs.YtcdfghogmdhfcaaGreatDoor
open Go.RowKit
set_option linter.unusedVariables false
theorem Tryz.infoBuilder : (Tryz.prog.info? 71).map (·.size) = some 2 := by kernel_rfl
theorem Tryz.liesBuilder : liesAt Tryz.prog Tryz.prog.depth 71 (2 / Tryz.prog.cellsOf 71) 0 71 1 = true := by kernel_rfl
theorem Tryz.info5 : (Tryz.prog.info? 5).map (fun i => (i.zero, i.size, i.bytes)) = some (some (.int .u8 0), 1, 1) := by kernel_rfl

set_option maxHeartbeats 1000000 in
set_option maxRecDepth 100000 in
theorem copyCheck_used (b : Nat) (w : World) (h0 : w.cell? ⟨b, 0, none⟩ = some (.pointer (some ⟨b, 0, none⟩))) :
    Calls Tryz.prog 60 #[.pointer (some ⟨b, 0, none⟩)] w fun e w' => e = .returned (.tuple #[]) ∧ w' = w := by
  obtain ⟨j, hj, _⟩ := Option.map_eq_some_iff.1 Tryz.infoBuilder
  go_enter Tryz.func60, Tryz.ntmps60
  go_wp2
  rw [Lib.run_neq_ptr_same w _ Tryz.underlying69 hj]
  go_wp2
  go_end0
  exact ⟨rfl, rfl⟩

set_option maxHeartbeats 1000000 in
set_option maxRecDepth 100000 in
theorem copyCheck_fresh (b : Nat) (w : World) (h0 : w.cell? ⟨b, 0, none⟩ = some (.pointer none)) (hsh : w.shape? b = some (71, 2)) (hfz : w.frozen? ⟨b, 0, none⟩ = false) :
    Calls Tryz.prog 60 #[.pointer (some ⟨b, 0, none⟩)] w fun e w' => e = .returned (.tuple #[]) ∧ w' = w.setCell ⟨b, 0, none⟩ (.pointer (some ⟨b, 0, none⟩)) := by
  obtain ⟨j, hj, hjs⟩ := Option.map_eq_some_iff.1 Tryz.infoBuilder
  go_enter Tryz.func60, Tryz.ntmps60
  go_wp2
  rw [Lib.run_to_unsafe w ⟨b, 0, none⟩ Tryz.underlying69 Tryz.underlying145 hj (by rw [hjs]; decide) hsh (Nat.zero_lt_succ 1)]
  simp only [Result.andThen]
  rw [Oper.upon_value]
  go_wp2
  rw [run_callFunc_extern Tryz.func91 (by kernel_rfl) (by kernel_rfl) (by kernel_rfl) (e := Extern.AbiNoEscape.same) (by kernel_rfl)]
  rw [Lib.run_noEscape]
  simp only [Result.andThen]
  rw [Oper.upon_value]
  go_wp2
  rw [Lib.run_from_unsafe w ⟨b, 0, none⟩ Tryz.underlying145 Tryz.underlying69 hj hsh Tryz.liesBuilder]
  simp only [Result.andThen]
  rw [Oper.upon_value]
  go_wp2
  go_end0
  exact ⟨rfl, rfl⟩

theorem copyCheck_any (B b : Nat) (bs : List Value) (w : World) (h : Lib.IsBuilder 71 5 B b bs w) :
    Calls Tryz.prog 60 #[.pointer (some ⟨b, 0, none⟩)] w fun e w' => e = .returned (.tuple #[]) ∧ (Lib.BuilderAt 71 5 B b (.pointer (some ⟨b, 0, none⟩)) bs w' ∧ Below B w w') := by
  rcases h with h | h
  · refine (copyCheck_fresh b w h.cell0 h.shape h.frozen0).mono ?_
    rintro e w' ⟨rfl, rfl⟩
    exact ⟨rfl, h.used _, (Below.refl B w).setCell (p := ⟨b, 0, none⟩) h.1 _⟩
  · refine (copyCheck_used b w h.cell0).mono ?_
    rintro e w' ⟨rfl, rfl⟩
    exact ⟨rfl, h, Below.refl B _⟩

theorem builder_kept {b : Nat} {p v : Value} {T : TypeId} {w1 w2 : World} (hbk : w1.heap[b]? = some (.cells #[p, v] T (0, 0))) (hne : v.ownBlock ≠ some b) (hg : w1.grownBy w2 v.ownBlock) :
    w2.heap[b]? = some (.cells #[p, v] T (0, 0)) := by
  rw [hg.block b (Array.getElem?_eq_some_iff.1 hbk).1 (fun e => hne e.symm)]
  exact hbk
theorem builder_facts {b : Nat} {p v : Value} {T : TypeId} {w2 : World} (h : w2.heap[b]? = some (.cells #[p, v] T (0, 0))) :
    w2.cell? ⟨b, 0, none⟩ = some p ∧ w2.cell? ⟨b, 1, none⟩ = some v ∧ w2.frozen? ⟨b, 1, none⟩ = false :=
  ⟨by rw [Lib.cell_of_heap h]; rfl, by rw [Lib.cell_of_heap h]; rfl, Lib.frozen_of_heap h 1⟩

set_option maxHeartbeats 2000000 in
set_option maxRecDepth 100000 in
theorem writeByte_any (B b : Nat) (bs : List Value) (c : Int) (w : World) (h : Lib.IsBuilder 71 5 B b bs w) (hlen : bs.length + 1 ≤ 140737488355328) (hBw : B ≤ w.heap.size) :
    Calls Tryz.prog 41 #[.pointer (some ⟨b, 0, none⟩), .int .u8 c] w fun e w' => e = .returned .nilIface ∧ (Lib.IsBuilder 71 5 B b (bs ++ [.int .u8 c]) w' ∧ Below B w w') := by
  go_enter Tryz.func41, Tryz.ntmps41
  go_wp2_with fail
  refine (copyCheck_any B b bs w h).mono ?_
  rintro e w1 ⟨rfl, h1, hb1⟩
  obtain ⟨hB, v, hbk, hown, hne⟩ := h1
  have c0 : w1.cell? ⟨b, 0, none⟩ = some (.pointer (some ⟨b, 0, none⟩)) := by rw [Lib.cell_of_heap hbk]; rfl
  have c1 : w1.cell? ⟨b, 1, none⟩ = some v := by rw [Lib.cell_of_heap hbk]; rfl
  have hs1 := hb1.size
  have HK := hid hbk
  have HN := hid hne
  clear hbk hne
  go_wp2_with (at_builtin; refine wpList_push _ rfl _ _ 54 rfl B 5 (.int .u8 0) 1 1 Tryz.underlying54 Tryz.info5 rfl (by decide) _ _ _ rfl hown #[.int .u8 c] rfl (oneCell_int _ _) rfl (by unfold maxLen; omega) (by omega) (by omega) ?_; intro g cap w2 hown' hgrow hb2; have HK3 := hid (builder_kept HK.out HN.out hgrow); obtain ⟨d0, d1, f1⟩ := builder_facts HK3.out)
  go_ret
  refine ⟨rfl, .inr ?_, ?_⟩
  · exact Lib.BuilderAt.put (T := 71) (e := 5) hB HK3.out (bs' := bs ++ [.int .u8 c]) (by simpa using hown') (by decide)
  · exact (hb1.trans hb2).setCell (p := ⟨b, 1, none⟩) hB _
end Go.Proofs.YtcdfghogmdhfcaaGreatDoor

namespace Go.Proofs.YtcdfghogmdhfcaaGreatDoor
open Go.RowKit
set_option linter.unusedVariables false

/-- The block b is a builder that holds bs; its row lies from S on. -/
def Bld (w : World) (b S : Nat) (bs : List Value) : Prop :=
  b < S ∧ S ≤ w.heap.size ∧ ∃ p v, (p = .pointer none ∨ p = .pointer (some ⟨b, 0, none⟩)) ∧ w.heap[b]? = some (.cells #[p, v] 71 (0, 0)) ∧ w.ownsRow S 5 1 v bs.length bs
/-- Nothing below S has turned, but b. -/
def BelB (S b : Nat) (w w' : World) : Prop := w'.os = w.os ∧ w'.tape = w.tape ∧ w'.output = w.output ∧ w.heap.size ≤ w'.heap.size ∧ ∀ k, k < S → k ≠ b → w'.heap[k]? = w.heap[k]?
theorem BelB.refl (S b : Nat) (w : World) : BelB S b w w := ⟨rfl, rfl, rfl, Nat.le_refl _, fun _ _ _ => rfl⟩
theorem BelB.trans {S b : Nat} {w1 w2 w3 : World} (h : BelB S b w1 w2) (k : BelB S b w2 w3) : BelB S b w1 w3 :=
  ⟨k.1.trans h.1, k.2.1.trans h.2.1, k.2.2.1.trans h.2.2.1, Nat.le_trans h.2.2.2.1 k.2.2.2.1, fun j hj hb => (k.2.2.2.2 j hj hb).trans (h.2.2.2.2 j hj hb)⟩
theorem BelB.of {S b : Nat} {w w' : World} (h : Below S w w') : BelB S b w w' := ⟨h.os, h.tape, h.output, h.size, fun k hk _ => h.block k hk⟩
theorem BelB.below {S b B : Nat} {w w' : World} (h : BelB S b w w') (h1 : B ≤ b) (h2 : B ≤ S) : Below B w w' := ⟨h.1, h.2.1, h.2.2.1, h.2.2.2.1, fun k hk => h.2.2.2.2 k (by omega) (by omega)⟩
theorem BelB.cell {S b : Nat} {w w' : World} (h : BelB S b w w') {a : Addr} {v : Value} (hc : w.cell? a = some v) (h1 : a.block < S) (h2 : a.block ≠ b) : w'.cell? a = some v := by
  have := h.2.2.2.2 a.block h1 h2
  unfold World.cell? at hc ⊢
  rw [this]; exact hc
theorem Bld.fresh (w : World) : Bld (w.alloc (.cells #[.pointer none, .slice none 0 0] 71)) w.heap.size (w.heap.size + 1) [] :=
  ⟨by omega, by simp, _, _, .inl rfl, heap_alloc_new w _, World.ownsRow_nil _ _ _ _⟩
/-- .. and memory that is made behind it lies below the row. -/
theorem Bld.start {w w' : World} (hb : Below (w.heap.size + 1) (w.alloc (.cells #[.pointer none, .slice none 0 0] 71)) w') : Bld w' w.heap.size w'.heap.size [] := by
  have hs := hb.size
  simp at hs
  exact ⟨by omega, Nat.le_refl _, _, _, .inl rfl, (hb.block _ (by omega)).trans (heap_alloc_new w _), World.ownsRow_nil _ _ _ _⟩
theorem Bld.below {w w' : World} {b S : Nat} {bs : List Value} (h : Bld w b S bs) (hb : Below w.heap.size w w') : Bld w' b S bs := by
  obtain ⟨h1, h2, p, v, h3, h4, h5⟩ := h
  exact ⟨h1, Nat.le_trans h2 hb.size, p, v, h3, (hb.block b (Array.getElem?_eq_some_iff.1 h4).1).trans h4, own_below h5 hb⟩
theorem Bld.lt {w : World} {b S : Nat} {bs : List Value} (h : Bld w b S bs) : b < w.heap.size := by have := h.1; have := h.2.1; omega
theorem Bld.is {w : World} {b S : Nat} {bs : List Value} (h : Bld w b S bs) : Lib.IsBuilder 71 5 b b bs w := by
  obtain ⟨h1, h2, p, v, h3, h4, h5⟩ := h
  have hne : v.ownBlock ≠ some b := Lib.ownBlock_ne h5 h4 (by decide)
  rcases h3 with rfl | rfl
  · exact .inl ⟨Nat.le_refl _, v, h4, own_base h5 (by omega), hne⟩
  · exact .inr ⟨Nat.le_refl _, v, h4, own_base h5 (by omega), hne⟩
theorem bel_set {S b : Nat} {w : World} {i : Nat} {v : Value} : BelB S b w (w.setCell ⟨b, i, none⟩ v) :=
  ⟨rfl, rfl, rfl, by simp, fun k _ hk => Below.heap_setCell _ _ _ _ (fun e => hk (by simp [e]))⟩
/-- copyCheck: the builder knows its address. -/
theorem copyCheck_bld (b S : Nat) (bs : List Value) (w : World) (h : Bld w b S bs) :
    Calls Tryz.prog 60 #[.pointer (some ⟨b, 0, none⟩)] w fun e w' => e = .returned (.tuple #[]) ∧ (∃ v, w'.heap[b]? = some (.cells #[.pointer (some ⟨b, 0, none⟩), v] 71 (0, 0)) ∧ w'.ownsRow S 5 1 v bs.length bs) ∧ BelB S b w w' := by
  obtain ⟨h1, h2, p, v, h3, h4, h5⟩ := h
  have c0 : w.cell? ⟨b, 0, none⟩ = some p := by rw [Lib.cell_of_heap h4]; rfl
  rcases h3 with rfl | rfl
  · refine (copyCheck_fresh b w c0 (by simp [World.shape?, h4]) (Lib.frozen_of_heap h4 0)).mono ?_
    rintro e w' ⟨rfl, rfl⟩
    exact ⟨rfl, ⟨v, by simp [World.setCell, Array.getElem?_modify, h4], ownsRow_setCell_below h5 h1 _⟩, bel_set⟩
  · refine (copyCheck_used b w c0).mono ?_
    rintro e w' ⟨rfl, rfl⟩
    exact ⟨rfl, ⟨v, h4, h5⟩, BelB.refl _ _ _⟩
/-- The new row is laid into the builder. -/
theorem bld_put {w1 w2 : World} {b S n : Nat} {v v' : Value} {bs bs' : List Value} (hs : b < S) (hS : S ≤ w1.heap.size) (h1 : w1.heap[b]? = some (.cells #[.pointer (some ⟨b, 0, none⟩), v] 71 (0, 0))) (hv : w1.ownsRow S 5 1 v n bs) (hg : w1.grownBy w2 v.ownBlock) (ho : w2.ownsRow S 5 1 v' bs'.length bs') :
    Bld (w2.setCell ⟨b, 1, none⟩ v') b S bs' ∧ BelB S b w1 (w2.setCell ⟨b, 1, none⟩ v') := by
  have hbl : Below S w1 w2 := (Below.refl _ _).grown hg hS (fun k hk => ((hv.lt k hk).1))
  have h2 : w2.heap[b]? = some (.cells #[.pointer (some ⟨b, 0, none⟩), v] 71 (0, 0)) := (hbl.block b hs).trans h1
  refine ⟨⟨hs, ?_, _, _, .inr rfl, ?_, ownsRow_setCell_below ho hs _⟩, (BelB.of hbl).trans bel_set⟩
  · have := hbl.size; simp; omega
  · simp [World.setCell, Array.getElem?_modify, h2]
set_option maxHeartbeats 2000000 in
set_option maxRecDepth 100000 in
theorem writeByte_bld (b S : Nat) (bs : List Value) (c : Int) (w : World) (h : Bld w b S bs) (hlen : bs.length + 1 ≤ 140737488355328) :
    Calls Tryz.prog 41 #[.pointer (some ⟨b, 0, none⟩), .int .u8 c] w fun e w' => e = .returned .nilIface ∧ Bld w' b S (bs ++ [.int .u8 c]) ∧ BelB S b w w' := by
  have hbS := h.1
  have hSw := h.2.1
  go_enter Tryz.func41, Tryz.ntmps41
  go_wp2_with fail
  refine (copyCheck_bld b S bs w h).mono ?_
  rintro e w1 ⟨rfl, ⟨v, hbk, hown⟩, hb1⟩
  have c1 : w1.cell? ⟨b, 1, none⟩ = some v := by rw [Lib.cell_of_heap hbk]; rfl
  have hs1 : S ≤ w1.heap.size := Nat.le_trans hSw hb1.2.2.2.1
  have HK := hid hbk
  have HB1 := hid hb1
  have HH := hid h
  clear hbk hb1 h
  go_wp2_with (at_builtin; refine wpList_push w1 rfl _ _ 54 rfl S 5 (.int .u8 0) 1 1 Tryz.underlying54 Tryz.info5 rfl (by decide) v bs.length bs rfl hown #[.int .u8 c] rfl (oneCell_int _ _) rfl (by unfold maxLen; omega) (by omega) hs1 ?_; intro g cap w2 hown' hgrow hb2; have HP := hid (bld_put (bs' := bs ++ [.int .u8 c]) hbS hs1 HK.out hown hgrow (by simpa using hown')); have hk2 := (hb2.block b hbS).trans HK.out; obtain ⟨d0, d1, f1⟩ := builder_facts hk2; clear hk2)
  go_ret
  exact ⟨rfl, HP.out.1, HB1.out.trans HP.out.2⟩
set_option maxHeartbeats 2000000 in
set_option maxRecDepth 100000 in
theorem writeString_bld (b S : Nat) (bs : List Value) (s : ByteArray) (w : World) (h : Bld w b S bs) (hlen : bs.length + s.size ≤ 140737488355328) :
    Calls Tryz.prog 29 #[.pointer (some ⟨b, 0, none⟩), .string s] w fun e w' => e = .returned (.tuple #[.int .i64 s.size, .nilIface]) ∧ Bld w' b S (bs ++ Lib.strCells s) ∧ BelB S b w w' := by
  have hbS := h.1
  have hSw := h.2.1
  obtain ⟨i0, hi, hz0, hz1, hz2⟩ := info_parts Tryz.info5
  go_enter Tryz.func29, Tryz.ntmps29
  go_wp2_with fail
  refine (copyCheck_bld b S bs w h).mono ?_
  rintro e w1 ⟨rfl, ⟨v, hbk, hown⟩, hb1⟩
  have c1 : w1.cell? ⟨b, 1, none⟩ = some v := by rw [Lib.cell_of_heap hbk]; rfl
  have hs1 : S ≤ w1.heap.size := Nat.le_trans hSw hb1.2.2.2.1
  have HK := hid hbk
  have HB1 := hid hb1
  have HH := hid h
  clear hbk hb1 h
  go_wp2_with (at_builtin; refine Lib.wpList_append_own_string _ rfl _ _ 54 9 rfl S 5 i0 Tryz.underlying54 Tryz.underlying9 hi hz0 hz1 hz2 v bs.length bs rfl hown s rfl (by unfold maxLen; omega) (by omega) hs1 ?_; intro v' w2 hown' hgrow _; obtain ⟨av, cv, rfl⟩ := own_slice hown'; have HP := hid (bld_put (bs' := bs ++ Lib.strCells s) hbS hs1 HK.out hown hgrow (by rw [List.length_append, Lib.strCells_length]; exact hown')); have hb2 : Below S w1 w2 := (Below.refl _ _).grown hgrow hs1 (fun k hk => ((hown.lt k hk).1)); have hk2 := (hb2.block b hbS).trans HK.out; obtain ⟨d0, d1, f1⟩ := builder_facts hk2; clear hk2 hb2)
  go_ret2
  exact ⟨rfl, HP.out.1, HB1.out.trans HP.out.2⟩
theorem string_bld (b S : Nat) (l : List UInt8) (w : World) (h : Bld w b S (Lib.byteCells l)) :
    Calls Tryz.prog 33 #[.pointer (some ⟨b, 0, none⟩)] w fun e w' => e = .returned (.string ⟨l.toArray⟩) ∧ Below b w w' :=
  Tryz.Builder_String_any b b l w h.is (by have := h.lt; omega)
end Go.Proofs.YtcdfghogmdhfcaaGreatDoor
