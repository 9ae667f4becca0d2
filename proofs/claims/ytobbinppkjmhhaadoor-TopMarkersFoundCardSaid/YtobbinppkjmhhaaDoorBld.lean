/-
  A strings.Builder that the call itself made, beside other memory of the call: WriteByte, WriteString, String; what they leave alone.
  No condition beyond the length's bound of 2^47 bytes.
-/
import Derived.Test.YtobbinppkjmhhaaDoorBuilder
import Derived.Test.YtobbinppkjmhhaaDoorAidP
import Derived.Test.YtobbinppkjmhhaaDoorShelfT
import Derived.Lib.AppendStr
namespace Go.Proofs.YtobbinppkjmhhaaDoor
open Go.RowKit
set_option linter.unusedVariables false

/-- The block b is a builder that holds bs; its row lies from S on. -/
def Bld (w : World) (b S : Nat) (bs : List Value) : Prop :=
  b < S ∧ S ≤ w.heap.size ∧ ∃ p v, (p = .pointer none ∨ p = .pointer (some ⟨b, 0, none⟩)) ∧ w.heap[b]? = some (.cells #[p, v] 97 (0, 0)) ∧ w.ownsRow S 5 1 v bs.length bs
/-- Nothing below S has turned, but b. -/
def BelB (S b : Nat) (w w' : World) : Prop := w'.os = w.os ∧ w'.tape = w.tape ∧ w'.output = w.output ∧ w.heap.size ≤ w'.heap.size ∧ ∀ k, k < S → k ≠ b → w'.heap[k]? = w.heap[k]?
theorem BelB.refl (S b : Nat) (w : World) : BelB S b w w := ⟨rfl, rfl, rfl, Nat.le_refl _, fun _ _ _ => rfl⟩
theorem BelB.trans {S b : Nat} {w1 w2 w3 : World} (h : BelB S b w1 w2) (k : BelB S b w2 w3) : BelB S b w1 w3 :=
  ⟨k.1.trans h.1, k.2.1.trans h.2.1, k.2.2.1.trans h.2.2.1, Nat.le_trans h.2.2.2.1 k.2.2.2.1, fun j hj hb => (k.2.2.2.2 j hj hb).trans (h.2.2.2.2 j hj hb)⟩
theorem BelB.of {S b : Nat} {w w' : World} (h : Below S w w') : BelB S b w w' := ⟨h.os, h.tape, h.output, h.size, fun k hk _ => h.block k hk⟩
theorem BelB.below {S b B : Nat} {w w' : World} (h : BelB S b w w') (h1 : B ≤ b) (h2 : B ≤ S) : Below B w w' := ⟨h.1, h.2.1, h.2.2.1, h.2.2.2.1, fun k hk => h.2.2.2.2 k (by omega) (by omega)⟩
theorem BelB.cell {S b : Nat} {w w' : World} (h : BelB S b w w') {a : Addr} {v : Value} (hc : w.cell? a = some v) (h1 : a.block < S) (h2 : a.block ≠ b) : w'.cell? a = some v := by
  have := h.2.2.2.2 a.block h1 h2
  unfold World.cell? at hc ⊢
  rw [this]; exact hc
theorem Bld.fresh (w : World) : Bld (w.alloc (.cells #[.pointer none, .slice none 0 0] 97)) w.heap.size (w.heap.size + 1) [] :=
  ⟨by omega, by simp, _, _, .inl rfl, heap_alloc_new w _, World.ownsRow_nil _ _ _ _⟩
/-- .. and memory that is made behind it lies below the row. -/
theorem Bld.start {w w' : World} (hb : Below (w.heap.size + 1) (w.alloc (.cells #[.pointer none, .slice none 0 0] 97)) w') : Bld w' w.heap.size w'.heap.size [] := by
  have hs := hb.size
  simp at hs
  exact ⟨by omega, Nat.le_refl _, _, _, .inl rfl, (hb.block _ (by omega)).trans (heap_alloc_new w _), World.ownsRow_nil _ _ _ _⟩
theorem Bld.below {w w' : World} {b S : Nat} {bs : List Value} (h : Bld w b S bs) (hb : Below w.heap.size w w') : Bld w' b S bs := by
  obtain ⟨h1, h2, p, v, h3, h4, h5⟩ := h
  exact ⟨h1, Nat.le_trans h2 hb.size, p, v, h3, (hb.block b (Array.getElem?_eq_some_iff.1 h4).1).trans h4, own_below h5 hb⟩
theorem Bld.lt {w : World} {b S : Nat} {bs : List Value} (h : Bld w b S bs) : b < w.heap.size := by have := h.1; have := h.2.1; omega
theorem Bld.is {w : World} {b S : Nat} {bs : List Value} (h : Bld w b S bs) : Lib.IsBuilder 97 5 b b bs w := by
  obtain ⟨h1, h2, p, v, h3, h4, h5⟩ := h
  have hne : v.ownBlock ≠ some b := Lib.ownBlock_ne h5 h4 (by decide)
  rcases h3 with rfl | rfl
  · exact .inl ⟨Nat.le_refl _, v, h4, own_base h5 (by omega), hne⟩
  · exact .inr ⟨Nat.le_refl _, v, h4, own_base h5 (by omega), hne⟩
theorem bel_set {S b : Nat} {w : World} {i : Nat} {v : Value} : BelB S b w (w.setCell ⟨b, i, none⟩ v) :=
  ⟨rfl, rfl, rfl, by simp, fun k _ hk => Below.heap_setCell _ _ _ _ (fun e => hk (by simp [e]))⟩
/-- copyCheck: the builder knows its address. -/
theorem copyCheck_bld (b S : Nat) (bs : List Value) (w : World) (h : Bld w b S bs) :
    Calls Tryd.prog 57 #[.pointer (some ⟨b, 0, none⟩)] w fun e w' => e = .returned (.tuple #[]) ∧ (∃ v, w'.heap[b]? = some (.cells #[.pointer (some ⟨b, 0, none⟩), v] 97 (0, 0)) ∧ w'.ownsRow S 5 1 v bs.length bs) ∧ BelB S b w w' := by
  obtain ⟨h1, h2, p, v, h3, h4, h5⟩ := h
  have c0 : w.cell? ⟨b, 0, none⟩ = some p := by rw [Lib.cell_of_heap h4]; rfl
  rcases h3 with rfl | rfl
  · refine (copyCheck_fresh b w c0 (by simp [World.shape?, h4]) (Lib.frozen_of_heap h4 0)).mono ?_
    rintro e w' ⟨rfl, rfl⟩
    exact ⟨rfl, ⟨v, by simp [World.setCell, Array.getElem?_modify, h4], ownsRow_setCell_below h5 h1 _⟩, bel_set⟩
  · refine (copyCheck_used b w c0).mono ?_
    rintro e w' ⟨rfl, rfl⟩
    exact ⟨rfl, ⟨v, h4, h5⟩, BelB.refl _ _ _⟩
/-- The new row is laid into the builder. -/
theorem bld_put {w1 w2 : World} {b S n : Nat} {v v' : Value} {bs bs' : List Value} (hs : b < S) (hS : S ≤ w1.heap.size) (h1 : w1.heap[b]? = some (.cells #[.pointer (some ⟨b, 0, none⟩), v] 97 (0, 0))) (hv : w1.ownsRow S 5 1 v n bs) (hg : w1.grownBy w2 v.ownBlock) (ho : w2.ownsRow S 5 1 v' bs'.length bs') :
    Bld (w2.setCell ⟨b, 1, none⟩ v') b S bs' ∧ BelB S b w1 (w2.setCell ⟨b, 1, none⟩ v') := by
  have hbl : Below S w1 w2 := (Below.refl _ _).grown hg hS (fun k hk => ((hv.lt k hk).1))
  have h2 : w2.heap[b]? = some (.cells #[.pointer (some ⟨b, 0, none⟩), v] 97 (0, 0)) := (hbl.block b hs).trans h1
  refine ⟨⟨hs, ?_, _, _, .inr rfl, ?_, ownsRow_setCell_below ho hs _⟩, (BelB.of hbl).trans bel_set⟩
  · have := hbl.size; simp; omega
  · simp [World.setCell, Array.getElem?_modify, h2]
set_option maxHeartbeats 2000000 in
set_option maxRecDepth 100000 in
theorem writeString_bld (b S : Nat) (bs : List Value) (s : ByteArray) (w : World) (h : Bld w b S bs) (hlen : bs.length + s.size ≤ 140737488355328) :
    Calls Tryd.prog 39 #[.pointer (some ⟨b, 0, none⟩), .string s] w fun e w' => e = .returned (.tuple #[.int .i64 s.size, .nilIface]) ∧ Bld w' b S (bs ++ Lib.strCells s) ∧ BelB S b w w' := by
  have hbS := h.1
  have hSw := h.2.1
  obtain ⟨i0, hi, hz0, hz1, hz2⟩ := info_parts Tryd.info5
  go_enter Tryd.func39, Tryd.ntmps39
  go_wp2_with fail
  refine (copyCheck_bld b S bs w h).mono ?_
  rintro e w1 ⟨rfl, ⟨v, hbk, hown⟩, hb1⟩
  have c1 : w1.cell? ⟨b, 1, none⟩ = some v := by rw [Lib.cell_of_heap hbk]; rfl
  have hs1 : S ≤ w1.heap.size := Nat.le_trans hSw hb1.2.2.2.1
  have HK := hid hbk
  have HB1 := hid hb1
  have HH := hid h
  clear hbk hb1 h
  go_wp2_with (at_builtin; refine Lib.wpList_append_own_string _ rfl _ _ 22 9 rfl S 5 i0 Tryd.underlying22 Tryd.underlying9 hi hz0 hz1 hz2 v bs.length bs rfl hown s rfl (by unfold maxLen; omega) (by omega) hs1 ?_; intro v' w2 hown' hgrow _; obtain ⟨av, cv, rfl⟩ := own_slice hown'; have HP := hid (bld_put (bs' := bs ++ Lib.strCells s) hbS hs1 HK.out hown hgrow (by rw [List.length_append, Lib.strCells_length]; exact hown')); have hb2 : Below S w1 w2 := (Below.refl _ _).grown hgrow hs1 (fun k hk => ((hown.lt k hk).1)); have hk2 := (hb2.block b hbS).trans HK.out; obtain ⟨d0, d1, f1⟩ := builder_facts hk2; clear hk2 hb2)
  go_ret2
  exact ⟨rfl, HP.out.1, HB1.out.trans HP.out.2⟩
theorem string_bld (b S : Nat) (l : List UInt8) (w : World) (h : Bld w b S (Lib.byteCells l)) :
    Calls Tryd.prog 41 #[.pointer (some ⟨b, 0, none⟩)] w fun e w' => e = .returned (.string ⟨l.toArray⟩) ∧ Below b w w' :=
  Tryd.Builder_String_any b b l w h.is (by have := h.lt; omega)
end Go.Proofs.YtobbinppkjmhhaaDoor
