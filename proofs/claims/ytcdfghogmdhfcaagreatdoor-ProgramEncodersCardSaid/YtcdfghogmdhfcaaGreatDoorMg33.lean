/-
  A text of lines, split at its ends of line, is the lines and an empty one.
  The lines of an encoder's cells.
  A strings.Builder beside other memory that was made behind it: rows of other types are left alone.
  Contracts of the library, laid at this translation by the kit (lay-shelf, lay-plain): a chosen part.
  Contracts of the library, laid at this translation by the kit (lay-shelf, lay-plain): a chosen part.
  Conditions: No line holds an end of line. No condition: plain laws. No condition beyond the length's bound of 2^47 bytes. No condition. No condition.
-/
import Derived.Test.YtcdfghogmdhfcaaGreatDoorCodeLaw
import Derived.Lib.SplitLaws
import Derived.Lib.IndexLaws
import Derived.Test.YtcdfghogmdhfcaaGreatDoorMg2
import Derived.Lib.Strings
import Derived.Lib.Join
import Derived.Lib.ItoaNum
import Derived.Test.YtcdfghogmdhfcaaGreatDoorMg28
import Derived.Test.YtcdfghogmdhfcaaGreatDoorMg10
import Derived.Shelf.Strings.Builder1
import Derived.Shelf.Strings.Builder2
import Derived.Shelf.Strings.OnBuilder
import Derived.Shelf.Strings.Trim
import Derived.Shelf.Small.Bits
import Derived.Shelf.Small.Strs
import Derived.Shelf.Strings.BuilderF
import Derived.Shelf.Strconv.Itoa0
import Derived.Shelf.Strconv.Itoa1
import Derived.Shelf.LaysM
import Derived.Shelf.Strconv.Itoa2
import Derived.Shelf.Strconv.Itoa3
import Derived.Shelf.Strings.Search1
import Derived.Shelf.Strings.Prefix
import Derived.Shelf.Strings.Runes
import Derived.Shelf.Strings.AsciiSet
import Derived.Shelf.Bits.Mul64
import Derived.Shelf.Strings.Repeat
import Derived.Ground.SlgfProg
import Derived.Shelf.SlicesE.IndexFunc
import Derived.Test.YtcdfghogmdhfcaaGreatDoorProg
namespace Go.Proofs.YtcdfghogmdhfcaaGreatDoor
set_option linter.unusedVariables false

def eol : ByteArray := ⟨#[10]⟩
/-- Lines, one behind the other. -/
def catL : List ByteArray → ByteArray
  | [] => ⟨#[]⟩
  | l :: r => (l ++ eol) ++ catL r
theorem index_line (l r : List UInt8) (h : (10 : UInt8) ∉ l) : Lib.index (l ++ 10 :: r) [10] = l.length := by
  induction l with
  | nil => simp [Lib.index]
  | cons c l ih =>
    have h1 : c ≠ 10 := fun e => h (by simp [e])
    have h2 := ih fun e => h (by simp [e])
    rw [List.cons_append, Lib.index, if_neg (by simp [List.isPrefixOf]; exact fun e => h1 e.symm), if_neg (by rw [h2, beq_iff_eq]; omega), h2]
    simp
theorem cat_data (l : ByteArray) (r : ByteArray) : ((l ++ eol) ++ r).data.toList = l.data.toList ++ 10 :: r.data.toList := by simp [eol]
theorem indexB_line {l r : ByteArray} (h : (10 : UInt8) ∉ l.data.toList) : Lib.indexB ((l ++ eol) ++ r) eol = (l.size : Nat) := by
  show Lib.index ((l ++ eol) ++ r).data.toList eol.data.toList = _
  rw [cat_data, show eol.data.toList = [10] from rfl, index_line _ _ h, ba_len]
theorem rest_line (l r : ByteArray) : ((l ++ eol) ++ r).extract (l.size + eol.size) ((l ++ eol) ++ r).size = r := by
  apply ba_ext
  rw [Lib.extract_to_end, cat_data, show eol.size = 1 from rfl, show l.data.toList ++ 10 :: r.data.toList = (l.data.toList ++ [10]) ++ r.data.toList by simp]
  exact List.drop_left' (by simp)
theorem head_line (l r : ByteArray) : ((l ++ eol) ++ r).extract 0 (l.size + 0) = l := by
  apply ba_ext
  rw [Lib.extract_data, cat_data]
  simp
theorem count_cat : ∀ {ls : List ByteArray}, (∀ l ∈ ls, (10 : UInt8) ∉ l.data.toList) → Lib.countB (catL ls) eol = ls.length
  | [], _ => by decide
  | l :: r, h => by
    rw [catL, Lib.countB_hit _ _ l.size (by decide) (indexB_line (h l (by simp))), rest_line, count_cat fun x hx => h x (by simp [hx])]
    simp; omega
theorem split_cat : ∀ {ls : List ByteArray}, (∀ l ∈ ls, (10 : UInt8) ∉ l.data.toList) → Lib.splitB eol 0 ls.length (catL ls) = ls ++ [⟨#[]⟩]
  | [], _ => rfl
  | l :: r, h => by
    rw [catL, List.length_cons, Lib.splitB_hit _ _ _ _ l.size (indexB_line (h l (by simp))), rest_line, head_line, split_cat fun x hx => h x (by simp [hx])]
    rfl
end Go.Proofs.YtcdfghogmdhfcaaGreatDoor

namespace Go.Proofs.YtcdfghogmdhfcaaGreatDoor
open Go.RowKit
set_option linter.unusedVariables false

/-- A number in digits. -/
def decB (k : Int) : ByteArray := ⟨(Lib.decDigits k.toNat).toArray⟩
def spc : ByteArray := ⟨#[32]⟩
theorem dec_low {k : Nat} (h : k < 10) : (Lib.decDigits k).length = 1 ∧ (10 : UInt8) ∉ Lib.decDigits k := by
  have h2 := List.all_eq_true.1 (show (List.range 10).all (fun k => decide ((Lib.decDigits k).length = 1 ∧ (10 : UInt8) ∉ Lib.decDigits k)) = true by decide +kernel) k (List.mem_range.2 h)
  exact of_decide_eq_true h2
theorem decB_low {k : Int} (h0 : 0 ≤ k) (h : k < 10) : (decB k).size = 1 ∧ (10 : UInt8) ∉ (decB k).data.toList := by
  have := dec_low (k := k.toNat) (by omega)
  unfold decB
  exact ⟨by rw [← ba_len]; simpa using this.1, by simpa using this.2⟩
/-- A line: two numbers, a word, a number. -/
def lineC (s i : Int) (c : Cl) : ByteArray := (((((decB s ++ spc) ++ decB i) ++ spc) ++ c.word) ++ spc) ++ decB c.st
theorem join4 (a b c d : ByteArray) : (⟨(Lib.join ([a, b, c, d].map (·.data.toList)) spc.data.toList).toArray⟩ : ByteArray) = (((((a ++ spc) ++ b) ++ spc) ++ c) ++ spc) ++ d := by
  apply ba_ext
  simp [Lib.join, List.intercalate, spc]
def noC : Cl := ⟨0, ⟨#[]⟩⟩
def cellAt (rows : List (List Cl)) (s i : Nat) : Cl := (rows.getD s []).getD i noC
theorem cellAt_eq {rows : List (List Cl)} {s i : Nat} {row : List Cl} {x : Cl} (h1 : rows[s]? = some row) (h2 : row[i]? = some x) : cellAt rows s i = x := by
  unfold cellAt
  rw [List.getD_eq_getElem?_getD, List.getD_eq_getElem?_getD, h1]
  simp [h2]
/-- The line of each cell, by its number. -/
def lineM (rows : List (List Cl)) (q m : Nat) : ByteArray := lineC ((m / q : Nat) : Int) ((m % q : Nat) : Int) (cellAt rows (m / q) (m % q))
def linesTo (rows : List (List Cl)) (q m : Nat) : List ByteArray := (List.range m).map (lineM rows q)
theorem linesTo_len (rows : List (List Cl)) (q m : Nat) : (linesTo rows q m).length = m := by simp [linesTo]
theorem linesTo_succ (rows : List (List Cl)) (q m : Nat) : linesTo rows q (m + 1) = linesTo rows q m ++ [lineM rows q m] := by simp [linesTo, List.range_succ]
theorem linesTo_get {rows : List (List Cl)} {q m j : Nat} (h : j < m) : (linesTo rows q m)[j]? = some (lineM rows q j) := by simp [linesTo, h]
theorem lineM_at {rows : List (List Cl)} {q s i : Nat} {row : List Cl} {x : Cl} (hi : i < q) (h1 : rows[s]? = some row) (h2 : row[i]? = some x) : lineM rows q (s * q + i) = lineC s i x := by
  unfold lineM
  have e1 : (s * q + i) / q = s := by rw [Nat.mul_comm, Nat.mul_add_div (by omega), Nat.div_eq_of_lt hi, Nat.add_zero]
  have e2 : (s * q + i) % q = i := by rw [Nat.mul_comm, Nat.mul_add_mod, Nat.mod_eq_of_lt hi]
  rw [e1, e2, cellAt_eq h1 h2]
theorem catL_snoc : ∀ (ls : List ByteArray) (l : ByteArray), catL (ls ++ [l]) = catL ls ++ (l ++ eol)
  | [], l => by apply ba_ext; simp [catL]
  | x :: r, l => by
    rw [List.cons_append, catL, catL, catL_snoc r l]
    apply ba_ext; simp
theorem catL_size : ∀ {ls : List ByteArray}, (∀ l ∈ ls, l.size ≤ 60) → (catL ls).size ≤ ls.length * 61
  | [], _ => by decide
  | x :: r, h => by
    have h1 := catL_size (ls := r) fun l hl => h l (by simp [hl])
    have h2 := h x (by simp)
    rw [catL, ByteArray.size_append, ByteArray.size_append, List.length_cons, show eol.size = 1 from rfl]
    omega
theorem no_eol {q : Int} {s : ByteArray} (h : wordErr q s = 0) : (10 : UInt8) ∉ s.data.toList := by
  obtain ⟨_, _, _, h4⟩ := wordErr_zero.1 h
  intro hc
  have := okWord_at h4 hc
  have h10 : digit 10 = -1 := by decide
  rw [h10] at this
  exact absurd this.1 (by decide)
/-- A valid encoder that is not large: its lines. -/
structure Small (q bl inp : Int) (rows : List (List Cl)) : Prop where
  v : EncV q bl inp rows
  n6 : rows.length ≤ 6
  i6 : inp ≤ 6
theorem Small.line {q bl inp : Int} {rows : List (List Cl)} (h : Small q bl inp rows) {s i : Nat} {row : List Cl} {x : Cl} (h1 : rows[s]? = some row) (h2 : row[i]? = some x) : (lineC s i x).size ≤ 60 ∧ (10 : UInt8) ∉ (lineC s i x).data.toList ∧ 0 ≤ x.st ∧ x.st < 10 ∧ s < 10 ∧ i < 10 := by
  have hm := List.mem_of_getElem? h1
  have hx := List.mem_of_getElem? h2
  have hs := (List.getElem?_eq_some_iff.1 h1).1
  have hi := (List.getElem?_eq_some_iff.1 h2).1
  have g1 := h.n6
  have g2 := h.i6
  have g3 := h.v.len row hm
  have g4 := h.v.to0 row hm x hx
  have g5 := h.v.to1 row hm x hx
  have g6 := h.v.sz row hm x hx
  have g7 := h.v.b16
  have g8 := no_eol (h.v.wd row hm x hx)
  obtain ⟨a1, a2⟩ := decB_low (k := (s : Int)) (by omega) (by omega)
  obtain ⟨b1, b2⟩ := decB_low (k := (i : Int)) (by omega) (by omega)
  obtain ⟨c1, c2⟩ := decB_low (k := x.st) g4 (by omega)
  refine ⟨?_, ?_, g4, by omega, by omega, by omega⟩
  · unfold lineC
    simp only [ByteArray.size_append, a1, b1, c1, show spc.size = 1 from rfl]
    omega
  · unfold lineC
    simp only [ByteArray.toList_data_append, List.mem_append, not_or]
    have hsp : (10 : UInt8) ∉ spc.data.toList := by decide
    exact ⟨⟨⟨⟨⟨⟨a2, hsp⟩, b2⟩, hsp⟩, g8⟩, hsp⟩, c2⟩
theorem Small.all {q bl : Int} {I : Nat} {rows : List (List Cl)} (h : Small q bl (I : Int) rows) {m : Nat} (hm : m ≤ rows.length * I) : ∀ l ∈ linesTo rows I m, l.size ≤ 60 ∧ (10 : UInt8) ∉ l.data.toList := by
  intro l hl
  obtain ⟨j, hj, rfl⟩ := List.mem_map.1 hl
  have hj' : j < rows.length * I := Nat.lt_of_lt_of_le (List.mem_range.1 hj) hm
  have hI : 0 < I := by have := h.v.i1; omega
  have hs : j / I < rows.length := (Nat.div_lt_iff_lt_mul hI).2 hj'
  have hi : j % I < I := Nat.mod_lt _ hI
  obtain ⟨row, h1⟩ := some_of_lt hs
  have hrl := h.v.len row (List.mem_of_getElem? h1)
  obtain ⟨x, h2⟩ := some_of_lt (show j % I < row.length by omega)
  have e := lineM_at hi h1 h2
  rw [Nat.div_add_mod' j I] at e
  rw [e]
  have := h.line h1 h2
  exact ⟨this.1, this.2.1⟩
theorem Small.text {q bl : Int} {I : Nat} {rows : List (List Cl)} (h : Small q bl (I : Int) rows) {m : Nat} (hm : m ≤ rows.length * I) : (catL (linesTo rows I m)).size ≤ 2196 := by
  have h1 := catL_size (ls := linesTo rows I m) fun l hl => (h.all hm l hl).1
  rw [linesTo_len] at h1
  have h2 := h.n6
  have h3 := h.i6
  have h4 : rows.length * I ≤ 6 * 6 := Nat.mul_le_mul h2 (by omega)
  omega
end Go.Proofs.YtcdfghogmdhfcaaGreatDoor

namespace Go.Proofs.YtcdfghogmdhfcaaGreatDoor
open Go.RowKit
set_option linter.unusedVariables false

theorem own_block8 {w : World} {base : Nat} {e : TypeId} {sz : Nat} {v : Value} {n : Nat} {xs : List Value} (h : w.ownsRow base e sz v n xs) {g : Nat} (hg : v.ownBlock = some g) : ∃ cs fl, w.heap[g]? = some (.cells cs e fl) := by
  rcases h.2 with ⟨hv, h0⟩ | ⟨g', cap, cur, hv, _, hc, _⟩
  · rw [hv] at hg; cases hg
  · rw [hv] at hg
    obtain rfl : g' = g := by simpa [Value.ownBlock] using hg
    exact ⟨_, _, hc⟩
/-- Nothing but the builder and rows of bytes has turned. -/
def BelT (b : Nat) (w w' : World) : Prop := w.heap.size ≤ w'.heap.size ∧ ∀ k, k < w.heap.size → k ≠ b → (∀ cs fl, w.heap[k]? ≠ some (.cells cs 5 fl)) → w'.heap[k]? = w.heap[k]?
theorem BelT.refl (b : Nat) (w : World) : BelT b w w := ⟨Nat.le_refl _, fun _ _ _ _ => rfl⟩
theorem BelT.trans {b : Nat} {w1 w2 w3 : World} (h : BelT b w1 w2) (k : BelT b w2 w3) : BelT b w1 w3 :=
  ⟨Nat.le_trans h.1 k.1, fun j hj hb ht => by
    have e := h.2 j hj hb ht
    rw [k.2 j (Nat.lt_of_lt_of_le hj h.1) hb (by rw [e]; exact ht), e]⟩
theorem BelT.below {b : Nat} {w w' : World} (h : Below w.heap.size w w') : BelT b w w' := ⟨h.size, fun k hk _ _ => h.block k hk⟩
theorem BelT.set {b : Nat} {w : World} {i : Nat} {v : Value} : BelT b w (w.setCell ⟨b, i, none⟩ v) := ⟨by simp, fun k _ hk _ => Below.heap_setCell _ _ _ _ (fun e => hk (by simp [e]))⟩
theorem BelT.grown {b S n : Nat} {w w' : World} {v : Value} {bs : List Value} (ho : w.ownsRow S 5 1 v n bs) (hg : w.grownBy w' v.ownBlock) : BelT b w w' :=
  ⟨hg.size, fun k hk _ ht => hg.block k hk fun e => by obtain ⟨cs, fl, hc⟩ := own_block8 ho e.symm; exact ht cs fl hc⟩
theorem BelT.cell {b : Nat} {w w' : World} (h : BelT b w w') {a : Addr} {v : Value} {cs : Array Value} {T : TypeId} {fl : Nat × Nat} (hc : w.cell? a = some v) (hk : w.heap[a.block]? = some (.cells cs T fl)) (hT : T ≠ 5) (hb : a.block ≠ b) : w'.cell? a = some v := by
  have hlt : a.block < w.heap.size := (Array.getElem?_eq_some_iff.1 hk).1
  have := h.2 a.block hlt hb (fun cs' fl' e => by rw [hk] at e; simp only [Option.some.injEq, Obj.cells.injEq] at e; exact hT e.2.1)
  unfold World.cell? at hc ⊢
  rw [this]; exact hc
/-- copyCheck: the builder knows its address. -/
theorem copyCheck_bldt (b S : Nat) (bs : List Value) (w : World) (h : Bld w b S bs) :
    Calls Tryz.prog 60 #[.pointer (some ⟨b, 0, none⟩)] w fun e w' => e = .returned (.tuple #[]) ∧ (∃ v, w'.heap[b]? = some (.cells #[.pointer (some ⟨b, 0, none⟩), v] 71 (0, 0)) ∧ w'.ownsRow S 5 1 v bs.length bs) ∧ BelB S b w w' ∧ BelT b w w' := by
  obtain ⟨h1, h2, p, v, h3, h4, h5⟩ := h
  have c0 : w.cell? ⟨b, 0, none⟩ = some p := by rw [Lib.cell_of_heap h4]; rfl
  rcases h3 with rfl | rfl
  · refine (copyCheck_fresh b w c0 (by simp [World.shape?, h4]) (Lib.frozen_of_heap h4 0)).mono ?_
    rintro e w' ⟨rfl, rfl⟩
    exact ⟨rfl, ⟨v, by simp [World.setCell, Array.getElem?_modify, h4], ownsRow_setCell_below h5 h1 _⟩, bel_set, BelT.set⟩
  · refine (copyCheck_used b w c0).mono ?_
    rintro e w' ⟨rfl, rfl⟩
    exact ⟨rfl, ⟨v, h4, h5⟩, BelB.refl _ _ _, BelT.refl _ _⟩
/-- The new row is laid into the builder. -/
theorem bld_putt {w1 w2 : World} {b S n : Nat} {v v' : Value} {bs bs' : List Value} (hs : b < S) (hS : S ≤ w1.heap.size) (h1 : w1.heap[b]? = some (.cells #[.pointer (some ⟨b, 0, none⟩), v] 71 (0, 0))) (hv : w1.ownsRow S 5 1 v n bs) (hg : w1.grownBy w2 v.ownBlock) (ho : w2.ownsRow S 5 1 v' bs'.length bs') :
    Bld (w2.setCell ⟨b, 1, none⟩ v') b S bs' ∧ BelB S b w1 (w2.setCell ⟨b, 1, none⟩ v') ∧ BelT b w1 (w2.setCell ⟨b, 1, none⟩ v') := by
  have hbl : Below S w1 w2 := (Below.refl _ _).grown hg hS (fun k hk => ((hv.lt k hk).1))
  have h2 : w2.heap[b]? = some (.cells #[.pointer (some ⟨b, 0, none⟩), v] 71 (0, 0)) := (hbl.block b hs).trans h1
  refine ⟨⟨hs, ?_, _, _, .inr rfl, ?_, ownsRow_setCell_below ho hs _⟩, (BelB.of hbl).trans bel_set, (BelT.grown hv hg).trans BelT.set⟩
  · have := hbl.size; simp; omega
  · simp [World.setCell, Array.getElem?_modify, h2]
set_option maxHeartbeats 2000000 in
set_option maxRecDepth 100000 in
theorem writeByte_bldt (b S : Nat) (bs : List Value) (c : Int) (w : World) (h : Bld w b S bs) (hlen : bs.length + 1 ≤ 140737488355328) :
    Calls Tryz.prog 41 #[.pointer (some ⟨b, 0, none⟩), .int .u8 c] w fun e w' => e = .returned .nilIface ∧ Bld w' b S (bs ++ [.int .u8 c]) ∧ BelB S b w w' ∧ BelT b w w' := by
  have hbS := h.1
  have hSw := h.2.1
  go_enter Tryz.func41, Tryz.ntmps41
  go_wp2_with fail
  refine (copyCheck_bldt b S bs w h).mono ?_
  rintro e w1 ⟨rfl, ⟨v, hbk, hown⟩, hb1, ht1⟩
  have c1 : w1.cell? ⟨b, 1, none⟩ = some v := by rw [Lib.cell_of_heap hbk]; rfl
  have hs1 : S ≤ w1.heap.size := Nat.le_trans hSw hb1.2.2.2.1
  have HK := hid hbk
  have HB1 := hid hb1
  have HT1 := hid ht1
  have HH := hid h
  clear hbk hb1 ht1 h
  go_wp2_with (at_builtin; refine wpList_push w1 rfl _ _ 54 rfl S 5 (.int .u8 0) 1 1 Tryz.underlying54 Tryz.info5 rfl (by decide) v bs.length bs rfl hown #[.int .u8 c] rfl (oneCell_int _ _) rfl (by unfold maxLen; omega) (by omega) hs1 ?_; intro g cap w2 hown' hgrow hb2; have HP := hid (bld_putt (bs' := bs ++ [.int .u8 c]) hbS hs1 HK.out hown hgrow (by simpa using hown')); have hk2 := (hb2.block b hbS).trans HK.out; obtain ⟨d0, d1, f1⟩ := builder_facts hk2; clear hk2)
  go_ret
  exact ⟨rfl, HP.out.1, HB1.out.trans HP.out.2.1, HT1.out.trans HP.out.2.2⟩
set_option maxHeartbeats 2000000 in
set_option maxRecDepth 100000 in
theorem writeString_bldt (b S : Nat) (bs : List Value) (s : ByteArray) (w : World) (h : Bld w b S bs) (hlen : bs.length + s.size ≤ 140737488355328) :
    Calls Tryz.prog 29 #[.pointer (some ⟨b, 0, none⟩), .string s] w fun e w' => e = .returned (.tuple #[.int .i64 s.size, .nilIface]) ∧ Bld w' b S (bs ++ Lib.strCells s) ∧ BelB S b w w' ∧ BelT b w w' := by
  have hbS := h.1
  have hSw := h.2.1
  obtain ⟨i0, hi, hz0, hz1, hz2⟩ := info_parts Tryz.info5
  go_enter Tryz.func29, Tryz.ntmps29
  go_wp2_with fail
  refine (copyCheck_bldt b S bs w h).mono ?_
  rintro e w1 ⟨rfl, ⟨v, hbk, hown⟩, hb1, ht1⟩
  have c1 : w1.cell? ⟨b, 1, none⟩ = some v := by rw [Lib.cell_of_heap hbk]; rfl
  have hs1 : S ≤ w1.heap.size := Nat.le_trans hSw hb1.2.2.2.1
  have HK := hid hbk
  have HB1 := hid hb1
  have HT1 := hid ht1
  have HH := hid h
  clear hbk hb1 ht1 h
  go_wp2_with (at_builtin; refine Lib.wpList_append_own_string _ rfl _ _ 54 9 rfl S 5 i0 Tryz.underlying54 Tryz.underlying9 hi hz0 hz1 hz2 v bs.length bs rfl hown s rfl (by unfold maxLen; omega) (by omega) hs1 ?_; intro v' w2 hown' hgrow _; obtain ⟨av, cv, rfl⟩ := own_slice hown'; have HP := hid (bld_putt (bs' := bs ++ Lib.strCells s) hbS hs1 HK.out hown hgrow (by rw [List.length_append, Lib.strCells_length]; exact hown')); have hb2 : Below S w1 w2 := (Below.refl _ _).grown hgrow hs1 (fun k hk => ((hown.lt k hk).1)); have hk2 := (hb2.block b hbS).trans HK.out; obtain ⟨d0, d1, f1⟩ := builder_facts hk2; clear hk2 hb2)
  go_ret2
  exact ⟨rfl, HP.out.1, HB1.out.trans HP.out.2.1, HT1.out.trans HP.out.2.2⟩
end Go.Proofs.YtcdfghogmdhfcaaGreatDoor

namespace Go.Proofs
open Go.Shelf
def Tryz.lays170_ren : Go.Shelf.Ren := ⟨fun | 170 => 32 | n => n, fun | 70 => 69 | 3 => 3 | 0 => 0 | 72 => 71 | 37 => 54 | 5 => 5 | n => n, fun | n => n⟩
theorem Tryz.lays170 : Go.Proofs.Lays.n170 Tryz.prog Tryz.lays170_ren := {
  mixed := by kernel_rfl
  f170 := Tryz.func32.trans (congrArg some (by kernel_rfl))
  t0 := Tryz.underlying0
  a0 := Tryz.isAgg0
  z0 := Tryz.sizeOf0
  v0 := Tryz.zeroValue0
  t3 := Tryz.underlying3
  a3 := Tryz.isAgg3
  z3 := Tryz.sizeOf3
  v3 := Tryz.zeroValue3
  t37 := Tryz.underlying54
  a37 := Tryz.isAgg54
  z37 := Tryz.sizeOf54
  v37 := Tryz.zeroValue54
  t70 := Tryz.underlying69
  a70 := Tryz.isAgg69
  z70 := Tryz.sizeOf69
  v70 := Tryz.zeroValue69
  t72 := Tryz.underlying71
  a72 := Tryz.isAgg71
  z72 := Tryz.sizeOf71
  v72 := Tryz.zeroValue71 }
open Go.RowKit in
theorem Tryz.Builder_Len (B b : Nat) (bs : List Value) (w : World) (h : Lib.IsBuilder 71 5 B b bs w) :
    Calls Tryz.prog 32 #[.pointer (some ⟨b, 0, none⟩)] w fun e w' => e = .returned (.int .i64 bs.length) ∧ w' = w := Any.Builder_Len Tryz.lays170 B b bs w h
end Go.Proofs

namespace Go.Proofs
open Go.Shelf
def Tryz.lays156_ren : Go.Shelf.Ren := ⟨fun | 156 => 30 | 165 => 52 | 166 => 29 | 169 => 33 | 240 => 60 | 241 => 89 | 276 => 91 | 277 => 101 | n => n, fun | 31 => 78 | 9 => 9 | 3 => 3 | 4 => 4 | 0 => 0 | 20 => 20 | 72 => 71 | 76 => 74 | 70 => 69 | 37 => 54 | 75 => 73 | 127 => 121 | 164 => 145 | 5 => 5 | 80 => 80 | n => n, fun | n => n⟩
theorem Tryz.lays156 : Go.Proofs.Lays.n156 Tryz.prog Tryz.lays156_ren := {
  mixed := by kernel_rfl
  f156 := Tryz.func30.trans (congrArg some (by kernel_rfl))
  f165 := Tryz.func52.trans (congrArg some (by kernel_rfl))
  f166 := Tryz.func29.trans (congrArg some (by kernel_rfl))
  f169 := Tryz.func33.trans (congrArg some (by kernel_rfl))
  f240 := Tryz.func60.trans (congrArg some (by kernel_rfl))
  f241 := Tryz.func89.trans (congrArg some (by kernel_rfl))
  f276 := Tryz.func91.trans (congrArg some (by kernel_rfl))
  f277 := Tryz.func101.trans (congrArg some (by kernel_rfl))
  t0 := Tryz.underlying0
  a0 := Tryz.isAgg0
  z0 := Tryz.sizeOf0
  v0 := Tryz.zeroValue0
  t3 := Tryz.underlying3
  a3 := Tryz.isAgg3
  z3 := Tryz.sizeOf3
  v3 := Tryz.zeroValue3
  t4 := Tryz.underlying4
  a4 := Tryz.isAgg4
  z4 := Tryz.sizeOf4
  v4 := Tryz.zeroValue4
  t9 := Tryz.underlying9
  a9 := Tryz.isAgg9
  z9 := Tryz.sizeOf9
  v9 := Tryz.zeroValue9
  t20 := Tryz.underlying20
  a20 := Tryz.isAgg20
  z20 := Tryz.sizeOf20
  v20 := Tryz.zeroValue20
  t31 := Tryz.underlying78
  a31 := Tryz.isAgg78
  z31 := Tryz.sizeOf78
  v31 := Tryz.zeroValue78
  t37 := Tryz.underlying54
  a37 := Tryz.isAgg54
  z37 := Tryz.sizeOf54
  v37 := Tryz.zeroValue54
  t70 := Tryz.underlying69
  a70 := Tryz.isAgg69
  z70 := Tryz.sizeOf69
  v70 := Tryz.zeroValue69
  t72 := Tryz.underlying71
  a72 := Tryz.isAgg71
  z72 := Tryz.sizeOf71
  v72 := Tryz.zeroValue71
  t75 := Tryz.underlying73
  a75 := Tryz.isAgg73
  z75 := Tryz.sizeOf73
  v75 := Tryz.zeroValue73
  t76 := Tryz.underlying74
  a76 := Tryz.isAgg74
  z76 := Tryz.sizeOf74
  v76 := Tryz.zeroValue74
  t127 := Tryz.underlying121
  a127 := Tryz.isAgg121
  z127 := Tryz.sizeOf121
  v127 := Tryz.zeroValue121
  t164 := Tryz.underlying145
  a164 := Tryz.isAgg145
  z164 := Tryz.sizeOf145
  v164 := Tryz.zeroValue145 }
theorem Tryz.Builder_Extra_156 : Builder.Extra Tryz.prog Tryz.lays156_ren := {
  sizeBuilder := by kernel_rfl
  liesBuilder := by kernel_rfl
  t5 := Tryz.underlying5
  a5 := Tryz.isAgg5
  z5 := Tryz.sizeOf5
  v5 := Tryz.zeroValue5
  infoByte := by kernel_rfl
  cellsByte := by kernel_rfl
  sizeByte := by kernel_rfl
  neB5 := by decide }
open Go.RowKit in
theorem Tryz.strings_Join (bk o c : Nat) (xs : List ByteArray) (sep : ByteArray) (w : World) (hcells : ∀ (j : Nat) x, xs[j]? = some x → w.cell? ⟨bk, o + j, none⟩ = some (.string x)) (hbk : bk < w.heap.size) (hN : xs.length ≤ 140737488355328) (hcap : xs.length ≤ c) (hlen : (Lib.join (xs.map (·.data.toList)) sep.data.toList).length ≤ 140737488355328) :
    Calls Tryz.prog 30 #[.slice (some ⟨bk, o, none⟩) xs.length c, .string sep] w fun e w' => e = .returned (.string ⟨(Lib.join (xs.map (·.data.toList)) sep.data.toList).toArray⟩) ∧ Below w.heap.size w w' := Any.strings_Join Tryz.lays156 Tryz.Builder_Extra_156 bk o c xs sep w hcells hbk hN hcap hlen
end Go.Proofs
