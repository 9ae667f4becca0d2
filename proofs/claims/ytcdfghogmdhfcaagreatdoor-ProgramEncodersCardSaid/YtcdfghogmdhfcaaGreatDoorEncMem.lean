/-
  The truth tables of program.Encoder in memory, and while they are filled.
  'string(b)' at a row of bytes; what a call of the maker leaves of the tables.
  What the loop over the tables keeps: the maker, the outputs, the tables.
  Conditions: No condition: plain laws, and how rows of bytes lie in memory. No condition: these are general lemmas. No condition: general lemmas, and maker.bit at a whole table.
-/
import Derived.Test.YtcdfghogmdhfcaaGreatDoorEncCel
import Derived.Test.YtcdfghogmdhfcaaGreatDoorMakMem
import Derived.Laws.BytesString
import Derived.Test.YtcdfghogmdhfcaaGreatDoorMakAlg
namespace Go.Proofs.YtcdfghogmdhfcaaGreatDoor
open Go.RowKit Go.Deep
set_option linter.unusedVariables false

/-- A row of bytes that a string has become. -/
def BRow (w : World) (g SZ : Nat) (f : Nat → UInt8) : Prop := ∃ cur K, w.heap[g]? = some (.cells cur 5 (K, K + 1)) ∧ cur.size = K ∧ SZ ≤ K ∧ ∀ m, m < SZ → cur[m]? = some (.int .u8 ((f m).toNat : Int))
theorem BRow.lt {w : World} {g SZ : Nat} {f : Nat → UInt8} (h : BRow w g SZ f) : g < w.heap.size := by
  obtain ⟨cur, K, h1, _⟩ := h
  exact (Array.getElem?_eq_some_iff.1 h1).1
theorem BRow.of_block {w w' : World} {g SZ : Nat} {f : Nat → UInt8} (h : BRow w g SZ f) (hb : w'.heap[g]? = w.heap[g]?) : BRow w' g SZ f := by
  obtain ⟨cur, K, h1, h2⟩ := h
  exact ⟨cur, K, hb.trans h1, h2⟩
theorem BRow.below {w w' : World} {g SZ : Nat} {f : Nat → UInt8} (h : BRow w g SZ f) (hb : Below w.heap.size w w') : BRow w' g SZ f := h.of_block (hb.block g h.lt)
theorem BRow.congr {w : World} {g SZ : Nat} {f f' : Nat → UInt8} (h : BRow w g SZ f) (e : ∀ m < SZ, f m = f' m) : BRow w g SZ f' := by
  obtain ⟨cur, K, h1, h2, h3, h4⟩ := h
  exact ⟨cur, K, h1, h2, h3, fun m hm => by rw [h4 m hm, e m hm]⟩
theorem BRow.cell {w : World} {g SZ : Nat} {f : Nat → UInt8} (h : BRow w g SZ f) {m : Nat} (hm : m < SZ) : w.cell? ⟨g, m, none⟩ = some (.int .u8 ((f m).toNat : Int)) ∧ w.frozen? ⟨g, m, none⟩ = false := by
  obtain ⟨cur, K, h1, h2, h3, h4⟩ := h
  refine ⟨?_, ?_⟩
  · rw [Lib.cell_of_heap h1]; exact h4 m hm
  · unfold World.frozen?
    simp only [h1]
    simp; omega
theorem BRow.set {w : World} {g SZ : Nat} {f : Nat → UInt8} (h : BRow w g SZ f) (m0 : Nat) (c : UInt8) : BRow (w.setCell ⟨g, m0, none⟩ (.int .u8 (c.toNat : Int))) g SZ (fun m => if m = m0 then c else f m) := by
  obtain ⟨cur, K, h1, h2, h3, h4⟩ := h
  refine ⟨cur.setIfInBounds m0 (.int .u8 (c.toNat : Int)), K, ?_, by simp [h2], h3, fun m hm => ?_⟩
  · have hlt := (Array.getElem?_eq_some_iff.1 h1).1
    simp [World.setCell, Array.getElem?_modify, h1]
  · rw [Array.getElem?_setIfInBounds]
    by_cases e : m = m0
    · subst e; rw [if_pos rfl, if_pos (by omega)]; simp
    · rw [if_neg (fun h => e h.symm), h4 m hm]; dsimp only; rw [if_neg e]
theorem BRow.setOther {w : World} {g SZ : Nat} {f : Nat → UInt8} (h : BRow w g SZ f) {a : Addr} (ha : g ≠ a.block) (v : Value) : BRow (w.setCell a v) g SZ f := h.of_block (Below.heap_setCell _ _ _ _ ha)
/-- '[]byte(x)', the row as it lies. -/
theorem conv_row (w : World) (x : ByteArray) (hx : x.size ≤ maxLen) (f : Nat → UInt8) (hf : ∀ (m : Nat), m < x.size → x.data.toList[m]? = some (f m)) : ∃ w' cap, (convert 9 54 (.string x)).run Tryz.prog w = .ok (.slice (some ⟨w.heap.size, 0, none⟩) x.size cap) w' ∧ Below w.heap.size w w' ∧ x.size ≤ cap ∧ cap ≤ maxLen ∧ BRow w' w.heap.size x.size f := by
  refine ⟨_, _, Lib.run_convert_string_bytes (P := Tryz.prog) w 9 54 5 x Tryz.underlying9 Tryz.underlying54 Tryz.underlying5, ?_, grownCap_ge _ _ _ _, grownCap_le_maxLen _ _ _ _ hx, ?_⟩
  · exact ⟨rfl, rfl, rfl, by rw [Lib.bytesWorld_size]; omega, fun k hk => Lib.bytesWorld_at_old w _ x k hk⟩
  · refine ⟨_, _, Lib.bytesWorld_at_new w _ x, rfl, ?_, fun m hm => ?_⟩
    · unfold Lib.bytesCells; rw [Array.size_append, Array.size_map]; exact Nat.le_add_right _ _
    · have := Lib.bytesWorld_cell w 5 x m hm
      rw [Lib.cell_of_heap (Lib.bytesWorld_at_new w 5 x)] at this
      rw [List.getD_eq_getElem?_getD, hf m hm] at this
      exact this
/-- The tables: their rows. -/
structure TBS (w : World) (B bt O SZ : Nat) (g cp : Nat → Nat) (f : Nat → Nat → UInt8) (k : Nat) : Prop where
  o : w.rowIs bt 54 O (fun i => if i < k then .slice (some ⟨g i, 0, none⟩) SZ (cp i) else .slice none 0 0)
  hb : B ≤ bt
  r : ∀ i < k, BRow w (g i) SZ (f i) ∧ B ≤ g i ∧ g i ≠ bt ∧ SZ ≤ cp i ∧ cp i ≤ maxLen
  inj : ∀ i < k, ∀ j < k, g i = g j → i = j
theorem TBS.below {w w' : World} {B bt O SZ k : Nat} {g cp : Nat → Nat} {f : Nat → Nat → UInt8} (h : TBS w B bt O SZ g cp f k) (hb : Below w.heap.size w w') : TBS w' B bt O SZ g cp f k :=
  ⟨h.o.of_block (hb.block bt h.o.lt), h.hb, fun i hi => ⟨(h.r i hi).1.below hb, (h.r i hi).2⟩, h.inj⟩
theorem TBS.congr {w : World} {B bt O SZ k : Nat} {g cp : Nat → Nat} {f f' : Nat → Nat → UInt8} (h : TBS w B bt O SZ g cp f k) (e : ∀ i < k, ∀ m < SZ, f i m = f' i m) : TBS w B bt O SZ g cp f' k :=
  ⟨h.o, h.hb, fun i hi => ⟨(h.r i hi).1.congr (e i hi), (h.r i hi).2⟩, h.inj⟩
/-- A byte of a table. -/
theorem TBS.set {w : World} {B bt O SZ k : Nat} {g cp : Nat → Nat} {f : Nat → Nat → UInt8} (h : TBS w B bt O SZ g cp f k) {i0 : Nat} (hi : i0 < k) (m0 : Nat) (c : UInt8) : TBS (w.setCell ⟨g i0, m0, none⟩ (.int .u8 (c.toNat : Int))) B bt O SZ g cp (fun i m => if i = i0 ∧ m = m0 then c else f i m) k := by
  refine ⟨h.o.setOther (by show bt ≠ g i0; exact (h.r i0 hi).2.2.1.symm) _, h.hb, fun i hik => ⟨?_, (h.r i hik).2⟩, h.inj⟩
  by_cases e : i = i0
  · subst e
    exact ((h.r i hik).1.set m0 c).congr fun m _ => by simp
  · exact ((h.r i hik).1.setOther (by show g i ≠ g i0; exact fun h2 => e (h.inj i hik i0 hi h2)) _).congr fun m _ => by simp [e]
/-- A table more. -/
theorem TBS.push {w w' : World} {B bt O SZ k gn cn : Nat} {g cp : Nat → Nat} {f : Nat → Nat → UInt8} (h : TBS w B bt O SZ g cp f k) (hk : k < O) (hb : Below w.heap.size w w') (hg : w.heap.size ≤ gn) (hB : B ≤ w.heap.size) (hr : BRow w' gn SZ (f k)) (h1 : SZ ≤ cn) (h2 : cn ≤ maxLen) :
    TBS (w'.setCell ⟨bt, k, none⟩ (.slice (some ⟨gn, 0, none⟩) SZ cn)) B bt O SZ (fun i => if i = k then gn else g i) (fun i => if i = k then cn else cp i) f (k + 1) := by
  have hbt := h.o.lt
  refine ⟨((h.o.of_block (hb.block bt hbt)).set k _).congr fun i _ => ?_, h.hb, fun i hi => ?_, fun i hi j hj e => ?_⟩
  · by_cases e : i = k
    · subst e; simp
    · by_cases e2 : i < k
      · simp [e, e2, Nat.lt_succ_of_lt e2]
      · simp [e, e2]; omega
  · by_cases e : i = k
    · subst e
      simp only [if_true]
      exact ⟨hr.setOther (by show gn ≠ bt; omega) _, by omega, by omega, h1, h2⟩
    · simp only [if_neg e]
      obtain ⟨a, b, c, d⟩ := h.r i (by omega)
      exact ⟨(a.below hb).setOther (by show g i ≠ bt; exact c) _, b, c, d⟩
  · by_cases e1 : i = k
    · by_cases e2 : j = k
      · omega
      · rw [if_pos e1, if_neg e2] at e
        have := (h.r j (by omega)).1.lt; omega
    · by_cases e2 : j = k
      · rw [if_neg e1, if_pos e2] at e
        have := (h.r i (by omega)).1.lt; omega
      · rw [if_neg e1, if_neg e2] at e
        exact h.inj i (by omega) j (by omega) e
/-- The tables while they are filled: rows below S, of row S the cells below K, of that cell the bits below J. -/
def tabAt (rows : List (List Cl)) (q n inp P S K J i m : Nat) : UInt8 :=
  if (m / P < n ∧ m % P < inp) ∧ (m / P < S ∨ (m / P = S ∧ (m % P < K ∨ (m % P = K ∧ i < J)))) then tabC ((cellBits q n ((rows.getD (m / P) []).getD (m % P) ⟨0, ⟨#[]⟩⟩)).getD i false) else 48
theorem tabAt_zero (rows : List (List Cl)) (q n inp P i m : Nat) : tabAt rows q n inp P 0 0 0 i m = 48 := by
  unfold tabAt
  generalize m / P = a
  generalize m % P = b
  rw [if_neg (by omega)]
theorem tabAt_cell {rows : List (List Cl)} {q n inp P S K J i m : Nat} (hJ : i < J) : tabAt rows q n inp P S K J i m = tabAt rows q n inp P S (K + 1) 0 i m := by
  unfold tabAt
  have : ((m / P < n ∧ m % P < inp) ∧ (m / P < S ∨ (m / P = S ∧ (m % P < K ∨ (m % P = K ∧ i < J))))) ↔ ((m / P < n ∧ m % P < inp) ∧ (m / P < S ∨ (m / P = S ∧ (m % P < K + 1 ∨ (m % P = K + 1 ∧ i < 0))))) := by generalize m / P = a; generalize m % P = b; omega
  simp only [this]
theorem tabAt_row {rows : List (List Cl)} {q n inp P S i m : Nat} : tabAt rows q n inp P S inp 0 i m = tabAt rows q n inp P (S + 1) 0 0 i m := by
  unfold tabAt
  have : ((m / P < n ∧ m % P < inp) ∧ (m / P < S ∨ (m / P = S ∧ (m % P < inp ∨ (m % P = inp ∧ i < 0))))) ↔ ((m / P < n ∧ m % P < inp) ∧ (m / P < S + 1 ∨ (m / P = S + 1 ∧ (m % P < 0 ∨ (m % P = 0 ∧ i < 0))))) := by generalize m / P = a; generalize m % P = b; omega
  simp only [this]
theorem tabAt_end {rows : List (List Cl)} {q n inp ib i m : Nat} : tabAt rows q n inp (2 ^ ib) n 0 0 i m = tabI rows q n inp ib i m := by
  unfold tabAt tabI
  have : ((m / 2 ^ ib < n ∧ m % 2 ^ ib < inp) ∧ (m / 2 ^ ib < n ∨ (m / 2 ^ ib = n ∧ (m % 2 ^ ib < 0 ∨ (m % 2 ^ ib = 0 ∧ i < 0))))) ↔ (m / 2 ^ ib < n ∧ m % 2 ^ ib < inp) := by generalize m / 2 ^ ib = a; generalize m % 2 ^ ib = b; omega
  simp only [this]
theorem tabAt_bit {rows : List (List Cl)} {q n inp P S K J i m : Nat} {row : List Cl} {x : Cl} (hS : S < n) (hK : K < inp) (hP : inp ≤ P) (h1 : rows[S]? = some row) (h2 : row[K]? = some x) :
    (if i = J ∧ m = S * P + K then tabC ((cellBits q n x).getD J false) else tabAt rows q n inp P S K J i m) = tabAt rows q n inp P S K (J + 1) i m := by
  have hp : 0 < P := by omega
  have key : m = S * P + K ↔ m / P = S ∧ m % P = K := by
    constructor
    · rintro rfl
      exact ⟨by rw [Nat.mul_comm, Nat.mul_add_div hp, Nat.div_eq_of_lt (by omega), Nat.add_zero], by rw [Nat.mul_comm, Nat.mul_add_mod, Nat.mod_eq_of_lt (by omega)]⟩
    · rintro ⟨rfl, rfl⟩
      exact (Nat.div_add_mod' m P).symm
  by_cases e : i = J ∧ m = S * P + K
  · obtain ⟨rfl, hm⟩ := e
    obtain ⟨d1, d2⟩ := key.1 hm
    rw [if_pos ⟨rfl, hm⟩]
    unfold tabAt
    have e : (rows.getD S []).getD K ⟨0, ⟨#[]⟩⟩ = x := by simp [List.getD_eq_getElem?_getD, h1, h2]
    rw [d1, d2, if_pos (by omega), e]
  · rw [if_neg e]
    rw [key] at e
    unfold tabAt
    have : ((m / P < n ∧ m % P < inp) ∧ (m / P < S ∨ (m / P = S ∧ (m % P < K ∨ (m % P = K ∧ i < J))))) ↔ ((m / P < n ∧ m % P < inp) ∧ (m / P < S ∨ (m / P = S ∧ (m % P < K ∨ (m % P = K ∧ i < J + 1))))) := by generalize m / P = a at *; generalize m % P = b at *; omega
    simp only [this]
end Go.Proofs.YtcdfghogmdhfcaaGreatDoor

namespace Go.Proofs.YtcdfghogmdhfcaaGreatDoor
open Go.RowKit Go.Deep
set_option linter.unusedVariables false

theorem push_list (ns : List Int) (s : ByteArray) : (ns.foldl (fun r n => r.push (UInt8.ofNat n.toNat)) s).data.toList = s.data.toList ++ ns.map fun n => UInt8.ofNat n.toNat := by
  induction ns generalizing s with
  | nil => simp
  | cons n t ih => rw [List.foldl_cons, ih]; simp
theorem conv_str (w : World) (g SZ c : Nat) (f : Nat → UInt8) (h : BRow w g SZ f) : (convert 54 9 (.slice (some ⟨g, 0, none⟩) SZ c)).run Tryz.prog w = .ok (.string (strB ((List.range SZ).map f))) w := by
  rw [run_convert_bytes_string w 54 9 5 _ _ _ Tryz.underlying54 Tryz.underlying5 Tryz.underlying9]
  rw [run_bytesToString w ⟨g, 0, none⟩ SZ c ((List.range SZ).map fun m => ((f m).toNat : Int)) ?_]
  · congr 2
    apply ba_ext
    rw [push_list]
    simp [strB]
  · have hl : ((List.range SZ).map fun m => Value.int .u8 ((f m).toNat : Int)).length = SZ := by simp
    have := run_loadCells_list (P := Tryz.prog) (w := w) ⟨g, 0, none⟩ ((List.range SZ).map fun m => Value.int .u8 ((f m).toNat : Int)) (fun j v hj => by
      have hlt := lt_of_some hj
      rw [hl] at hlt
      rw [Addr.add_lit, Nat.zero_add, (h.cell hlt).1]
      simp [hlt] at hj
      rw [hj])
    rw [hl] at this
    rw [this, List.map_map]
    rfl
theorem TBS.fr {w w' : World} {B bt O SZ k B' RB MB : Nat} {g cp : Nat → Nat} {f : Nat → Nat → UInt8} (h : TBS w B bt O SZ g cp f k) (hF : Fr B' RB MB w w') (h1 : bt < B') (h2 : bt ≠ RB) (h3 : bt ≠ MB) (hg : ∀ i < k, g i < B' ∧ g i ≠ RB ∧ g i ≠ MB) : TBS w' B bt O SZ g cp f k :=
  ⟨h.o.of_block (hF.block bt h.o.lt h2 h3 (.inl h1)), h.hb, fun i hi => ⟨(h.r i hi).1.of_block (hF.block _ (h.r i hi).1.lt (hg i hi).2.1 (hg i hi).2.2 (.inl (hg i hi).1)), (h.r i hi).2⟩, h.inj⟩
theorem Fr.bel {w X Y : World} {B RB MB : Nat} (h : Fr B RB MB X Y) (hb : Below w.heap.size w X) (h1 : w.heap.size ≤ RB) (h2 : w.heap.size ≤ MB) (h3 : w.heap.size ≤ B) : Below w.heap.size w Y :=
  hb.trans ⟨h.os, h.tape, h.output, h.size, fun k hk => h.block k (Nat.lt_of_lt_of_le hk hb.size) (by omega) (by omega) (.inl (by omega))⟩
/-- The outputs are laid anew into the maker. -/
theorem MS.out {w : World} {B RB MB N K : Nat} {vo : Value} {st : MSt} (h : MS w B RB MB N K vo st) (vo' : Value) : MS (w.setCell ⟨RB, 2, none⟩ vo') B RB MB N K vo' st := by
  obtain ⟨h1, h2, h3, h4, ⟨vc, h5, h6⟩, h7⟩ := h
  refine ⟨h1, h2, h3, by simpa using h4, ⟨vc, (h5.set 2 vo').congr fun i hi => ?_, ownsRow_setCell_below (a := ⟨RB, 2, none⟩) h6 h1 vo'⟩, h7.same (Below.heap_setCell _ _ _ _ (by show MB ≠ RB; omega))⟩
  have : i = 0 ∨ i = 1 ∨ i = 2 ∨ i = 3 := by omega
  rcases this with rfl | rfl | rfl | rfl <;> rfl
end Go.Proofs.YtcdfghogmdhfcaaGreatDoor

namespace Go.Proofs.YtcdfghogmdhfcaaGreatDoor
open Go.RowKit Go.Deep
set_option linter.unusedVariables false

theorem MS.start (w1 : World) (N : Nat) (w2 : World) (hw2 : (w1.alloc (.map #[] 0)).alloc (.cells #[.int .i64 N, .slice none 0 0, .slice none 0 0, .map (some w1.heap.size)] 60) = w2) : w2.heap.size = w1.heap.size + 2 ∧ MS w2 (w1.heap.size + 2) (w1.heap.size + 1) w1.heap.size N 0 (.slice none 0 0) ⟨[], fun _ => none⟩ ∧ Below w1.heap.size w1 w2 := by
  have hs : w2.heap.size = w1.heap.size + 2 := by rw [← hw2]; simp
  refine ⟨hs, ⟨by omega, by omega, by omega, by omega, ⟨.slice none 0 0, ?_, World.ownsRow_nil _ _ _ _⟩, ?_⟩, ?_⟩
  · rw [← hw2, show w1.heap.size + 1 = (w1.alloc (.map #[] 0)).heap.size by simp]
    refine World.rowIs_alloc _ _ _ _ ?_
    intro i hi
    have hi' : i < 4 := hi
    have : i = 0 ∨ i = 1 ∨ i = 2 ∨ i = 3 := by omega
    rcases this with rfl | rfl | rfl | rfl <;> rfl
  · exact (TM.made w1).same (w' := w2) (by rw [← hw2]; exact (bel_alloc _ _).block _ (by simp))
  · rw [← hw2]; exact (bel_alloc _ _).alloc (by simp) _
theorem MS.grownO {w w3 : World} {B RB MB N K k : Nat} {vo v : Value} {st : MSt} {xs : List Value} (h : MS w B RB MB N K vo st) (ho : w.ownsRow B 3 1 v k xs) (hg : w.grownBy w3 v.ownBlock) : MS w3 B RB MB N K vo st := by
  obtain ⟨h1, h2, h3, h4, ⟨vc, h5, h6⟩, h7⟩ := h
  exact ⟨h1, h2, h3, Nat.le_trans h4 hg.size, ⟨vc, row_grown h5 hg (row_ne_low53 ho h1), h6.kept hg (own_apart h6 ho (by decide))⟩, h7.same (hg.block MB h7.lt (row_ne_low53 ho h2))⟩
theorem MS.c2 {w : World} {B RB MB N K : Nat} {vo : Value} {st : MSt} (h : MS w B RB MB N K vo st) : w.cell? ⟨RB, 2, none⟩ = some vo ∧ w.frozen? ⟨RB, 2, none⟩ = false := by
  obtain ⟨h1, h2, h3, h4, ⟨vc, h5, h6⟩, h7⟩ := h
  exact ⟨h5.cell (i := 2) (by omega), h5.frozen 2⟩
/-- The zero program's box. -/
def zeroP (w : World) (b : Nat) : Prop := w.heap[b]? = some (.cells #[.int .i64 0, .slice none 0 0, .slice none 0 0] 28 (0, 0))
theorem zeroP.lt {w : World} {b : Nat} (h : zeroP w b) : b < w.heap.size := (Array.getElem?_eq_some_iff.1 h).1
theorem zeroP_below {w w' : World} {b : Nat} (h : zeroP w b) (hb : Below w.heap.size w w') : zeroP w' b := (hb.block b h.lt).trans h
theorem zeroP.c {w : World} {b : Nat} (h : zeroP w b) : (w.cell? ⟨b, 0, none⟩ = some (.int .i64 0) ∧ w.cell? ⟨b, 1, none⟩ = some (.slice none 0 0) ∧ w.cell? ⟨b, 2, none⟩ = some (.slice none 0 0)) ∧ w.frozen? ⟨b, 0, none⟩ = false ∧ w.frozen? ⟨b, 1, none⟩ = false ∧ w.frozen? ⟨b, 2, none⟩ = false := by
  unfold zeroP at h
  refine ⟨⟨?_, ?_, ?_⟩, ?_, ?_, ?_⟩ <;> simp [World.cell?, World.frozen?, h]
structure OS (w we : World) (B RB MB N O SZ bt zb : Nat) (g cp : Nat → Nat) (f : Nat → Nat → UInt8) (K k : Nat) (vo : Value) (p : MSt × List Int) : Prop where
  ms : MS we B RB MB N K vo p.1
  ow : we.ownsRow B 3 1 vo k (ints p.2)
  tb : TBS we bt bt O SZ g cp f O
  z : zeroP we zb
  bl : Below w.heap.size w we
  b1 : bt < MB
  b2 : ∀ i < O, g i < MB
  b3 : zb < MB
  b4 : MB < RB
  b5 : w.heap.size ≤ MB
theorem OS.call {w we w' : World} {B RB MB N O SZ bt zb K K' k : Nat} {g cp : Nat → Nat} {f : Nat → Nat → UInt8} {vo : Value} {p : MSt × List Int} {st : MSt} (h : OS w we B RB MB N O SZ bt zb g cp f K k vo p) (hm : MS w' B RB MB N K' vo st) (hF : Fr B RB MB we w') : OS w w' B RB MB N O SZ bt zb g cp f K' k vo (st, p.2) := by
  have h4 := h.b4
  have l1 := h.ms.lr
  have l3 := h.b3
  have l0 := h.b5
  refine ⟨hm, hF.own h.ow (by decide) h.ms.lr h.ms.lm, h.tb.fr hF (by have := h.b1; omega) (by have := h.b1; omega) (by have := h.b1; omega) fun i hi => ?_, (hF.block zb h.z.lt (by omega) (by omega) (.inl (by omega))).trans h.z, Fr.bel hF h.bl (by omega) (by omega) (by omega), h.b1, h.b2, h.b3, h.b4, h.b5⟩
  have := h.b2 i hi
  exact ⟨by omega, by omega, by omega⟩
theorem OS.push {w we w3 : World} {B RB MB N O SZ bt zb K k : Nat} {g cp : Nat → Nat} {f : Nat → Nat → UInt8} {vo v' : Value} {st : MSt} {l : List Int} {x : Int} (h : OS w we B RB MB N O SZ bt zb g cp f K k vo (st, l)) (hg : we.grownBy w3 vo.ownBlock) (hb : Below B we w3) (ho : w3.ownsRow B 3 1 v' (k + 1) (ints l ++ [.int .i64 x])) : OS w (w3.setCell ⟨RB, 2, none⟩ v') B RB MB N O SZ bt zb g cp f K (k + 1) v' (st, l ++ [x]) := by
  have h4 := h.b4
  have l1 := h.ms.lr
  have l3 := h.b3
  have l0 := h.b5
  have lb := h.b1
  have hs : ∀ j, j ≠ RB → (w3.setCell ⟨RB, 2, none⟩ v').heap[j]? = w3.heap[j]? := fun j hj => Below.heap_setCell _ _ _ _ hj
  refine ⟨(h.ms.grownO h.ow hg).out v', ?_, ⟨h.tb.o.of_block ((hs bt (by omega)).trans (hb.block bt (by omega))), h.tb.hb, fun i hi => ⟨(h.tb.r i hi).1.of_block ((hs _ (by have := h.b2 i hi; omega)).trans (hb.block _ (by have := h.b2 i hi; omega))), (h.tb.r i hi).2⟩, h.tb.inj⟩, (hs zb (by omega)).trans ((hb.block zb (by omega)).trans h.z), (h.bl.trans (hb.mono (by omega))).setCell (p := ⟨RB, 2, none⟩) (by show w.heap.size ≤ RB; omega) v', h.b1, h.b2, h.b3, h.b4, h.b5⟩
  have := ownsRow_setCell_below (a := ⟨RB, 2, none⟩) ho l1 v'
  simpa [ints] using this
theorem OS.k {w we : World} {B RB MB N O SZ bt zb K K' k : Nat} {g cp : Nat → Nat} {f : Nat → Nat → UInt8} {vo : Value} {p : MSt × List Int} (h : OS w we B RB MB N O SZ bt zb g cp f K k vo p) (hk : K ≤ K') : OS w we B RB MB N O SZ bt zb g cp f K' k vo p := ⟨h.ms.mono hk, h.ow, h.tb, h.z, h.bl, h.b1, h.b2, h.b3, h.b4, h.b5⟩
/-- maker.bit at a whole table. -/
theorem bit_top (N B RB MB SZ K : Nat) (vo : Value) (t : List UInt8) (st : MSt) (w : World) (hN : N ≤ 6) (hSZ : 2 ^ N = SZ) (hS : MS w B RB MB N K vo st) (hG : MGood N st) (ht : t.length = SZ) (hb : ∀ c ∈ t, c = 48 ∨ c = 49) (hc : st.code.length + 4 * SZ ≤ 100000) (hK : K + 2 * SZ ≤ 900000) :
    Calls Tryz.prog 23 #[.pointer (some ⟨RB, 0, none⟩), .int .i64 0, .string (strB t)] w fun e w' => e = .returned (.int .i64 (mkBit N N 0 t st).1) ∧ MS w' B RB MB N (K + 2 * SZ) vo (mkBit N N 0 t st).2 ∧ Fr B RB MB w w' := by
  subst hSZ
  have h64 : 2 ^ N ≤ 64 := Nat.le_trans (Nat.pow_le_pow_right (by decide) hN) (by decide)
  have h := bit_any N B RB MB vo (by omega) N K 0 t st w hS hG (by omega) ht (by omega) hb hc hK
  refine h.mono ?_
  rintro e w' ⟨h1, h2, h3⟩
  exact ⟨h1, h2.mono (by omega), h3⟩
end Go.Proofs.YtcdfghogmdhfcaaGreatDoor
