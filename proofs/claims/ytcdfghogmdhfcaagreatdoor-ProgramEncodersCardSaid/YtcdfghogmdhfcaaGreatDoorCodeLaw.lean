/-
  Words, codes and the states of a code's parser, in plain terms: what is checked, the order of words, the list of all proper beginnings.
  No condition: plain laws.
-/
import Derived.Test.YtcdfghogmdhfcaaGreatDoorMg0
import Derived.Lib.Strings
import Derived.Lib.Bytealg
namespace Go.Proofs.YtcdfghogmdhfcaaGreatDoor
open Go.RowKit

theorem ba_ext {a b : ByteArray} (h : a.data.toList = b.data.toList) : a = b := by
  cases a; cases b
  simp only [ByteArray.mk.injEq]
  exact Array.toList_inj.1 h
theorem ba_len (a : ByteArray) : a.data.toList.length = a.size := by simp

def lettersL : List UInt8 := [48, 49, 50, 51, 52, 53, 54, 55, 56, 57, 97, 98, 99, 100, 101, 102]
/-- The number of a letter; -1 if it is none. -/
def digit (c : UInt8) : Int := Lib.indexByte lettersL c
theorem ib_low (l : List UInt8) (c : UInt8) : -1 ≤ Lib.indexByte l c ∧ Lib.indexByte l c < l.length := by
  induction l with
  | nil => simp [Lib.indexByte]
  | cons b l ih =>
    rw [Lib.indexByte]
    simp only [List.length_cons]
    split
    · omega
    · split <;> omega
theorem ib_take (l : List UInt8) (c : UInt8) (n : Nat) : Lib.indexByte (l.take n) c = if Lib.indexByte l c < n then Lib.indexByte l c else -1 := by
  induction l generalizing n with
  | nil => rw [List.take_nil]; show (-1 : Int) = if (-1 : Int) < n then -1 else -1; split <;> rfl
  | cons b l ih =>
    cases n with
    | zero =>
      simp only [List.take_zero]
      have := ib_low (b :: l) c
      rw [show Lib.indexByte [] c = -1 from rfl]
      split <;> omega
    | succ n =>
      rw [List.take_succ_cons, Lib.indexByte, Lib.indexByte, ih n]
      have := ib_low l c
      by_cases hb : (b == c) = true
      · rw [if_pos hb, if_pos hb, if_pos (by omega)]
      · rw [if_neg hb, if_neg hb]
        generalize Lib.indexByte l c = i at *
        simp only [beq_iff_eq]
        repeat' split
        all_goals omega
theorem digit_low (c : UInt8) : -1 ≤ digit c ∧ digit c < 16 := ib_low lettersL c
theorem digit_q (q : Nat) (c : UInt8) : Lib.indexByte (lettersL.take q) c < 0 ↔ ¬ (0 ≤ digit c ∧ digit c < q) := by
  rw [ib_take]
  show (if digit c < q then digit c else -1) < 0 ↔ _
  split <;> omega
/-- A word over the first q letters. -/
def okWord (q : Int) (w : ByteArray) : Bool := w.data.toList.all fun c => decide (0 ≤ digit c ∧ digit c < q)
/-- Why w is no word over q letters. -/
def wordErr (q : Int) (w : ByteArray) : Int := if q < 1 ∨ 16 < q then 12 else if 65536 < w.size then 4 else if okWord q w then 0 else 13
theorem wordErr_zero {q : Int} {w : ByteArray} : wordErr q w = 0 ↔ (1 ≤ q ∧ q ≤ 16 ∧ w.size ≤ 65536 ∧ okWord q w = true) := by
  unfold wordErr
  split
  · simp; omega
  · split
    · simp; omega
    · split
      · rename_i h; simp only [h, true_iff]; simp; omega
      · rename_i h; simp [h]
theorem okWord_at {q : Int} {w : ByteArray} (h : okWord q w = true) {c : UInt8} (hc : c ∈ w.data.toList) : 0 ≤ digit c ∧ digit c < q := by
  have := List.all_eq_true.1 h c hc
  simpa using this

/-- The order of words. -/
def cmpW (a b : ByteArray) : Int := if a.size < b.size then -1 else if b.size < a.size then 1 else Lib.compareBytes a.data.toList b.data.toList
def lessW (a b : ByteArray) : Bool := decide (cmpW a b < 0)
theorem cb_range (a b : List UInt8) : Lib.compareBytes a b = -1 ∨ Lib.compareBytes a b = 0 ∨ Lib.compareBytes a b = 1 := by
  induction a generalizing b with
  | nil => cases b <;> simp [Lib.compareBytes]
  | cons x a ih =>
    cases b with
    | nil => simp [Lib.compareBytes]
    | cons y b =>
      rw [Lib.compareBytes]
      split
      · simp
      · split
        · simp
        · exact ih b
theorem cb_refl (a : List UInt8) : Lib.compareBytes a a = 0 := by
  induction a with
  | nil => rfl
  | cons x a ih => rw [Lib.compareBytes, if_neg (by simp), if_neg (by simp), ih]
theorem u8_tri {x y : UInt8} (h1 : ¬ x < y) (h2 : ¬ y < x) : x = y := by
  rw [UInt8.lt_iff_toNat_lt] at h1 h2
  exact UInt8.toNat_inj.1 (by omega)
theorem cb_eq {a b : List UInt8} (h : Lib.compareBytes a b = 0) : a = b := by
  induction a generalizing b with
  | nil => cases b <;> simp_all [Lib.compareBytes]
  | cons x a ih =>
    cases b with
    | nil => simp [Lib.compareBytes] at h
    | cons y b =>
      rw [Lib.compareBytes] at h
      split at h
      · simp at h
      · split at h
        · simp at h
        · rename_i h1 h2
          rw [u8_tri h1 h2, ih h]
theorem cb_swap (a b : List UInt8) : Lib.compareBytes b a = - Lib.compareBytes a b := by
  induction a generalizing b with
  | nil => cases b <;> simp [Lib.compareBytes]
  | cons x a ih =>
    cases b with
    | nil => simp [Lib.compareBytes]
    | cons y b =>
      rw [Lib.compareBytes, Lib.compareBytes]
      by_cases h1 : x < y
      · have h2 : ¬ y < x := by rw [UInt8.lt_iff_toNat_lt] at *; omega
        simp [h1, h2]
      · by_cases h2 : y < x
        · simp [h1, h2]
        · simp only [h1, h2, if_false]; exact ih b
theorem cb_less (a b : List UInt8) : Op.bytesLess a b = decide (Lib.compareBytes a b < 0) := by
  induction a generalizing b with
  | nil => cases b <;> simp [Lib.compareBytes, Op.bytesLess]
  | cons x a ih =>
    cases b with
    | nil => simp [Lib.compareBytes, Op.bytesLess]
    | cons y b =>
      rw [Lib.compareBytes, Op.bytesLess]
      by_cases h1 : x < y
      · simp [h1]
      · by_cases h2 : y < x
        · have : ¬ x = y := by rintro rfl; exact h1 h2
          simp [h1, h2, this]
        · have : x = y := u8_tri h1 h2
          subst this
          simp [h1, ih]
theorem cb_trans {a b c : List UInt8} (h1 : Lib.compareBytes a b < 0) (h2 : Lib.compareBytes b c < 0) : Lib.compareBytes a c < 0 := by
  induction a generalizing b c with
  | nil =>
    cases c with
    | nil => cases b <;> simp [Lib.compareBytes] at h1 h2
    | cons z c => simp [Lib.compareBytes]
  | cons x a ih =>
    cases b with
    | nil => simp [Lib.compareBytes] at h1
    | cons y b =>
      cases c with
      | nil => simp [Lib.compareBytes] at h2
      | cons z c =>
        rw [Lib.compareBytes] at h1 h2 ⊢
        simp only [UInt8.lt_iff_toNat_lt] at h1 h2 ⊢
        by_cases hxz : x.toNat < z.toNat
        · simp [hxz]
        · by_cases hxy : x.toNat < y.toNat
          · by_cases hyz : y.toNat < z.toNat
            · omega
            · by_cases hzy : z.toNat < y.toNat
              · simp [hyz, hzy] at h2
              · omega
          · by_cases hyx : y.toNat < x.toNat
            · simp [hxy, hyx] at h1
            · simp only [hxy, hyx, if_false] at h1
              by_cases hyz : y.toNat < z.toNat
              · omega
              · by_cases hzy : z.toNat < y.toNat
                · simp [hyz, hzy] at h2
                · simp only [hyz, hzy, if_false] at h2
                  have hzx : ¬ z.toNat < x.toNat := by omega
                  simp only [hxz, hzx, if_false]
                  exact ih h1 h2
theorem cmpW_range (a b : ByteArray) : cmpW a b = -1 ∨ cmpW a b = 0 ∨ cmpW a b = 1 := by
  unfold cmpW
  split
  · simp
  · split
    · simp
    · exact cb_range _ _
theorem cmpW_refl (a : ByteArray) : cmpW a a = 0 := by rw [cmpW, if_neg (by omega), if_neg (by omega), cb_refl]
theorem cmpW_eq {a b : ByteArray} (h : cmpW a b = 0) : a = b := by
  unfold cmpW at h
  split at h
  · simp at h
  · split at h
    · simp at h
    · exact ba_ext (cb_eq h)
theorem cmpW_swap (a b : ByteArray) : cmpW b a = - cmpW a b := by
  unfold cmpW
  by_cases h1 : a.size < b.size
  · rw [if_neg (by omega), if_pos h1, if_pos h1]; rfl
  · by_cases h2 : b.size < a.size
    · rw [if_pos h2, if_neg h1, if_pos h2]
    · rw [if_neg h2, if_neg h1, if_neg h1, if_neg h2, cb_swap]
theorem cmpW_trans {a b c : ByteArray} (h1 : cmpW a b < 0) (h2 : cmpW b c < 0) : cmpW a c < 0 := by
  unfold cmpW at *
  by_cases s1 : a.size < b.size
  · by_cases s2 : b.size < c.size
    · rw [if_pos (by omega)]; omega
    · rw [if_neg s2] at h2
      by_cases s3 : c.size < b.size
      · simp [s3] at h2
      · rw [if_pos (by omega)]; omega
  · rw [if_neg s1] at h1
    by_cases s2 : b.size < a.size
    · simp [s2] at h1
    · rw [if_neg s2] at h1
      by_cases s3 : b.size < c.size
      · rw [if_pos (by omega)]; omega
      · rw [if_neg s3] at h2
        by_cases s4 : c.size < b.size
        · simp [s4] at h2
        · rw [if_neg s4] at h2
          rw [if_neg (by omega), if_neg (by omega)]
          exact cb_trans h1 h2
theorem lessW_irrefl (a : ByteArray) : lessW a a = false := by simp [lessW, cmpW_refl]
theorem lessW_trans {a b c : ByteArray} (h1 : lessW a b = true) (h2 : lessW b c = true) : lessW a c = true := by
  simp only [lessW, decide_eq_true_eq] at *
  exact cmpW_trans h1 h2
theorem lessW_tri {a b : ByteArray} (h1 : lessW a b = false) (h2 : a ≠ b) : lessW b a = true := by
  simp only [lessW, decide_eq_false_iff_not, decide_eq_true_eq] at *
  have h3 : cmpW a b ≠ 0 := fun h => h2 (cmpW_eq h)
  rw [cmpW_swap]
  omega

/-- A list of words in order, each once. -/
def Asc (l : List ByteArray) : Prop := l.Pairwise (fun a b => lessW a b = true)
theorem asc_unique {l l' : List ByteArray} (h : Asc l) (h' : Asc l') (hm : ∀ x, x ∈ l ↔ x ∈ l') : l = l' := by
  induction l generalizing l' with
  | nil =>
    cases l' with
    | nil => rfl
    | cons y l' => exact absurd ((hm y).2 (by simp)) (by simp)
  | cons x l ih =>
    cases l' with
    | nil => exact absurd ((hm x).1 (by simp)) (by simp)
    | cons y l' =>
      rw [Asc, List.pairwise_cons] at h h'
      have exy : x = y := by
        rcases List.mem_cons.1 ((hm x).1 (by simp)) with e | e
        · exact e
        · rcases List.mem_cons.1 ((hm y).2 (by simp)) with e2 | e2
          · exact e2.symm
          · have h3 := lessW_trans (h.1 y e2) (h'.1 x e)
            rw [lessW_irrefl] at h3
            cases h3
      subst exy
      congr 1
      refine ih h.2 h'.2 fun z => ?_
      have hz := hm z
      simp only [List.mem_cons] at hz
      constructor
      · intro g
        rcases hz.1 (.inr g) with e | e
        · subst e
          have := h.1 z g
          rw [lessW_irrefl] at this
          cases this
        · exact e
      · intro g
        rcases hz.2 (.inr g) with e | e
        · subst e
          have := h'.1 z g
          rw [lessW_irrefl] at this
          cases this
        · exact e
/-- A word put into a list that is in order, if it does not stand there. -/
def insW : List ByteArray → ByteArray → List ByteArray
  | [], x => [x]
  | y :: r, x => if lessW y x then y :: insW r x else if y = x then y :: r else x :: y :: r
theorem mem_insW (l : List ByteArray) (x z : ByteArray) : z ∈ insW l x ↔ z = x ∨ z ∈ l := by
  induction l with
  | nil => simp [insW]
  | cons y r ih =>
    rw [insW]
    split
    · simp only [List.mem_cons, ih]
      constructor
      · rintro (h | h | h) <;> simp [h]
      · rintro (h | h | h) <;> simp [h]
    · split
      · rename_i e
        subst e
        simp only [List.mem_cons]
        constructor
        · rintro (h | h) <;> simp [h]
        · rintro (h | h | h) <;> simp [h]
      · simp
theorem asc_insW {l : List ByteArray} (x : ByteArray) (h : Asc l) : Asc (insW l x) := by
  induction l with
  | nil => simp [insW, Asc]
  | cons y r ih =>
    rw [Asc, List.pairwise_cons] at h
    rw [insW]
    split
    · rename_i hy
      rw [Asc, List.pairwise_cons]
      refine ⟨fun z hz => ?_, ih h.2⟩
      rcases (mem_insW r x z).1 hz with e | e
      · subst e; exact hy
      · exact h.1 z e
    · rename_i hy
      split
      · rw [Asc, List.pairwise_cons]; exact h
      · rename_i hne
        have hxy := lessW_tri (by simpa using hy) hne
        rw [Asc, List.pairwise_cons]
        refine ⟨fun z hz => ?_, by rw [List.pairwise_cons]; exact h⟩
        rcases List.mem_cons.1 hz with e | e
        · subst e; exact hxy
        · exact lessW_trans hxy (h.1 z e)
/-- Words in order, each once. -/
def sortW (l : List ByteArray) : List ByteArray := l.foldl insW []
theorem sortW_go (l acc : List ByteArray) (h : Asc acc) : Asc (l.foldl insW acc) ∧ ∀ z, z ∈ l.foldl insW acc ↔ z ∈ acc ∨ z ∈ l := by
  induction l generalizing acc with
  | nil => exact ⟨h, fun z => by simp⟩
  | cons x l ih =>
    obtain ⟨h1, h2⟩ := ih (insW acc x) (asc_insW x h)
    refine ⟨h1, fun z => ?_⟩
    rw [List.foldl_cons, h2, mem_insW, List.mem_cons]
    constructor
    · rintro ((e | e) | e) <;> simp [e]
    · rintro (e | e | e) <;> simp [e]
theorem asc_sortW (l : List ByteArray) : Asc (sortW l) := (sortW_go l [] List.Pairwise.nil).1
theorem mem_sortW {l : List ByteArray} {z : ByteArray} : z ∈ sortW l ↔ z ∈ l := by
  rw [sortW, (sortW_go l [] List.Pairwise.nil).2]; simp

/-- The proper beginnings of a word, of all words of a code, and these in order: the states. -/
def preW (w : ByteArray) : List ByteArray := (List.range w.size).map fun n => w.extract 0 n
def preL (ws : List ByteArray) : List ByteArray := ws.flatMap preW
def stW (ws : List ByteArray) : List ByteArray := sortW (preL ws)
theorem mem_preL {ws : List ByteArray} {z : ByteArray} : z ∈ preL ws ↔ ∃ w ∈ ws, ∃ n < w.size, w.extract 0 n = z := by
  simp only [preL, preW, List.mem_flatMap, List.mem_map, List.mem_range]
theorem mem_stW {ws : List ByteArray} {z : ByteArray} : z ∈ stW ws ↔ ∃ w ∈ ws, ∃ n < w.size, w.extract 0 n = z := mem_sortW.trans mem_preL

/-- Where a word stands in a list; -1 if it does not. -/
def idxW : List ByteArray → ByteArray → Int
  | [], _ => -1
  | y :: r, x => if y = x then 0 else if idxW r x < 0 then -1 else idxW r x + 1
theorem idxW_low (l : List ByteArray) (x : ByteArray) : -1 ≤ idxW l x ∧ idxW l x < l.length := by
  induction l with
  | nil => simp [idxW]
  | cons y r ih =>
    rw [idxW]
    simp only [List.length_cons]
    split
    · omega
    · split <;> omega
theorem idxW_mem (l : List ByteArray) (x : ByteArray) : 0 ≤ idxW l x ↔ x ∈ l := by
  induction l with
  | nil => simp [idxW]
  | cons y r ih =>
    rw [idxW]
    by_cases e : y = x
    · subst e; simp
    · rw [if_neg e, List.mem_cons]
      have e' : ¬ x = y := fun h => e h.symm
      split
      · rename_i h
        have : ¬ x ∈ r := fun g => by have := ih.2 g; omega
        simp [e', this]
      · rename_i h
        have := ih.1 (by omega)
        simp [this]; omega
theorem idxW_get {l : List ByteArray} {x : ByteArray} (h : 0 ≤ idxW l x) : l[(idxW l x).toNat]? = some x := by
  induction l with
  | nil => simp [idxW] at h
  | cons y r ih =>
    rw [idxW] at h ⊢
    by_cases e : y = x
    · subst e; simp
    · rw [if_neg e] at h ⊢
      by_cases h1 : idxW r x < 0
      · simp [h1] at h
      · rw [if_neg h1] at h ⊢
        rw [show (idxW r x + 1).toNat = (idxW r x).toNat + 1 by omega, List.getElem?_cons_succ]
        exact ih (by omega)
theorem idxW_at {l : List ByteArray} {x : ByteArray} {k : Nat} (hn : l.Nodup) (h : l[k]? = some x) : idxW l x = k := by
  induction l generalizing k with
  | nil => simp at h
  | cons y r ih =>
    rw [List.nodup_cons] at hn
    rw [idxW]
    cases k with
    | zero =>
      simp only [List.getElem?_cons_zero, Option.some.injEq] at h
      rw [if_pos h]; rfl
    | succ k =>
      rw [List.getElem?_cons_succ] at h
      have hne : ¬ y = x := by
        rintro rfl
        exact hn.1 (List.mem_of_getElem? h)
      rw [if_neg hne, ih hn.2 h, if_neg (by omega)]
      omega
theorem asc_nodup {l : List ByteArray} (h : Asc l) : l.Nodup := by
  refine h.imp fun {a b} hab e => ?_
  subst e
  rw [lessW_irrefl] at hab
  cases hab

/-- Why a code is not valid. -/
def codeGo (q : Int) : Option ByteArray → List ByteArray → Int
  | _, [] => 0
  | p, w :: r => if w.size = 0 then 5 else if 32 < w.size then 4 else if wordErr q w ≠ 0 then 13 else if p.any (fun x => !lessW x w) then 10 else codeGo q (some w) r
def codeErr (q : Int) (ws : List ByteArray) : Int := if q < 2 ∨ 16 < q then 12 else if ws.length = 0 then 5 else if 64 < ws.length then 4 else codeGo q none ws
theorem codeGo_zero {q : Int} {p : Option ByteArray} {ws : List ByteArray} (h : codeGo q p ws = 0) : (∀ w ∈ ws, 0 < w.size ∧ w.size ≤ 32 ∧ wordErr q w = 0) ∧ Asc (p.toList ++ ws) := by
  induction ws generalizing p with
  | nil => cases p <;> simp [Asc]
  | cons w r ih =>
    rw [codeGo] at h
    by_cases h1 : w.size = 0
    · simp [h1] at h
    · rw [if_neg h1] at h
      by_cases h2 : 32 < w.size
      · simp [h2] at h
      · rw [if_neg h2] at h
        by_cases h3 : wordErr q w ≠ 0
        · simp [h3] at h
        · rw [if_neg h3] at h
          by_cases h4 : (p.any (fun x => !lessW x w)) = true
          · simp [h4] at h
          · rw [if_neg h4] at h
            obtain ⟨g1, g2⟩ := ih h
            refine ⟨fun z hz => ?_, ?_⟩
            · rcases List.mem_cons.1 hz with e | e
              · subst e; exact ⟨by omega, by omega, by simpa using h3⟩
              · exact g1 z e
            · cases p with
              | none => simpa using g2
              | some x =>
                simp only [Option.toList_some, List.singleton_append, Option.any_some, Bool.not_eq_true'] at g2 h4 ⊢
                have h5 : lessW x w = true := by cases hx : lessW x w <;> simp_all
                rw [Asc, List.pairwise_cons]
                refine ⟨fun z hz => ?_, g2⟩
                rcases List.mem_cons.1 hz with e | e
                · subst e; exact h5
                · rw [Asc, List.pairwise_cons] at g2
                  exact lessW_trans h5 (g2.1 z e)
/-- A valid code. -/
structure Valid45 (q : Int) (ws : List ByteArray) : Prop where
  q2 : 2 ≤ q
  q16 : q ≤ 16
  n1 : 0 < ws.length
  n64 : ws.length ≤ 64
  words : ∀ w ∈ ws, 0 < w.size ∧ w.size ≤ 32 ∧ wordErr q w = 0
  asc : Asc ws
theorem codeErr_zero {q : Int} {ws : List ByteArray} (h : codeErr q ws = 0) : Valid45 q ws := by
  unfold codeErr at h
  split at h
  · simp at h
  · split at h
    · simp at h
    · split at h
      · simp at h
      · obtain ⟨g1, g2⟩ := codeGo_zero h
        exact ⟨by omega, by omega, by omega, by omega, g1, by simpa using g2⟩

/-- A word begins with another one. -/
def begW (w u : ByteArray) : Bool := Lib.hasPrefix w.data.toList u.data.toList
/-- No word of the list begins with another one. -/
def freeW (ws : List ByteArray) : Prop := ∀ (i k : Nat) (x y : ByteArray), ws[i]? = some x → ws[k]? = some y → i ≠ k → begW x y = false
/-- The letter with a number. -/
def letW (a : Nat) : ByteArray := ⟨#[lettersL.getD a 0]⟩
/-- Where a state and a letter lead, and which word ends; -1: nowhere, none. -/
def emI (ws : List ByteArray) (s a : Nat) : Int := idxW ws ((stW ws).getD s default ++ letW a)
def nxI (ws : List ByteArray) (s a : Nat) : Int := if 0 ≤ emI ws s a then 0 else idxW (stW ws) ((stW ws).getD s default ++ letW a)
def nxN (ws : List ByteArray) (s a : Nat) : Nat := (nxI ws s a).toNat
def sizeW (ws : List ByteArray) : Nat := (stW ws).length
/-- Each state can read each letter. -/
def fullW (q : Int) (ws : List ByteArray) : Prop := ∀ s < sizeW ws, ∀ a < q.toNat, 0 ≤ nxI ws s a
theorem nxI_low (ws : List ByteArray) (s a : Nat) : -1 ≤ nxI ws s a := by
  unfold nxI
  split
  · omega
  · exact (idxW_low _ _).1
theorem stW_pos {q : Int} {ws : List ByteArray} (h : Valid45 q ws) : 0 < sizeW ws := by
  obtain ⟨w, hw⟩ := List.exists_mem_of_length_pos h.n1
  have := (mem_stW (z := w.extract 0 0)).2 ⟨w, hw, 0, (h.words w hw).1, rfl⟩
  exact List.length_pos_of_mem this
theorem closedW {q : Int} {ws : List ByteArray} (hv : Valid45 q ws) (s a : Nat) : nxI ws s a < sizeW ws := by
  have h0 := stW_pos hv
  unfold nxI
  split
  · omega
  · exact (idxW_low _ _).2
theorem nxN_lt {q : Int} {ws : List ByteArray} (hv : Valid45 q ws) (s a : Nat) : nxN ws s a < sizeW ws := by
  have h0 := stW_pos hv
  have := closedW hv s a
  unfold nxN
  omega
theorem nxN_eq {q : Int} {ws : List ByteArray} (hf : fullW q ws) {s a : Nat} (hs : s < sizeW ws) (ha : a < q.toNat) : nxI ws s a = nxN ws s a := by
  have := hf s hs a ha
  unfold nxN
  omega
end Go.Proofs.YtcdfghogmdhfcaaGreatDoor
