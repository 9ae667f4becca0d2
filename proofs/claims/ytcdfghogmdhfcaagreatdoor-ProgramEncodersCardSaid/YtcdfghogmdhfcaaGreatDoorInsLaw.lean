/-
  Straight-line programs on bits, as plain functions: why one is not valid, what it computes, how it is reduced.
  No condition.
-/
import Derived.Test.YtcdfghogmdhfcaaGreatDoorMg0
namespace Go.Proofs.YtcdfghogmdhfcaaGreatDoor
open Go.RowKit
set_option linter.unusedVariables false

/-- An instruction: the operation, its operands. -/
structure Ins where
  op : Int
  a : Int
  b : Int
  deriving DecidableEq, Inhabited
def Ins.enc (x : Ins) : List Value := [.int .i64 x.op, .int .i64 x.a, .int .i64 x.b]
def icells (l : List Ins) : List Value := l.flatMap Ins.enc
theorem icells_len (es : List Ins) : (icells es).length = es.length * 3 := by
  induction es with
  | nil => rfl
  | cons x t ih => simp only [icells, List.flatMap_cons, List.length_append] at *; rw [ih]; simp [Ins.enc]; omega
theorem icells_snoc (es : List Ins) (x : Ins) : icells (es ++ [x]) = icells es ++ [.int .i64 x.op, .int .i64 x.a, .int .i64 x.b] := by
  simp [icells, List.flatMap_append, Ins.enc]
theorem icells_get {es : List Ins} {k : Nat} {x : Ins} (h : es[k]? = some x) : (icells es)[k * 3]? = some (.int .i64 x.op) ∧ (icells es)[k * 3 + 1]? = some (.int .i64 x.a) ∧ (icells es)[k * 3 + 2]? = some (.int .i64 x.b) := by
  induction es generalizing k with
  | nil => simp at h
  | cons y t ih =>
    have hc : icells (y :: t) = [.int .i64 y.op, .int .i64 y.a, .int .i64 y.b] ++ icells t := by simp [icells, Ins.enc]
    rw [hc]
    cases k with
    | zero => simp at h; subst h; simp
    | succ k =>
      simp only [List.getElem?_cons_succ] at h
      obtain ⟨h1, h2, h3⟩ := ih h
      refine ⟨?_, ?_, ?_⟩
      · rw [List.getElem?_append_right (by simp; omega)]; simp only [List.length_cons, List.length_nil]; rw [show (k + 1) * 3 - (0 + 1 + 1 + 1) = k * 3 by omega]; exact h1
      · rw [List.getElem?_append_right (by simp; omega)]; simp only [List.length_cons, List.length_nil]; rw [show (k + 1) * 3 + 1 - (0 + 1 + 1 + 1) = k * 3 + 1 by omega]; exact h2
      · rw [List.getElem?_append_right (by simp; omega)]; simp only [List.length_cons, List.length_nil]; rw [show (k + 1) * 3 + 2 - (0 + 1 + 1 + 1) = k * 3 + 2 by omega]; exact h3
/-- One instruction of a row that is read. -/
theorem Sl.ins {w : World} {ao : Option Addr} {n cap m k : Nat} {es : List Ins} {x : Ins} (h : Sl 3 w (.slice ao n cap) m (icells es)) (hk : es[k]? = some x) :
    ∃ b o, ao = some ⟨b, o, none⟩ ∧ w.cell? ⟨b, o + k * 3, none⟩ = some (.int .i64 x.op) ∧ w.cell? ⟨b, o + k * 3 + 1, none⟩ = some (.int .i64 x.a) ∧ w.cell? ⟨b, o + k * 3 + 2, none⟩ = some (.int .i64 x.b) := by
  obtain ⟨h1, h2, h3⟩ := icells_get hk
  obtain ⟨b, o, rfl, c1⟩ := h.cell h1
  obtain ⟨b', o', e, c2⟩ := h.cell h2
  simp only [Option.some.injEq, Addr.mk.injEq, and_true] at e
  obtain ⟨rfl, rfl⟩ := e
  obtain ⟨b', o', e, c3⟩ := h.cell h3
  simp only [Option.some.injEq, Addr.mk.injEq, and_true] at e
  obtain ⟨rfl, rfl⟩ := e
  exact ⟨b, o, rfl, c1, c2, c3⟩

/-- How many operands an operation uses; -1 if it is none. -/
def usedN (op : Int) : Int := if op = 1 ∨ op = 2 then 0 else if op = 5 then 1 else if op = 3 ∨ op = 4 then 2 else -1
/-- Whether x is a bit's index below n, or 0 if it is not used. -/
def opdB (x n : Int) (is : Bool) : Bool := (is && decide (0 ≤ x) && decide (x < n)) || (!is && decide (x = 0))
def insErr (n : Int) (x : Ins) : Int := if usedN x.op < 0 then 8 else if opdB x.a n (decide (0 < usedN x.op)) && opdB x.b n (decide (1 < usedN x.op)) then 0 else 2
def pcodeErr (n : Int) : List Ins → Int
  | [] => 0
  | x :: t => if insErr n x ≠ 0 then insErr n x else pcodeErr (n + 1) t
def poutErr (n : Int) (l : List Int) : Int := if l.any (fun k => decide (k < 0) || decide (n ≤ k)) then 2 else 0
/-- Why a program is not valid. -/
def progErr (n : Int) (c : List Ins) (o : List Int) : Int :=
  if n < 0 ∨ 24 < n then 2 else if 65536 < c.length ∨ 65536 < o.length then 4 else if pcodeErr n c ≠ 0 then pcodeErr n c else poutErr (n + c.length) o
theorem insErr_cases (n : Int) (x : Ins) : insErr n x = 0 ∨ insErr n x = 8 ∨ insErr n x = 2 := by unfold insErr; split; simp; split <;> simp
/-- What a valid instruction says, by its operation. -/
theorem insErr_zero {n : Int} {x : Ins} : insErr n x = 0 ↔ ((x.op = 1 ∨ x.op = 2) ∧ x.a = 0 ∧ x.b = 0) ∨ (x.op = 5 ∧ 0 ≤ x.a ∧ x.a < n ∧ x.b = 0) ∨ ((x.op = 3 ∨ x.op = 4) ∧ 0 ≤ x.a ∧ x.a < n ∧ 0 ≤ x.b ∧ x.b < n) := by
  unfold insErr usedN opdB
  by_cases h1 : x.op = 1 ∨ x.op = 2
  · rw [if_pos h1]
    have h5 : ¬ x.op = 5 := by omega
    have h3 : ¬ (x.op = 3 ∨ x.op = 4) := by omega
    simp [h1, h5, h3]
  · rw [if_neg h1]
    by_cases h5 : x.op = 5
    · have h3 : ¬ (x.op = 3 ∨ x.op = 4) := by omega
      rw [if_pos h5]
      simp [h5, and_assoc]
    · rw [if_neg h5]
      by_cases h3 : x.op = 3 ∨ x.op = 4
      · rw [if_pos h3]
        simp [h3, h5, h1, and_assoc]
      · rw [if_neg h3]
        simp [h1, h3, h5]
theorem pcodeErr_at {c : List Ins} {n : Int} : pcodeErr n c = 0 ↔ ∀ (i : Nat) x, c[i]? = some x → insErr (n + i) x = 0 := by
  induction c generalizing n with
  | nil => simp [pcodeErr]
  | cons y t ih =>
    unfold pcodeErr
    by_cases h : insErr n y = 0
    · rw [if_neg (by simp [h]), ih]
      constructor
      · intro H i x hi
        cases i with
        | zero => simp at hi; subst hi; simpa using h
        | succ i => simp only [List.getElem?_cons_succ] at hi; rw [show n + ((i + 1 : Nat) : Int) = n + 1 + (i : Int) by omega]; exact H i x hi
      · intro H i x hi
        have := H (i + 1) x (by simpa using hi)
        rw [show n + ((i + 1 : Nat) : Int) = n + 1 + (i : Int) by omega] at this
        exact this
    · rw [if_pos h]
      constructor
      · intro h'; exact absurd h' h
      · intro H; exact absurd (by simpa using H 0 y rfl) h
/-- The first instructions being valid, the error is that of the others. -/
theorem pcodeErr_drop {c : List Ins} {n : Int} {k : Nat} (h : ∀ (i : Nat) x, i < k → c[i]? = some x → insErr (n + i) x = 0) : pcodeErr n c = pcodeErr (n + k) (c.drop k) := by
  induction k with
  | zero => simp
  | succ k ih =>
    rw [ih fun i x hi hx => h i x (by omega) hx]
    by_cases hk : k < c.length
    · obtain ⟨x, hx⟩ := some_of_lt hk
      rw [drop_cons hx, pcodeErr, if_neg (by rw [h k x (by omega) hx]; simp)]
      congr 1
      omega
    · rw [drop_all (by omega), drop_all (by omega)]
      rfl

/-- The value of an instruction. -/
def opB (op : Int) (a b : Bool) : Bool := if op = 2 then true else if op = 3 then a && b else if op = 4 then a != b else if op = 5 then !a else false
def pvals (l : List Bool) (c : List Ins) : List Bool := c.foldl (fun l x => l ++ [opB x.op (l.getD x.a.toNat false) (l.getD x.b.toNat false)]) l
theorem pvals_nil (l : List Bool) : pvals l [] = l := rfl
theorem pvals_snoc (l : List Bool) (c : List Ins) (x : Ins) : pvals l (c ++ [x]) = pvals l c ++ [opB x.op ((pvals l c).getD x.a.toNat false) ((pvals l c).getD x.b.toNat false)] := by simp [pvals]
theorem pvals_append (l : List Bool) (c d : List Ins) : pvals l (c ++ d) = pvals (pvals l c) d := by simp [pvals]
theorem pvals_len (l : List Bool) (c : List Ins) : (pvals l c).length = l.length + c.length := by
  induction c generalizing l with
  | nil => simp [pvals]
  | cons x t ih => have := ih (l ++ [opB x.op (l.getD x.a.toNat false) (l.getD x.b.toNat false)]); simp only [pvals, List.foldl_cons, List.length_append, List.length_cons, List.length_nil] at *; omega
theorem pvals_prefix (l : List Bool) (c : List Ins) : l <+: pvals l c := by
  induction c generalizing l with
  | nil => exact List.prefix_refl _
  | cons x t ih => exact (List.prefix_append l _).trans (ih _)
theorem getD_prefix {l m : List Bool} (h : l <+: m) {j : Nat} (hj : j < l.length) : m.getD j false = l.getD j false := by
  obtain ⟨t, rfl⟩ := h
  rw [List.getD_eq_getElem?_getD, List.getD_eq_getElem?_getD, List.getElem?_append_left hj]
/-- A bit of a program, by its instruction. -/
theorem pvals_at {l : List Bool} {c : List Ins} {i : Nat} {x : Ins} (h : c[i]? = some x) (ha : x.a.toNat < l.length + i) (hb : x.b.toNat < l.length + i) :
    (pvals l c).getD (l.length + i) false = opB x.op ((pvals l c).getD x.a.toNat false) ((pvals l c).getD x.b.toNat false) := by
  have hi := lt_of_some h
  have hp : pvals l (c.take i) <+: pvals l c := by
    conv => rhs; rw [← List.take_append_drop i c, pvals_append]
    exact pvals_prefix _ _
  have hp1 : pvals l (c.take (i + 1)) <+: pvals l c := by
    conv => rhs; rw [← List.take_append_drop (i + 1) c, pvals_append]
    exact pvals_prefix _ _
  have hlen : (pvals l (c.take i)).length = l.length + i := by rw [pvals_len, List.length_take]; omega
  have hlen1 : (pvals l (c.take (i + 1))).length = l.length + i + 1 := by rw [pvals_len, List.length_take]; omega
  rw [getD_prefix hp1 (j := l.length + i) (by omega), getD_prefix hp (j := x.a.toNat) (by omega), getD_prefix hp (j := x.b.toNat) (by omega), take_snoc h, pvals_snoc]
  rw [List.getD_eq_getElem?_getD, List.getElem?_append_right (by omega), hlen]
  simp
def poutsV (l : List Bool) (c : List Ins) (o : List Int) : List Bool := o.map fun k => (pvals l c).getD k.toNat false

/-! Reducing. -/
/-- The bit of an instruction, which is appended if there is none. -/
def putC (c : List Ins) (x : Ins) : List Ins := if x ∈ c then c else c ++ [x]
def putV (N : Nat) (c : List Ins) (x : Ins) : Int := ((N + c.idxOf x : Nat) : Int)
def notC (N : Nat) (c : List Ins) (a : Int) : List Ins := if a = -2 then c else if a = -1 then c else if (N : Int) ≤ a ∧ (c.getD (a - N).toNat default).op = 5 then c else putC c ⟨5, a, 0⟩
def notV (N : Nat) (c : List Ins) (a : Int) : Int := if a = -2 then -1 else if a = -1 then -2 else if (N : Int) ≤ a ∧ (c.getD (a - N).toNat default).op = 5 then (c.getD (a - N).toNat default).a else putV N c ⟨5, a, 0⟩
def andC (N : Nat) (c : List Ins) (a b : Int) : List Ins := if a = -2 ∨ a = b then c else if a = -1 then c else putC c ⟨3, a, b⟩
def andV (N : Nat) (c : List Ins) (a b : Int) : Int := if a = -2 ∨ a = b then a else if a = -1 then b else putV N c ⟨3, a, b⟩
def xorC (N : Nat) (c : List Ins) (a b : Int) : List Ins := if a = b then c else if a = -2 then c else if a = -1 then notC N c b else putC c ⟨4, a, b⟩
def xorV (N : Nat) (c : List Ins) (a b : Int) : Int := if a = b then -2 else if a = -2 then b else if a = -1 then notV N c b else putV N c ⟨4, a, b⟩
def minZ (a b : Int) : Int := if b < a then b else a
def maxZ (a b : Int) : Int := if a < b then b else a
/-- The new program's code, and the value, behind one more instruction. -/
def stC (N : Nat) (c : List Ins) (vs : List Int) (x : Ins) : List Ins :=
  if x.op = 1 then c else if x.op = 2 then c else if x.op = 5 then notC N c (vs.getD x.a.toNat 0)
  else if x.op = 3 then andC N c (minZ (vs.getD x.a.toNat 0) (vs.getD x.b.toNat 0)) (maxZ (vs.getD x.a.toNat 0) (vs.getD x.b.toNat 0)) else xorC N c (minZ (vs.getD x.a.toNat 0) (vs.getD x.b.toNat 0)) (maxZ (vs.getD x.a.toNat 0) (vs.getD x.b.toNat 0))
def stV (N : Nat) (c : List Ins) (vs : List Int) (x : Ins) : Int :=
  if x.op = 1 then -2 else if x.op = 2 then -1 else if x.op = 5 then notV N c (vs.getD x.a.toNat 0)
  else if x.op = 3 then andV N c (minZ (vs.getD x.a.toNat 0) (vs.getD x.b.toNat 0)) (maxZ (vs.getD x.a.toNat 0) (vs.getD x.b.toNat 0)) else xorV N c (minZ (vs.getD x.a.toNat 0) (vs.getD x.b.toNat 0)) (maxZ (vs.getD x.a.toNat 0) (vs.getD x.b.toNat 0))
/-- The numbers below n. -/
def upToI (n : Nat) : List Int := (List.range n).map (fun (k : Nat) => (k : Int))
theorem upToI_succ (n : Nat) : upToI (n + 1) = upToI n ++ [(n : Int)] := by simp [upToI, List.range_succ]
theorem upToI_len (n : Nat) : (upToI n).length = n := by simp [upToI]
theorem upToI_get {n j : Nat} (h : j < n) : (upToI n).getD j 0 = (j : Int) := by
  rw [List.getD_eq_getElem?_getD]
  simp [upToI, h]
/-- Code and values behind the instructions. -/
def redS (N : Nat) (c : List Ins) : List Ins × List Int := c.foldl (fun s x => (stC N s.1 s.2 x, s.2 ++ [stV N s.1 s.2 x])) ([], upToI N)
theorem redS_snoc (N : Nat) (c : List Ins) (x : Ins) : redS N (c ++ [x]) = (stC N (redS N c).1 (redS N c).2 x, (redS N c).2 ++ [stV N (redS N c).1 (redS N c).2 x]) := by simp [redS]
theorem snoc_ind {α : Type} {P : List α → Prop} (h0 : P []) (h1 : ∀ l x, P l → P (l ++ [x])) (l : List α) : P l := by
  have h : ∀ m : List α, P m.reverse := by
    intro m
    induction m with
    | nil => exact h0
    | cons x t ih => rw [List.reverse_cons]; exact h1 _ _ ih
  have := h l.reverse
  rwa [List.reverse_reverse] at this
theorem redS_len (N : Nat) (c : List Ins) : (redS N c).2.length = N + c.length := by
  induction c using snoc_ind with
  | h0 => simp [redS, upToI_len]
  | h1 c x ih => rw [redS_snoc]; simp [ih]; omega
/-- What is needed: by the outputs; by the instructions, the last first. -/
def nd0 (vs outs : List Int) (j : Nat) : Bool := outs.any fun k => decide (vs.getD k.toNat 0 = (j : Int))
def twoB (op : Int) : Bool := decide (op = 3) || decide (op = 4)
def usesB (x : Ins) (j : Nat) : Bool := decide (x.a = (j : Int)) || (twoB x.op && decide (x.b = (j : Int)))
def ndStep (N : Nat) (c : List Ins) (nd : Nat → Bool) (i : Nat) : Nat → Bool := fun j => nd j || (nd (N + i) && usesB (c.getD i default) j)
def ndFrom (N : Nat) (c : List Ins) : Nat → (Nat → Bool) → Nat → Bool
  | 0, nd => nd
  | m + 1, nd => ndFrom N c m (ndStep N c nd m)
def ndAll (N : Nat) (c : List Ins) (vs outs : List Int) : Nat → Bool := ndFrom N c c.length (nd0 vs outs)
/-- The instructions that are needed, and where the bits stand then. -/
def plU (pl : Nat → Int) (i : Nat) (v : Int) : Nat → Int := fun j => if j = i then v else pl j
def moved (pl : Nat → Int) (x : Ins) : Ins := ⟨x.op, pl x.a.toNat, if twoB x.op then pl x.b.toNat else x.b⟩
def packS (N : Nat) (c : List Ins) (nd : Nat → Bool) : Nat → List Ins × (Nat → Int)
  | 0 => ([], fun j => if j < N then (j : Int) else 0)
  | i + 1 => if nd (N + i) then ((packS N c nd i).1 ++ [moved (packS N c nd i).2 (c.getD i default)], plU (packS N c nd i).2 (N + i) ((N + (packS N c nd i).1.length : Nat) : Int)) else packS N c nd i
def hasV (vs outs : List Int) (v : Int) : Bool := outs.any fun k => decide (vs.getD k.toNat 0 = v)
def constL (z o : Bool) : List Ins := (if z then [⟨1, 0, 0⟩] else []) ++ (if o then [⟨2, 0, 0⟩] else [])
/-- The reduced program: its code, its outputs. -/
def redC (N : Nat) (c : List Ins) (outs : List Int) : List Ins :=
  (packS N (redS N c).1 (ndAll N (redS N c).1 (redS N c).2 outs) (redS N c).1.length).1 ++ constL (hasV (redS N c).2 outs (-2)) (hasV (redS N c).2 outs (-1))
def outV (N m : Nat) (z : Bool) (pl : Nat → Int) (v : Int) : Int := if v = -2 then ((N + m : Nat) : Int) else if v = -1 then ((N + m + (if z then 1 else 0) : Nat) : Int) else pl v.toNat
def redO (N : Nat) (c : List Ins) (outs : List Int) : List Int :=
  outs.map fun k => outV N (packS N (redS N c).1 (ndAll N (redS N c).1 (redS N c).2 outs) (redS N c).1.length).1.length (hasV (redS N c).2 outs (-2)) (packS N (redS N c).1 (ndAll N (redS N c).1 (redS N c).2 outs) (redS N c).1.length).2 ((redS N c).2.getD k.toNat 0)
end Go.Proofs.YtcdfghogmdhfcaaGreatDoor
