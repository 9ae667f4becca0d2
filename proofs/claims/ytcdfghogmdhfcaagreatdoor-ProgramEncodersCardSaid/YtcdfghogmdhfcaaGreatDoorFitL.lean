/-
  What a program says for an encoder, in plain terms: its outputs as a cell; why it does not fit.
  No condition: plain laws.
-/
import Derived.Test.YtcdfghogmdhfcaaGreatDoorEncStepS
import Derived.Test.YtcdfghogmdhfcaaGreatDoorMg13
namespace Go.Proofs.YtcdfghogmdhfcaaGreatDoor
set_option linter.unusedVariables false

theorem numB_inj : ∀ {a b : List Bool}, a.length = b.length → numB a = numB b → a = b
  | [], [], _, _ => rfl
  | [], _ :: _, h, _ => by simp at h
  | _ :: _, [], h, _ => by simp at h
  | x :: a, y :: b, h, e => by
    have hl : a.length = b.length := by simpa using h
    have h1 := numB_lt a
    have h2 := numB_lt b
    rw [numB, numB] at e
    rw [hl] at e h1
    cases x <;> cases y
    · simp only [Bool.false_eq_true, if_false, Nat.zero_add] at e
      rw [numB_inj hl e]
    · simp only [Bool.false_eq_true, if_false, if_true, Nat.zero_add] at e; omega
    · simp only [Bool.false_eq_true, if_false, if_true, Nat.zero_add] at e; omega
    · simp only [if_true] at e
      rw [numB_inj hl (by omega)]
theorem binL_numB (l : List Bool) : binL l.length (numB l) = l := by
  refine numB_inj (binL_len _ _) ?_
  rw [binL_num, Nat.mod_eq_of_lt (numB_lt l)]
/-- The letter of some bits. -/
def letN (T : List Bool) (lo m : Nat) : UInt8 := lettersL.getD (numB ((T.drop lo).take m)) 0
/-- The cell that outputs say. -/
def decCl (sb wq bl : Nat) (T : List Bool) : Cl := ⟨((numB (T.take sb) : Nat) : Int), ⟨((List.range bl).map fun i => letN T (sb + i * wq) wq).toArray⟩⟩
theorem decCl_size (sb wq bl : Nat) (T : List Bool) : (decCl sb wq bl T).word.size = bl := by
  show ((List.range bl).map fun i => letN T (sb + i * wq) wq).toArray.size = bl
  simp
theorem part_lt {T : List Bool} {lo m : Nat} (h : m ≤ 4) : numB ((T.drop lo).take m) < 2 ^ m ∧ numB ((T.drop lo).take m) < 16 := by
  have h1 := numB_lt ((T.drop lo).take m)
  have h2 : 2 ^ ((T.drop lo).take m).length ≤ 2 ^ m := Nat.pow_le_pow_right (by decide) (by rw [List.length_take]; omega)
  have h3 : 2 ^ m ≤ 2 ^ 4 := Nat.pow_le_pow_right (by decide) h
  omega
theorem letN_dig {T : List Bool} {lo m : Nat} (h : m ≤ 4) : digit (letN T lo m) = ((numB ((T.drop lo).take m) : Nat) : Int) := digit_letter (part_lt h).2
theorem decCl_word {sb wq bl : Nat} {T : List Bool} (hq : wq ≤ 4) (hb : bl ≤ 16) : wordErr ((2 ^ wq : Nat) : Int) (decCl sb wq bl T).word = 0 := by
  have hp : 2 ^ wq ≤ 2 ^ 4 := Nat.pow_le_pow_right (by decide) hq
  have hp1 : 1 ≤ 2 ^ wq := Nat.one_le_two_pow
  refine wordErr_zero.2 ⟨by omega, by omega, by rw [decCl_size]; omega, ?_⟩
  unfold okWord
  rw [List.all_eq_true]
  intro c hc
  have hc2 : c ∈ (List.range bl).map fun i => letN T (sb + i * wq) wq := by
    have e : (decCl sb wq bl T).word.data.toList = (List.range bl).map fun i => letN T (sb + i * wq) wq := by show ((List.range bl).map fun i => letN T (sb + i * wq) wq).toArray.toList = _; simp
    rw [e] at hc
    exact hc
  obtain ⟨i, _, rfl⟩ := List.mem_map.1 hc2
  have h1 := (part_lt (T := T) (lo := sb + i * wq) hq).1
  rw [decide_eq_true_iff, letN_dig hq]
  omega
theorem decCl_st {sb wq bl : Nat} {T : List Bool} : 0 ≤ (decCl sb wq bl T).st ∧ (decCl sb wq bl T).st < ((2 ^ sb : Nat) : Int) := by
  have h1 := numB_lt (T.take sb)
  have h2 : 2 ^ (T.take sb).length ≤ 2 ^ sb := Nat.pow_le_pow_right (by decide) (by rw [List.length_take]; omega)
  show 0 ≤ ((numB (T.take sb) : Nat) : Int) ∧ ((numB (T.take sb) : Nat) : Int) < _
  omega
theorem split_parts : ∀ (bl wq : Nat) (T : List Bool), T.length = bl * wq → (List.range bl).flatMap (fun i => (T.drop (i * wq)).take wq) = T
  | 0, wq, T, h => by simp at h; subst h; rfl
  | bl + 1, wq, T, h => by
    have e : List.range (bl + 1) = 0 :: (List.range bl).map (· + 1) := by rw [List.range_succ_eq_map]
    rw [e, List.flatMap_cons, List.flatMap_map, Nat.zero_mul, List.drop_zero]
    have ih := split_parts bl wq (T.drop wq) (by rw [List.length_drop, h, Nat.succ_mul]; omega)
    have e2 : (fun a => (T.drop ((a + 1) * wq)).take wq) = fun i => ((T.drop wq).drop (i * wq)).take wq := by
      funext i
      rw [List.drop_drop, Nat.succ_mul, Nat.add_comm]
    show T.take wq ++ (List.range bl).flatMap (fun a => (T.drop ((a + 1) * wq)).take wq) = T
    rw [e2, ih, List.take_append_drop]
theorem flat_eq {α β : Type} {f g : α → List β} : ∀ {l : List α}, (∀ a ∈ l, f a = g a) → l.flatMap f = l.flatMap g
  | [], _ => rfl
  | a :: l, h => by rw [List.flatMap_cons, List.flatMap_cons, h a (by simp), flat_eq (l := l) fun b hb => h b (by simp [hb])]
theorem decCl_bits {q n bl : Nat} {T : List Bool} (hq : wid q ≤ 4) (hT : T.length = wid n + bl * wid q) : cellBits q n (decCl (wid n) (wid q) bl T) = T := by
  unfold cellBits
  have e : (decCl (wid n) (wid q) bl T).word.data.toList = (List.range bl).map fun i => letN T (wid n + i * wid q) (wid q) := by show ((List.range bl).map fun i => letN T (wid n + i * wid q) (wid q)).toArray.toList = _; simp
  have e1 : binL (wid n) (decCl (wid n) (wid q) bl T).st.toNat = T.take (wid n) := by
    show binL (wid n) (((numB (T.take (wid n)) : Nat) : Int)).toNat = _
    rw [Int.toNat_natCast]
    have h := binL_numB (T.take (wid n))
    rwa [show (T.take (wid n)).length = wid n by rw [List.length_take]; omega] at h
  have e2 : ((List.range bl).map fun i => letN T (wid n + i * wid q) (wid q)).flatMap (fun ch => binL (wid q) (dig ch)) = T.drop (wid n) := by
    rw [List.flatMap_map]
    have h := split_parts bl (wid q) (T.drop (wid n)) (by rw [List.length_drop, hT]; omega)
    conv => rhs; rw [← h]
    refine flat_eq fun i hi => ?_
    have hi2 := List.mem_range.1 hi
    have hd : dig (letN T (wid n + i * wid q) (wid q)) = numB ((T.drop (wid n + i * wid q)).take (wid q)) := by
      have h2 := letN_dig (T := T) (lo := wid n + i * wid q) hq
      unfold dig
      rw [h2, Int.toNat_natCast]
    have hl : ((T.drop (wid n + i * wid q)).take (wid q)).length = wid q := by
      have hm := Nat.mul_le_mul_right (wid q) (show i + 1 ≤ bl by omega)
      rw [Nat.succ_mul] at hm
      rw [List.length_take, List.length_drop, hT]; omega
    have h3 := binL_numB ((T.drop (wid n + i * wid q)).take (wid q))
    rw [hl] at h3
    show binL (wid q) (dig (letN T (wid n + i * wid q) (wid q))) = ((T.drop (wid n)).drop (i * wid q)).take (wid q)
    rw [hd, h3, List.drop_drop]
  rw [e, e1, e2, List.take_append_drop]
/-- Why a program does not fit an encoder. -/
def fitV (q bl I : Int) (rows : List (List Cl)) (n : Int) (c : List Ins) (o : List Int) : Int :=
  if eErr q bl I rows ≠ 0 ∨ progErr n c o ≠ 0 then 1 else if n = ((wid rows.length + wid I.toNat : Nat) : Int) ∧ o.length = wid rows.length + bl.toNat * wid q.toNat then 0 else 11
/-- The cell that a program says for a state and an input. -/
def sayCl (q bl I n : Nat) (c : List Ins) (o : List Int) (s k : Nat) : Cl := decCl (wid n) (wid q) bl (poutsV (binL (wid n) s ++ binL (wid I) k) c o)
/-- Whether two cells are equal. -/
def eqCl (a b : Cl) : Bool := decide (a.st = b.st) && decide (a.word = b.word)
/-- Whether a program says what the encoder does. -/
def agreeV (q bl I : Nat) (rows : List (List Cl)) (c : List Ins) (o : List Int) : Bool := (List.range rows.length).all fun s => (List.range I).all fun k => eqCl ((rows.getD s []).getD k ⟨0, ⟨#[]⟩⟩) (sayCl q bl I rows.length c o s k)
end Go.Proofs.YtcdfghogmdhfcaaGreatDoor
