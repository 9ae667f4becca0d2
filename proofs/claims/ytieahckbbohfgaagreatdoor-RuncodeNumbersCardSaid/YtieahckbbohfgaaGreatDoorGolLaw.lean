/-
  Golomb words, gamma words: plain laws of binary digits.
  No condition: no program in sight.
-/
import Derived.Lib.BitFns
namespace Go.Proofs.YtieahckbbohfgaaGreatDoor
set_option linter.unusedVariables false

/-- n with k binary digits. -/
def binW (n : Nat) : Nat → List UInt8
  | 0 => []
  | k + 1 => binW (n / 2) k ++ [(48 + n % 2).toUInt8]
theorem binW_len (n k : Nat) : (binW n k).length = k := by
  induction k generalizing n with
  | zero => rfl
  | succ k ih => simp [binW, ih]
def isBit (c : UInt8) : Bool := c == 48 || c == 49
theorem isBit_digit (n : Nat) : isBit (48 + n % 2).toUInt8 = true := by
  rcases Nat.mod_two_eq_zero_or_one n with h | h <;> rw [h] <;> rfl
theorem digit_back (n : Nat) : ((48 + n % 2).toUInt8).toNat = 48 + n % 2 := by
  rcases Nat.mod_two_eq_zero_or_one n with h | h <;> rw [h] <;> rfl
theorem binW_bits (n k : Nat) : ∀ c ∈ binW n k, isBit c = true := by
  induction k generalizing n with
  | zero => intro c h; cases h
  | succ k ih =>
    intro c h
    rcases List.mem_append.1 h with h | h
    · exact ih _ c h
    · rw [List.mem_singleton.1 h]; exact isBit_digit n
/-- The number that binary digits say. -/
def valW (l : List UInt8) : Nat := l.foldl (fun a c => 2 * a + (c.toNat - 48)) 0
theorem valW_nil : valW [] = 0 := rfl
theorem valW_snoc (l : List UInt8) (c : UInt8) : valW (l ++ [c]) = 2 * valW l + (c.toNat - 48) := by simp [valW]
theorem valW_binW (n k : Nat) : valW (binW n k) = n % 2 ^ k := by
  induction k generalizing n with
  | zero => simp [binW, valW, Nat.mod_one]
  | succ k ih =>
    rw [binW, valW_snoc, ih, digit_back, Nat.pow_succ, Nat.mul_comm (2 ^ k) 2, Nat.mod_mul]
    omega
theorem isBit_val {c : UInt8} (h : isBit c = true) : c.toNat - 48 ≤ 1 ∧ 48 ≤ c.toNat ∧ (48 + (c.toNat - 48)).toUInt8 = c := by
  unfold isBit at h
  simp at h
  rcases h with rfl | rfl <;> decide
theorem snoc_ind {P : List UInt8 → Prop} (h0 : P []) (h1 : ∀ l c, P l → P (l ++ [c])) : ∀ n (l : List UInt8), l.length = n → P l := by
  intro n
  induction n with
  | zero => intro l h; rw [List.length_eq_zero_iff.1 h]; exact h0
  | succ n ih =>
    intro l h
    rw [← List.dropLast_concat_getLast (l := l) (by intro e; rw [e] at h; simp at h)]
    exact h1 _ _ (ih _ (by simp [h]))
theorem valW_lt : ∀ (l : List UInt8), (∀ c ∈ l, isBit c = true) → valW l < 2 ^ l.length := fun l => snoc_ind (P := fun l => (∀ c ∈ l, isBit c = true) → valW l < 2 ^ l.length) (fun _ => by simp [valW]) (fun l c ih h => by
    have h1 := ih (fun c hc => h c (by simp [hc]))
    have h2 := (isBit_val (h c (by simp))).1
    rw [valW_snoc, List.length_append, List.length_singleton, Nat.pow_succ]
    omega) _ l rfl
theorem binW_valW : ∀ (l : List UInt8), (∀ c ∈ l, isBit c = true) → binW (valW l) l.length = l := fun l => snoc_ind (P := fun l => (∀ c ∈ l, isBit c = true) → binW (valW l) l.length = l) (fun _ => rfl) (fun l c ih h => by
    have h1 := ih (fun c hc => h c (by simp [hc]))
    obtain ⟨h2, h3, h4⟩ := isBit_val (h c (by simp))
    rw [valW_snoc, List.length_append, List.length_singleton, binW]
    have e1 : (2 * valW l + (c.toNat - 48)) / 2 = valW l := by omega
    have e2 : (2 * valW l + (c.toNat - 48)) % 2 = c.toNat - 48 := by omega
    rw [e1, e2, h1, h4]) _ l rfl
theorem binW_inj {a b k : Nat} (ha : a < 2 ^ k) (hb : b < 2 ^ k) (h : binW a k = binW b k) : a = b := by
  have := congrArg valW h
  rwa [valW_binW, valW_binW, Nat.mod_eq_of_lt ha, Nat.mod_eq_of_lt hb] at this
theorem binW_take (n k j : Nat) (hj : j ≤ k) : (binW n k).take j = binW (n / 2 ^ (k - j)) j := by
  induction k generalizing n with
  | zero => obtain rfl : j = 0 := by omega
            rfl
  | succ k ih =>
    rcases Nat.lt_or_ge j (k + 1) with h | h
    · rw [binW, List.take_append_of_le_length (by rw [binW_len]; omega), ih _ (by omega), Nat.div_div_eq_div_mul]
      congr 2
      rw [show k + 1 - j = (k - j) + 1 by omega, Nat.pow_succ, Nat.mul_comm]
    · obtain rfl : j = k + 1 := by omega
      rw [Nat.sub_self, Nat.pow_zero, Nat.div_one, List.take_of_length_le (by rw [binW_len]; omega)]

/-- The number of digits of the longer rests, and how many rests are shorter. -/
def gB (m : Nat) : Nat := Lib.bitLen (m - 1)
def gH (m : Nat) : Nat := 2 ^ gB m - m
theorem bitLenAux_bounds : ∀ (f x : Nat), x ≠ 0 → x < 2 ^ f → 2 ^ (Lib.bitLenAux f x - 1) ≤ x ∧ x < 2 ^ Lib.bitLenAux f x ∧ 1 ≤ Lib.bitLenAux f x
  | 0, x, h0, h => by simp at h; omega
  | f + 1, x, h0, h => by
    rw [Lib.bitLenAux, if_neg h0]
    rcases Nat.lt_or_ge x 2 with h1 | h1
    · obtain rfl : x = 1 := by omega
      have : Lib.bitLenAux f (1 / 2) = 0 := by cases f <;> simp [Lib.bitLenAux]
      rw [this]; simp
    · obtain ⟨g1, g2, g3⟩ := bitLenAux_bounds f (x / 2) (by omega) (by rw [Nat.pow_succ] at h; omega)
      refine ⟨?_, ?_, by omega⟩
      · rw [show 1 + Lib.bitLenAux f (x / 2) - 1 = (Lib.bitLenAux f (x / 2) - 1) + 1 by omega, Nat.pow_succ]; omega
      · rw [Nat.add_comm, Nat.pow_succ]; omega
theorem gB_one : gB 1 = 0 := rfl
theorem gB_two {m : Nat} (h : 2 ≤ m) (h2 : m ≤ 1000000) : 2 ^ (gB m - 1) < m ∧ m ≤ 2 ^ gB m ∧ 1 ≤ gB m ∧ gB m ≤ 20 := by
  obtain ⟨g1, g2, g3⟩ := bitLenAux_bounds 64 (m - 1) (by omega) (by omega)
  have h4 : Lib.bitLenAux 64 (m - 1) ≤ 20 := Lib.bitLenAux_le 64 (m - 1) 20 (by omega)
  exact ⟨by show 2 ^ (Lib.bitLenAux 64 (m - 1) - 1) < m; omega, by show m ≤ 2 ^ Lib.bitLenAux 64 (m - 1); omega, g3, h4⟩
theorem gH_two {m : Nat} (h : 2 ≤ m) (h2 : m ≤ 1000000) : gH m + m = 2 ^ gB m ∧ gH m < m ∧ gH m < 2 ^ (gB m - 1) ∧ 2 * 2 ^ (gB m - 1) = 2 ^ gB m := by
  obtain ⟨g1, g2, g3, g4⟩ := gB_two h h2
  have e : 2 * 2 ^ (gB m - 1) = 2 ^ gB m := by
    rw [Nat.mul_comm, ← Nat.pow_succ]
    congr 1; omega
  unfold gH
  omega
theorem gH_one : gH 1 = 0 := rfl
/-- What follows the ones and the nought. -/
def golT (m r : Nat) : List UInt8 := if r < gH m then binW r (gB m - 1) else binW (r + gH m) (gB m)
def golW (m n : Nat) : List UInt8 := List.replicate (n / m) 49 ++ 48 :: golT m (n % m)
theorem golT_len (m r : Nat) : (golT m r).length = if r < gH m then gB m - 1 else gB m := by
  unfold golT
  split <;> rw [binW_len]
theorem golT_le (m r : Nat) : (golT m r).length ≤ gB m := by rw [golT_len]; split <;> omega
theorem golW_len (m n : Nat) : (golW m n).length = n / m + 1 + (golT m (n % m)).length := by simp [golW]; omega
theorem golT_bits (m r : Nat) : ∀ c ∈ golT m r, isBit c = true := by
  unfold golT
  split <;> exact binW_bits _ _
theorem golW_bits (m n : Nat) : ∀ c ∈ golW m n, isBit c = true := by
  intro c hc
  rcases List.mem_append.1 hc with h | h
  · rw [(List.mem_replicate.1 h).2]; rfl
  · rcases List.mem_cons.1 h with rfl | h
    · rfl
    · exact golT_bits _ _ c h
/-- What is read behind the first nought: the rest of the number, and how many letters. -/
def readT (m : Nat) (t : List UInt8) : Option (Nat × Nat) :=
  if gB m = 0 then some (0, 0) else
  if t.length < gB m - 1 then none else
  if valW (t.take (gB m - 1)) < gH m then some (valW (t.take (gB m - 1)), gB m - 1) else
  if t.length < gB m then none else some (valW (t.take (gB m)) - gH m, gB m)
theorem take_half (t : List UInt8) (k : Nat) (hk : k < t.length) (hb : ∀ c ∈ t, isBit c = true) : valW (t.take (k + 1)) = 2 * valW (t.take k) + valW [t[k]] ∧ valW [t[k]] ≤ 1 := by
  rw [List.take_succ_eq_append_getElem hk, valW_snoc]
  have := (isBit_val (hb t[k] (List.getElem_mem hk))).1
  refine ⟨by simp [valW], ?_⟩
  show 2 * 0 + (t[k].toNat - 48) ≤ 1
  omega
theorem readT_gol {m r : Nat} (h : 1 ≤ m) (h2 : m ≤ 1000000) (hr : r < m) (t : List UInt8) (hb : ∀ c ∈ t, isBit c = true) : readT m (golT m r ++ t) = some (r, (golT m r).length) := by
  rcases Nat.lt_or_ge m 2 with h1 | h1
  · obtain rfl : m = 1 := by omega
    obtain rfl : r = 0 := by omega
    rfl
  obtain ⟨g1, g2, g3, g4⟩ := gB_two h1 h2
  obtain ⟨e1, e2, e3, e4⟩ := gH_two h1 h2
  rw [golT_len]
  unfold readT
  rw [if_neg (by omega), List.length_append, golT_len]
  by_cases hrh : r < gH m
  · rw [if_pos hrh, if_neg (by omega)]
    have : (golT m r ++ t).take (gB m - 1) = binW r (gB m - 1) := by
      unfold golT
      rw [if_pos hrh, List.take_append_of_le_length (by rw [binW_len]; omega), List.take_of_length_le (by rw [binW_len]; omega)]
    rw [this, valW_binW, Nat.mod_eq_of_lt (by omega), if_pos hrh]
  · rw [if_neg hrh, if_neg (by omega)]
    have e5 : (golT m r ++ t).take (gB m) = binW (r + gH m) (gB m) := by
      unfold golT
      rw [if_neg hrh, List.take_append_of_le_length (by rw [binW_len]; omega), List.take_of_length_le (by rw [binW_len]; omega)]
    have e6 : (golT m r ++ t).take (gB m - 1) = binW ((r + gH m) / 2) (gB m - 1) := by
      unfold golT
      rw [if_neg hrh, List.take_append_of_le_length (by rw [binW_len]; omega), binW_take _ _ _ (by omega), show gB m - (gB m - 1) = 1 by omega]
    rw [e6, valW_binW, Nat.mod_eq_of_lt (by omega), if_neg (by omega), if_neg (by omega), e5, valW_binW, Nat.mod_eq_of_lt (by omega)]
    simp
/-- What is read begins the text. -/
theorem readT_pre {m r k : Nat} (h : 1 ≤ m) (h2 : m ≤ 1000000) {t : List UInt8} (hb : ∀ c ∈ t, isBit c = true) (hr : readT m t = some (r, k)) : r < m ∧ k ≤ t.length ∧ t.take k = golT m r := by
  rcases Nat.lt_or_ge m 2 with h1 | h1
  · obtain rfl : m = 1 := by omega
    cases hr
    exact ⟨by omega, by omega, rfl⟩
  obtain ⟨g1, g2, g3, g4⟩ := gB_two h1 h2
  obtain ⟨e1, e2, e3, e4⟩ := gH_two h1 h2
  unfold readT at hr
  rw [if_neg (by omega)] at hr
  split at hr
  · cases hr
  rename_i hl
  split at hr
  · rename_i hv
    simp only [Option.some.injEq, Prod.mk.injEq] at hr
    obtain ⟨rfl, rfl⟩ := hr
    refine ⟨by omega, by omega, ?_⟩
    unfold golT
    rw [if_pos hv]
    have := binW_valW (t.take (gB m - 1)) (fun c hc => hb c (List.mem_of_mem_take hc))
    rw [List.length_take, Nat.min_eq_left (by omega)] at this
    exact this.symm
  · rename_i hv
    split at hr
    · cases hr
    rename_i hl2
    simp only [Option.some.injEq, Prod.mk.injEq] at hr
    obtain ⟨rfl, rfl⟩ := hr
    have hlt := valW_lt (t.take (gB m)) (fun c hc => hb c (List.mem_of_mem_take hc))
    rw [List.length_take, Nat.min_eq_left (by omega)] at hlt
    obtain ⟨q1, q2⟩ := take_half t (gB m - 1) (by omega) hb
    rw [show gB m - 1 + 1 = gB m by omega] at q1
    have hge : 2 * gH m ≤ valW (t.take (gB m)) := by omega
    refine ⟨by omega, by omega, ?_⟩
    unfold golT
    rw [if_neg (by omega), Nat.sub_add_cancel (by omega)]
    have := binW_valW (t.take (gB m)) (fun c hc => hb c (List.mem_of_mem_take hc))
    rw [List.length_take, Nat.min_eq_left (by omega)] at this
    exact this.symm
/-- How many ones are ahead. -/
def onesN : List UInt8 → Nat
  | [] => 0
  | c :: l => if c = 49 then onesN l + 1 else 0
theorem onesN_le (l : List UInt8) : onesN l ≤ l.length := by
  induction l with
  | nil => simp [onesN]
  | cons c l ih => rw [onesN]; split <;> simp <;> omega
theorem onesN_rep (a : Nat) (l : List UInt8) : onesN (List.replicate a 49 ++ 48 :: l) = a := by
  induction a with
  | zero => rfl
  | succ a ih => rw [List.replicate_succ, List.cons_append, onesN, if_pos rfl, ih]
theorem onesN_split : ∀ (l : List UInt8), (∀ c ∈ l, isBit c = true) → l = List.replicate (onesN l) 49 ∨ ∃ t, l = List.replicate (onesN l) 49 ++ 48 :: t
  | [], _ => .inl rfl
  | c :: l, h => by
    rw [onesN]
    by_cases hc : c = 49
    · rw [if_pos hc, List.replicate_succ]
      rcases onesN_split l (fun c hc => h c (by simp [hc])) with e | ⟨t, e⟩
      · exact .inl (by rw [← e, hc])
      · exact .inr ⟨t, by rw [List.cons_append, ← e, hc]⟩
    · rw [if_neg hc]
      have := h c (by simp)
      unfold isBit at this
      simp [hc] at this
      exact .inr ⟨l, by rw [this]; rfl⟩
/-- What reading a word yields. -/
def ungol (m : Nat) (w : List UInt8) : Option (Nat × Nat) :=
  if onesN w = w.length then none else
  match readT m (w.drop (onesN w + 1)) with
  | none => none
  | some (r, k) => some (onesN w * m + r, onesN w + 1 + k)
theorem golW_at {m a r : Nat} (h : 1 ≤ m) (hr : r < m) : golW m (a * m + r) = List.replicate a 49 ++ 48 :: golT m r := by
  unfold golW
  rw [Nat.add_comm, Nat.add_mul_div_right _ _ (by omega), Nat.div_eq_of_lt hr, Nat.zero_add, Nat.add_mul_mod_self_right, Nat.mod_eq_of_lt hr]
theorem golW_eq {m n : Nat} : golW m n = List.replicate (n / m) 49 ++ 48 :: golT m (n % m) := rfl
theorem ungol_rep (m a : Nat) (t : List UInt8) : ungol m (List.replicate a 49 ++ 48 :: t) = match readT m t with | none => none | some (r, k) => some (a * m + r, a + 1 + k) := by
  unfold ungol
  rw [onesN_rep, if_neg (by simp), List.drop_append, List.drop_of_length_le (by simp)]
  simp
theorem ungol_gol {m n : Nat} (h : 1 ≤ m) (h2 : m ≤ 1000000) (t : List UInt8) (hb : ∀ c ∈ t, isBit c = true) : ungol m (golW m n ++ t) = some (n, (golW m n).length) := by
  rw [golW_len, golW_eq, List.append_assoc, List.cons_append, ungol_rep, readT_gol h h2 (Nat.mod_lt _ (by omega)) t hb]
  simp only [Option.some.injEq, Prod.mk.injEq, and_true]
  rw [Nat.mul_comm]; exact Nat.div_add_mod n m
theorem golW_prefix {m a b : Nat} (h : 1 ≤ m) (h2 : m ≤ 1000000) (hp : golW m a <+: golW m b) : a = b := by
  obtain ⟨t, ht⟩ := hp
  have hb : ∀ c ∈ t, isBit c = true := fun c hc => golW_bits m b c (by rw [← ht]; simp [hc])
  have h3 := ungol_gol (n := a) h h2 t hb
  have h4 := ungol_gol (n := b) h h2 [] (fun c hc => by cases hc)
  rw [List.append_nil] at h4
  rw [ht, h4] at h3
  simp only [Option.some.injEq, Prod.mk.injEq] at h3
  exact h3.1.symm
theorem golW_mono {m a b : Nat} (h : 1 ≤ m) (h2 : m ≤ 1000000) (hab : a ≤ b) : (golW m a).length ≤ (golW m b).length := by
  rw [golW_len, golW_len]
  have hd := Nat.div_le_div_right (c := m) hab
  rcases Nat.lt_or_ge (a / m) (b / m) with hl | hl
  · have h5 : (golT m (a % m)).length ≤ (golT m (b % m)).length + 1 := by
      rw [golT_len, golT_len]
      split <;> split <;> omega
    omega
  · have e : a / m = b / m := by omega
    have h6 : a % m ≤ b % m := by
      have h7 := Nat.div_add_mod a m
      have h8 := Nat.div_add_mod b m
      rw [e] at h7
      omega
    rw [golT_len, golT_len]
    split <;> split <;> omega
end Go.Proofs.YtieahckbbohfgaaGreatDoor
