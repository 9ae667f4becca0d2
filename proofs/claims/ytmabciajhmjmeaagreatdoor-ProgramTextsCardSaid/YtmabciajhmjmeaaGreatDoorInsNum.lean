/-
  The reference's way to read numbers, as a plain function, says what the split says.
  No condition: no program in sight.
-/
import Derived.Test.YtmabciajhmjmeaaGreatDoorInsTxt
namespace Go.Proofs.YtmabciajhmjmeaaGreatDoor
open Go.RowKit
set_option linter.unusedVariables false

def isDg (c : UInt8) : Bool := decide (48 ≤ c.toNat) && decide (c.toNat ≤ 57)
def valD (l : List UInt8) : Nat := l.foldl (fun a c => 10 * a + (c.toNat - 48)) 0
theorem valD_snoc (l : List UInt8) (c : UInt8) : valD (l ++ [c]) = 10 * valD l + (c.toNat - 48) := by simp [valD]
/-- The digits that are taken: ten at most. -/
def runD (t : List UInt8) : List UInt8 := (t.take 10).takeWhile isDg
def badD (D : List UInt8) : Bool := decide (D = []) || decide (10 ≤ D.length) || (decide (D.head? = some 48) && decide (2 ≤ D.length))
def numsR : List UInt8 → Option (List Nat)
  | [] => some []
  | c :: t => if c ≠ 32 ∨ badD (runD t) = true then none else (numsR (t.drop (runD t).length)).map fun l => valD (runD t) :: l
  termination_by s => s.length
  decreasing_by simp; omega
theorem valD_dec (u : Nat) : valD (Lib.decDigits u) = u := by
  induction u using Nat.strongRecOn with
  | _ u ih =>
    have hof : ∀ d, d < 10 → (UInt8.ofNat (48 + d)).toNat = 48 + d := fun d hd => by rw [UInt8.toNat_ofNat']; omega
    by_cases h : u < 10
    · rw [Lib.decDigits, dif_pos h]
      show 10 * 0 + ((UInt8.ofNat (48 + u)).toNat - 48) = u
      rw [hof u h]; omega
    · rw [Lib.decDigits, dif_neg h, valD_snoc, ih (u / 10) (by omega), hof (u % 10) (by omega)]
      omega
theorem dec_zero {u : Nat} (h : (Lib.decDigits u).head? = some 48) : u = 0 := by
  induction u using Nat.strongRecOn with
  | _ u ih =>
    by_cases h10 : u < 10
    · rw [Lib.decDigits, dif_pos h10] at h
      have h2 : UInt8.ofNat (48 + u) = 48 := Option.some.inj h
      have := congrArg UInt8.toNat h2
      rw [UInt8.toNat_ofNat'] at this
      have e : (48 : UInt8).toNat = 48 := rfl
      omega
    · rw [Lib.decDigits, dif_neg h10] at h
      obtain ⟨c, r, e⟩ : ∃ c r, Lib.decDigits (u / 10) = c :: r := by
        cases hd : Lib.decDigits (u / 10) with
        | nil => exact absurd hd (dec_some _)
        | cons c r => exact ⟨c, r, rfl⟩
      have := ih (u / 10) (by omega) (by rw [e] at h ⊢; simpa using h)
      omega
/-- Digits without a nought ahead are the digits of their number. -/
theorem dec_valD : ∀ (n : Nat) (l : List UInt8), l.length = n → l ≠ [] → (∀ c ∈ l, isDg c = true) → (l.head? = some 48 → l.length = 1) → Lib.decDigits (valD l) = l ∧ (l.head? ≠ some 48 → 1 ≤ valD l)
  | 0, l, h, h0, _, _ => absurd (List.length_eq_zero_iff.1 h) h0
  | n + 1, l, h, h0, hd, hz => by
    obtain ⟨a, c, rfl⟩ : ∃ a c, l = a ++ [c] := ⟨l.dropLast, l.getLast h0, (List.dropLast_concat_getLast h0).symm⟩
    have hc := hd c (by simp)
    unfold isDg at hc
    simp only [Bool.and_eq_true, decide_eq_true_eq] at hc
    have hcc : UInt8.ofNat (48 + (c.toNat - 48)) = c := by
      apply UInt8.toNat_inj.1
      rw [UInt8.toNat_ofNat']; omega
    rw [valD_snoc]
    by_cases ha : a = []
    · subst ha
      have e : 10 * valD [] + (c.toNat - 48) = c.toNat - 48 := by show 10 * 0 + _ = _; omega
      rw [e, Lib.decDigits, dif_pos (by omega), hcc]
      refine ⟨rfl, fun hne => ?_⟩
      have : c ≠ 48 := fun e => hne (by simp [e])
      have h48 : c.toNat ≠ 48 := fun e => this (UInt8.toNat_inj.1 (by rw [e]; rfl))
      omega
    · have hla : a.length = n := by simpa using h
      have hh : (a ++ [c]).head? = a.head? := by cases a with | nil => exact absurd rfl ha | cons x r => rfl
      have hza : a.head? ≠ some 48 := fun e => by
        have := hz (hh.trans e)
        simp at this
        exact ha this
      obtain ⟨i1, i2⟩ := dec_valD n a hla ha (fun x hx => hd x (by simp [hx])) (fun e => absurd e hza)
      have i3 := i2 hza
      have e1 : (10 * valD a + (c.toNat - 48)) / 10 = valD a := by omega
      have e2 : (10 * valD a + (c.toNat - 48)) % 10 = c.toNat - 48 := by omega
      rw [Lib.decDigits, dif_neg (by omega), e1, e2, i1, hcc]
      exact ⟨rfl, fun _ => by omega⟩
theorem valD_bound : ∀ (n : Nat) (l : List UInt8), l.length = n → (∀ c ∈ l, isDg c = true) → valD l < 10 ^ n
  | 0, l, h, _ => by rw [List.length_eq_zero_iff.1 h]; simp [valD]
  | n + 1, l, h, hd => by
    have h0 : l ≠ [] := by intro e; rw [e] at h; simp at h
    obtain ⟨a, c, rfl⟩ : ∃ a c, l = a ++ [c] := ⟨l.dropLast, l.getLast h0, (List.dropLast_concat_getLast h0).symm⟩
    have h1 := valD_bound n a (by simpa using h) (fun x hx => hd x (by simp [hx]))
    have hc := hd c (by simp)
    unfold isDg at hc
    simp only [Bool.and_eq_true, decide_eq_true_eq] at hc
    rw [valD_snoc, Nat.pow_succ]
    omega
theorem runD_dig (t : List UInt8) : ∀ c ∈ runD t, isDg c = true := fun c hc => List.all_eq_true.1 List.all_takeWhile c hc
theorem runD_pre (t : List UInt8) : runD t <+: t := (List.takeWhile_prefix _).trans (List.take_prefix _ _)
theorem runD_len (t : List UInt8) : (runD t).length ≤ 10 := Nat.le_trans (List.takeWhile_prefix _).length_le (by rw [List.length_take]; exact Nat.min_le_left _ _)
/-- What stands behind the digits is none, if they are not ten. -/
theorem runD_next {t : List UInt8} {c : UInt8} (h : (runD t).length < 10) (hc : t[(runD t).length]? = some c) : isDg c = false := by
  have hlt := (List.getElem?_eq_some_iff.1 hc).1
  have h2 : (t.take 10)[(runD t).length]? = some c := by rw [List.getElem?_take, if_pos h]; exact hc
  have h3 : t.take 10 = runD t ++ (t.take 10).dropWhile isDg := (List.takeWhile_append_dropWhile).symm
  rw [h3, List.getElem?_append_right (Nat.le_refl _), Nat.sub_self] at h2
  cases hd : (t.take 10).dropWhile isDg with
  | nil => rw [hd] at h2; simp at h2
  | cons x r =>
    rw [hd] at h2
    simp at h2
    subst h2
    have := List.head_dropWhile_not isDg (l := t.take 10) (by rw [hd]; simp)
    simpa [hd] using this
theorem splt_form : ∀ t : List UInt8, ((32 : UInt8) ∉ t ∧ splt 32 t = [t]) ∨ ∃ p t', t = p ++ 32 :: t' ∧ (32 : UInt8) ∉ p ∧ splt 32 t = p :: splt 32 t'
  | [] => .inl ⟨by simp, rfl⟩
  | x :: t => by
    by_cases hx : x = 32
    · subst hx
      exact .inr ⟨[], t, rfl, by simp, splt_eq 32 t⟩
    · rcases splt_form t with ⟨h1, h2⟩ | ⟨p, t', h1, h2, h3⟩
      · exact .inl ⟨by simp [h1, Ne.symm hx], splt_ne hx h2⟩
      · exact .inr ⟨x :: p, t', by rw [h1]; rfl, by simp [h2, Ne.symm hx], splt_ne hx h3⟩
theorem runD_app {p r : List UInt8} (h : r = [] ∨ r.head? = some 32) : runD (p ++ r) = runD p := by
  unfold runD
  rw [List.take_append, List.takeWhile_append]
  have hr : (r.take (10 - p.length)).takeWhile isDg = [] := by
    rcases h with rfl | h
    · simp
    · cases r with
      | nil => simp
      | cons x r =>
        simp at h
        subst h
        cases 10 - p.length with
        | zero => simp
        | succ k => simp [isDg]
  rw [hr, List.append_nil]
  split
  · rename_i h1
    have := (List.takeWhile_prefix (l := p.take 10) isDg)
    exact (this.eq_of_length h1).symm
  · rfl
theorem take_all_dg : ∀ p : List UInt8, (∀ c ∈ p, isDg c = true) → p.takeWhile isDg = p
  | [], _ => rfl
  | x :: p, h => by
    rw [List.takeWhile_cons, if_pos (h x (List.mem_cons_self ..)), take_all_dg p (fun c hc => h c (List.mem_cons_of_mem _ hc))]
theorem canon {n : Nat} (h : n ≤ 999999999) : runD (Lib.decDigits n) = Lib.decDigits n ∧ badD (Lib.decDigits n) = false := by
  have hl : (Lib.decDigits n).length ≤ 9 := by
    rw [Lib.decDigits_length]
    have h2 : ∀ (k u : Nat), 1 ≤ k → u < 10 ^ k → Lib.nDigits u ≤ k := by
      intro k
      induction k with
      | zero => intro u h; omega
      | succ k ih =>
        intro u _ hu
        by_cases h10 : u < 10
        · rw [Lib.nDigits_small h10]; omega
        · rw [Lib.nDigits_big h10]
          have h1 : 1 ≤ k := by
            rcases Nat.eq_zero_or_pos k with h0 | h0
            · subst h0; simp at hu; omega
            · exact h0
          have := ih (u / 10) h1 (by rw [Nat.pow_succ] at hu; omega)
          omega
    exact h2 9 n (by decide) (by omega)
  have hd := dec_digit n
  have h0 := dec_some n
  have hz := fun e => dec_zero (u := n) e
  have h1 : n = 0 → (Lib.decDigits n).length = 1 := by rintro rfl; rw [Lib.decDigits_one (by decide)]; rfl
  generalize Lib.decDigits n = p at *
  refine ⟨?_, ?_⟩
  · unfold runD
    rw [List.take_of_length_le (by omega)]
    exact take_all_dg p (fun c hc => by have := hd c hc; simp [isDg, this.1, this.2])
  · unfold badD
    simp only [Bool.or_eq_false_iff, Bool.and_eq_false_iff, decide_eq_false_iff_not]
    refine ⟨⟨h0, by omega⟩, ?_⟩
    by_cases e : p.head? = some 48
    · right
      have := h1 (hz e)
      omega
    · exact .inl e
theorem numT_of {p : List UInt8} (h1 : runD p = p) (h2 : badD p = false) : numT p = some (valD p) := by
  unfold badD at h2
  simp only [Bool.or_eq_false_iff, Bool.and_eq_false_iff, decide_eq_false_iff_not] at h2
  obtain ⟨⟨h3, h4⟩, h5⟩ := h2
  have hd : ∀ c ∈ p, isDg c = true := by rw [← h1]; exact runD_dig p
  have hz : p.head? = some 48 → p.length = 1 := fun e => by
    rcases h5 with h5 | h5
    · exact absurd e h5
    · cases p with
      | nil => exact absurd rfl h3
      | cons x r => simp at h5 ⊢; omega
  have e := (dec_valD p.length p rfl h3 hd hz).1
  have hb := valD_bound p.length p rfl hd
  have hp : (10 : Nat) ^ p.length ≤ 10 ^ 9 := Nat.pow_le_pow_right (by decide) (by omega)
  have := numT_dec (n := valD p) (by omega)
  rw [e] at this
  exact this
theorem numT_miss {p : List UInt8} (h : ¬ (runD p = p ∧ badD p = false)) : numT p = none := by
  cases hn : numT p with
  | none => rfl
  | some n =>
    obtain ⟨e, hle⟩ := numT_some hn
    exact absurd (by rw [e]; exact canon hle) h
theorem numsR_split : ∀ (n : Nat) (t : List UInt8), t.length ≤ n → numsR (32 :: t) = numsT (splt 32 t) := by
  intro n
  induction n with
  | zero =>
    intro t ht
    have : t = [] := List.length_eq_zero_iff.1 (by omega)
    subst this
    rw [numsR]
    rfl
  | succ n ih =>
    intro t ht
    obtain ⟨p, r, ps, e1, e2, e3, e4⟩ : ∃ p r ps, t = p ++ r ∧ (32 : UInt8) ∉ p ∧ splt 32 t = p :: ps ∧ ((r = [] ∧ ps = []) ∨ ∃ t', r = 32 :: t' ∧ ps = splt 32 t') := by
      rcases splt_form t with ⟨h1, h2⟩ | ⟨p, t', h1, h2, h3⟩
      · exact ⟨t, [], [], by simp, h1, h2, .inl ⟨rfl, rfl⟩⟩
      · exact ⟨p, 32 :: t', splt 32 t', h1, h2, h3, .inr ⟨t', rfl, rfl⟩⟩
    have hr : r = [] ∨ r.head? = some 32 := by
      rcases e4 with ⟨rfl, _⟩ | ⟨t', rfl, _⟩
      · exact .inl rfl
      · exact .inr rfl
    have hD : runD t = runD p := by rw [e1]; exact runD_app hr
    rw [e3, numsR, hD, numsT]
    by_cases hA : runD p = p ∧ badD p = false
    · obtain ⟨h1, h2⟩ := hA
      rw [h1, h2, numT_of h1 h2, if_neg (by simp)]
      have hdr : t.drop p.length = r := by rw [e1]; simp
      rw [hdr]
      have hrest : numsR r = numsT ps := by
        rcases e4 with ⟨rfl, rfl⟩ | ⟨t', rfl, rfl⟩
        · rw [numsR]; rfl
        · exact ih t' (by rw [e1, List.length_append, List.length_cons] at ht; omega)
      rw [hrest]
      cases numsT ps <;> rfl
    · rw [numT_miss hA]
      by_cases hB : badD (runD p) = true
      · rw [if_pos (.inr hB)]
      · rw [if_neg (by simp [hB])]
        have hne : runD p ≠ p := fun e => hA ⟨e, by rw [e] at hB; simpa using hB⟩
        have hlt : (runD p).length < p.length := by
          rcases Nat.lt_or_ge (runD p).length p.length with h | h
          · exact h
          · exact absurd ((runD_pre p).eq_of_length_le h) hne
        have hget : t[(runD p).length]? = p[(runD p).length]? := by rw [e1, List.getElem?_append_left hlt]
        obtain ⟨c, hc⟩ : ∃ c, p[(runD p).length]? = some c := ⟨_, List.getElem?_eq_getElem hlt⟩
        have hc32 : c ≠ 32 := fun e => e2 (by rw [← e]; exact List.mem_of_getElem? hc)
        have hdr : t.drop (runD p).length = c :: t.drop ((runD p).length + 1) := by
          have h5 := (List.getElem?_eq_some_iff.1 (hget.trans hc))
          obtain ⟨h6, h7⟩ := h5
          rw [List.drop_eq_getElem_cons h6, h7]
        rw [hdr, numsR, if_pos (.inl hc32)]
        rfl
end Go.Proofs.YtmabciajhmjmeaaGreatDoor
