/-
  Runs of the letter 0: plain laws.
  No condition: no program in sight.
-/
import Derived.Test.YtieahckbbohfgaaGreatDoorGamma
import Derived.Lib.SplitLaws
namespace Go.Proofs.YtieahckbbohfgaaGreatDoor
open Go.RowKit
set_option linter.unusedVariables false

/-- The lengths of the runs between the letters 1; a letters stand before. -/
def runsG : Nat → List UInt8 → List Nat
  | a, [] => [a]
  | a, c :: l => if c = 49 then a :: runsG 0 l else runsG (a + 1) l
theorem runsG_one (a : Nat) (l : List UInt8) : runsG a (49 :: l) = a :: runsG 0 l := by rw [runsG, if_pos rfl]
theorem runsG_ne {c : UInt8} (a : Nat) (l : List UInt8) (h : c ≠ 49) : runsG a (c :: l) = runsG (a + 1) l := by rw [runsG, if_neg h]
theorem runsG_shift (l : List UInt8) : ∃ h t, ∀ a, runsG a l = (a + h) :: t := by
  induction l with
  | nil => exact ⟨0, [], fun a => rfl⟩
  | cons c l ih =>
    obtain ⟨h, t, e⟩ := ih
    by_cases hc : c = 49
    · subst hc
      exact ⟨0, runsG 0 l, fun a => runsG_one a l⟩
    · exact ⟨h + 1, t, fun a => by rw [runsG_ne a l hc, e]; congr 1; omega⟩
theorem split_runs : ∀ l : List UInt8, (Lib.splitK [49] 0 (Lib.count l [49]) l).map List.length = runsG 0 l
  | [] => by
    rw [Lib.count_one]
    rfl
  | c :: l => by
    have ih := split_runs l
    by_cases hc : c = 49
    · subst hc
      rw [Lib.count_cons_eq, Nat.add_comm, runsG_one, ← ih, Lib.splitK]
      have hix : Lib.index (49 :: l) [49] = 0 := by rw [Lib.index]; simp [List.isPrefixOf]
      rw [hix]
      simp
    · rw [Lib.count_cons_ne c 49 l hc, runsG_ne 0 l hc]
      obtain ⟨h, t, e⟩ := runsG_shift l
      rw [e]
      rw [e] at ih
      have hp : ([49] : List UInt8).isPrefixOf (c :: l) = false := by simp [List.isPrefixOf, Ne.symm hc]
      have hix : Lib.index (c :: l) [49] = if Lib.index l [49] == -1 then -1 else Lib.index l [49] + 1 := by rw [Lib.index, hp]; simp
      have hge := Lib.index_ge l [49]
      cases hk : Lib.count l [49] with
      | zero =>
        rw [hk] at ih
        simp only [Lib.splitK, List.map_cons, List.map_nil] at ih ⊢
        simp only [List.cons.injEq] at ih
        rw [← ih.2, List.length_cons]
        congr 1
        omega
      | succ k =>
        rw [hk, Lib.splitK] at ih
        rw [Lib.splitK, hix]
        by_cases hm : Lib.index l [49] = -1
        · rw [hm] at ih ⊢
          simp at ih ⊢
          rw [← ih.2]
          refine ⟨by omega, rfl⟩
        · obtain ⟨j, hj⟩ : ∃ j : Nat, Lib.index l [49] = j := ⟨(Lib.index l [49]).toNat, by omega⟩
          rw [hj] at ih ⊢
          have h1 : ((j : Int) == -1) = false := by rw [beq_eq_false_iff_ne]; omega
          have h2 : ((j : Int) + 1 == -1) = false := by rw [beq_eq_false_iff_ne]; omega
          have h3 : ((j : Int) + 1).toNat = j + 1 := by omega
          simp only [h1, h2, h3, Bool.false_eq_true, if_false, Int.toNat_natCast, List.map_cons, List.cons.injEq, List.length_take, List.length_cons, List.length_nil, Nat.add_zero] at ih ⊢
          refine ⟨by omega, ?_⟩
          rw [← ih.2]
          rfl
/-- The word with these runs. -/
def expW : List Nat → List UInt8
  | [] => []
  | [n] => List.replicate n 48
  | n :: m :: l => List.replicate n 48 ++ 49 :: expW (m :: l)
theorem expW_cons (n : Nat) {l : List Nat} (h : l ≠ []) : expW (n :: l) = List.replicate n 48 ++ 49 :: expW l := by
  cases l with
  | nil => exact absurd rfl h
  | cons m l => rfl
theorem expW_snoc (l : List Nat) (n : Nat) (h : l ≠ []) : expW (l ++ [n]) = expW l ++ 49 :: List.replicate n 48 := by
  induction l with
  | nil => exact absurd rfl h
  | cons m l ih =>
    by_cases hl : l = []
    · subst hl; rfl
    · rw [List.cons_append, expW_cons m (by simp), ih hl, expW_cons m hl, List.append_assoc, List.cons_append]
theorem runsG_rep (a n : Nat) (t : List UInt8) : runsG a (List.replicate n 48 ++ t) = runsG (a + n) t := by
  induction n generalizing a with
  | zero => rfl
  | succ n ih => rw [List.replicate_succ, List.cons_append, runsG_ne a _ (by decide), ih]; congr 1; omega
theorem runs_exp (l : List Nat) (h : l ≠ []) : runsG 0 (expW l) = l := by
  induction l with
  | nil => exact absurd rfl h
  | cons n l ih =>
    by_cases hl : l = []
    · subst hl
      have := runsG_rep 0 n []
      rw [List.append_nil] at this
      show runsG 0 (List.replicate n 48) = [n]
      rw [this, Nat.zero_add]
      rfl
    · rw [expW_cons n hl, runsG_rep, Nat.zero_add, runsG_one, ih hl]
theorem exp_runs (l : List UInt8) (h : ∀ c ∈ l, isBit c = true) : ∀ a, expW (runsG a l) = List.replicate a 48 ++ l := by
  induction l with
  | nil => intro a; simp [runsG, expW]
  | cons c l ih =>
    intro a
    have h1 := h c (List.mem_cons_self ..)
    have ih := ih (fun c hc => h c (List.mem_cons_of_mem _ hc))
    unfold isBit at h1
    simp only [Bool.or_eq_true, beq_iff_eq] at h1
    rcases h1 with rfl | rfl
    · rw [runsG_ne a l (by decide), ih, List.replicate_succ', List.append_assoc]; rfl
    · have hne : runsG 0 l ≠ [] := by obtain ⟨x, t, e⟩ := runsG_shift l; rw [e]; simp
      rw [runsG_one, expW_cons a hne, ih 0]
      rfl
theorem expW_bits (l : List Nat) : ∀ c ∈ expW l, isBit c = true := by
  induction l with
  | nil => intro c hc; cases hc
  | cons n l ih =>
    intro c hc
    by_cases hl : l = []
    · subst hl
      rw [(List.mem_replicate.1 hc).2]; rfl
    · rw [expW_cons n hl] at hc
      rcases List.mem_append.1 hc with h | h
      · rw [(List.mem_replicate.1 h).2]; rfl
      · rcases List.mem_cons.1 h with h | h
        · rw [h]; rfl
        · exact ih c h
/-- The runs as the program writes them. -/
theorem runsB_eq (s : ByteArray) : runsB s = (runsG 0 s.data.toList).map (fun n : Nat => (n : Int)) := by
  rw [← split_runs]
  have h := Lib.splitB_data one1 0 (Lib.countB s one1) s
  have h2 : (partsB s).map (fun x => (x.data.toList.length : Int)) = ((partsB s).map (·.data.toList)).map fun l => (l.length : Int) := by rw [List.map_map]; rfl
  have h3 : runsB s = (partsB s).map (fun x => (x.data.toList.length : Int)) := by
    unfold runsB
    refine List.map_congr_left fun x _ => ?_
    rw [ba_len]
  rw [h3, h2]
  rw [show (partsB s).map (·.data.toList) = Lib.splitK [49] 0 (Lib.count s.data.toList [49]) s.data.toList from h, List.map_map]
  rfl
end Go.Proofs.YtieahckbbohfgaaGreatDoor
