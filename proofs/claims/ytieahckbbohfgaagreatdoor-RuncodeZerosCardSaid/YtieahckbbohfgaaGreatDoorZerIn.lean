/-
  The parts of the walk of RuncodeZeros: which lists are left out; Runs and Expand of both sides in one form.
  The word has at most 200 letters, the list at most 20 numbers.
-/
import Derived.Test.YtieahckbbohfgaaGreatDoorZerExA
import Derived.Test.YtieahckbbohfgaaGreatDoorSlices
namespace Go.Proofs.YtieahckbbohfgaaGreatDoor
open Go.RowKit
set_option linter.unusedVariables false

def outZ (z : Int) : Bool := decide (40 < z) && decide (z ≤ 65536)
theorem zer1_any (z : Int) (w : World) :
    Calls Tryz.prog 14 #[.int .i64 z] w fun e w' => e = .returned (.bool (outZ z)) ∧ w' = w := by
  by_cases h1 : 40 < z
  · by_cases h2 : z ≤ 65536
    · have e : outZ z = true := by simp [outZ, h1, h2]
      rw [e]
      go_enter Tryz.func14, Tryz.ntmps14
      go_wp2
      go_ret
      exact ⟨rfl, rfl⟩
    · have e : outZ z = false := by simp [outZ, h1, h2]
      rw [e]
      go_enter Tryz.func14, Tryz.ntmps14
      go_wp2
      go_ret
      exact ⟨rfl, rfl⟩
  · have e : outZ z = false := by simp [outZ, h1]
    rw [e]
    go_enter Tryz.func14, Tryz.ntmps14
    go_wp2
    go_ret
    exact ⟨rfl, rfl⟩
theorem outZs_any (v : Value) (xs : List Int) (w : World) (hl : Sl 1 w v xs.length (ints xs)) :
    Calls Tryz.prog 13 #[v, .func (.func 14) #[] #[]] w fun e w' => e = .returned (.bool (xs.any outZ)) ∧ Dr w w' := by
  obtain ⟨ao2, cap2, rfl, h2, h3, h4, h5⟩ := hl
  by_cases hn : xs.length = 0
  · rw [hn]
    refine (Tryz.slices_ContainsFunc_empty (α := Nat) ao2 cap2 _ w).mono ?_
    rintro e w' ⟨rfl, rfl⟩
    have : xs = [] := List.length_eq_zero_iff.1 hn
    subst this
    exact ⟨rfl, Dr.refl _⟩
  · rcases h5 with h5 | ⟨b, o, rfl, hc⟩
    · omega
    · have eg : ∀ args w, (callFunc 14 args).run Tryz.prog w = .ok (.enter 14 args) w := enters_of Tryz.func14 (by kernel_rfl) rfl
      have hp : PredAt Tryz.prog 14 #[] (fun x : Int => Value.int .i64 x) outZ w := by
        intro W x hB
        refine (zer1_any x W).mono ?_
        rintro e w' ⟨rfl, rfl⟩; exact ⟨rfl, 0, rfl⟩
      refine (Tryz.slices_ContainsFunc _ _ 14 #[] eg b o xs.length cap2 xs w hp (by simp) (by omega) fun j hj => ?_).mono ?_
      · rw [hc j (.int .i64 xs[j]!) (by rw [List.getElem!_eq_getElem?_getD]; simp [ints, hj])]
      · rintro e w' ⟨rfl, k, rfl⟩
        refine ⟨ret_bool ?_, k, rfl⟩
        rw [List.take_of_length_le (by simp)]
theorem runsG_len (l : List UInt8) : ∀ a, (runsG a l).length = Lib.count l [49] + 1 := by
  induction l with
  | nil => intro a; rw [Lib.count_one]; rfl
  | cons c l ih =>
    intro a
    by_cases hc : c = 49
    · subst hc
      rw [runsG_one, Lib.count_cons_eq, List.length_cons, ih 0]
      omega
    · rw [runsG_ne a l hc, Lib.count_cons_ne c 49 l hc, ih]
theorem runsG_short (l : List UInt8) : ∀ a, (runsG a l).length ≤ l.length + 1 := by
  induction l with
  | nil => intro a; exact Nat.le_refl _
  | cons c l ih =>
    intro a
    by_cases hc : c = 49
    · subst hc
      have := ih 0
      rw [runsG_one, List.length_cons, List.length_cons]
      omega
    · have := ih (a + 1)
      rw [runsG_ne a l hc, List.length_cons]
      omega
theorem runsG_le (l : List UInt8) : ∀ a, ∀ n ∈ runsG a l, n ≤ a + l.length := by
  induction l with
  | nil => intro a n hn; rw [List.mem_singleton.1 hn]; exact Nat.le_add_right _ _
  | cons c l ih =>
    intro a n hn
    rw [List.length_cons]
    by_cases hc : c = 49
    · subst hc
      rw [runsG_one] at hn
      rcases List.mem_cons.1 hn with h | h
      · omega
      · have := ih 0 n h
        omega
    · rw [runsG_ne a l hc] at hn
      have := ih (a + 1) n hn
      omega
theorem runsG_some (l : List UInt8) (a : Nat) : runsG a l ≠ [] := by
  intro h
  have := runsG_len l a
  rw [h] at this
  simp at this
theorem partsB_len (s : ByteArray) : (partsB s).length = Lib.countB s one1 + 1 := by
  have h := congrArg List.length (runsB_eq s)
  unfold runsB at h
  rw [List.length_map, List.length_map, runsG_len] at h
  exact h
theorem partsB_size (s : ByteArray) : ∀ x ∈ partsB s, x.size ≤ s.size := by
  intro x hx
  have h : (x.size : Int) ∈ runsB s := List.mem_map.2 ⟨x, hx, rfl⟩
  rw [runsB_eq] at h
  obtain ⟨n, hn, e⟩ := List.mem_map.1 h
  have := runsG_le s.data.toList 0 n hn
  rw [ba_len] at this
  omega
/-- The runs that are told of a word. -/
def RL (s : ByteArray) : List Int := if wordErr 2 s = 0 then natI (runsG 0 s.data.toList) else []
theorem runsL_any (s : ByteArray) (m : Int) (w : World) (hs : s.size ≤ 1000) (hm : w.cell? ⟨0, 0, none⟩ = some (.int .i64 m)) :
    Calls Tryz.prog 15 #[.string s] w fun e w' => ∃ u, e = .returned (.tuple #[u, .int .i64 (wordErr 2 s)]) ∧ Sl 1 w' u (RL s).length (ints (RL s)) ∧ Below w.heap.size w w' := by
  by_cases hE : wordErr 2 s = 0
  · have e1 : RL s = natI (runsG 0 s.data.toList) := if_pos hE
    rw [e1, hE]
    have h1 := partsB_len s
    have h2 := partsB_size s
    have h3 := runsG_len s.data.toList 0
    have h4 := runsG_short s.data.toList 0
    rw [ba_len] at h4
    have h5 : Lib.countB s one1 = Lib.count s.data.toList [49] := rfl
    refine (runs_any s m w (by omega) hm hE h1 (by omega) (fun x hx => by have := h2 x hx; omega)).mono ?_
    rintro e w' ⟨u, rfl, ho, hb⟩
    rw [runsB_eq] at ho
    exact ⟨u, rfl, Sl.of_owns ho, hb⟩
  · have e1 : RL s = [] := if_neg hE
    have hEn : (wordErr 2 s != 0) = true := by simp [hE]
    rw [e1]
    have HCk := hid (fun X => wcheck_any 2 s X)
    generalize wordErr 2 s = E at *
    go_enter Tryz.func15, Tryz.ntmps15
    go_wp2_with (go_at_call 10; refine (HCk.out _).mono ?_; rintro e w1 ⟨rfl, hD⟩; have HB1 := hid (hD.below w.heap.size); clear hD)
    go_ret2
    exact ⟨_, rfl, Sl.nil 1 _, HB1.out⟩
theorem rrunsL_any (s : ByteArray) (w : World) (hs : s.size ≤ 1000) :
    Calls Tryz.prog 16 #[.string s] w fun e w' => ∃ u, e = .returned (.tuple #[u, .int .i64 (wordErr 2 s)]) ∧ Sl 1 w' u (RL s).length (ints (RL s)) ∧ Below w.heap.size w w' := by
  by_cases hE : wordErr 2 s = 0
  · have e1 : RL s = natI (runsG 0 s.data.toList) := if_pos hE
    rw [e1, hE]
    refine (rruns_any s w hE hs).mono ?_
    rintro e w' ⟨u, rfl, ho, hb⟩
    rw [natI_len]
    exact ⟨u, rfl, Sl.of_owns ho, hb⟩
  · have e1 : RL s = [] := if_neg hE
    have hEn : (wordErr 2 s != 0) = true := by simp [hE]
    rw [e1]
    have HCk := hid (fun X => rwcheck_any 2 s X)
    generalize wordErr 2 s = E at *
    go_enter Tryz.func16, Tryz.ntmps16
    go_wp2_with (go_at_call 37; refine (HCk.out _).mono ?_; rintro e w1 ⟨rfl, rfl⟩)
    go_ret2
    exact ⟨_, rfl, ⟨_, 0, rfl, rfl, Nat.le_refl _, by omega, .inl rfl⟩, bel_alloc _ _⟩
theorem nat_list {zs : List Int} (h : ∀ z ∈ zs, 0 ≤ z) : ∃ L : List Nat, zs = natI L := by
  refine ⟨zs.map Int.toNat, ?_⟩
  unfold natI
  rw [List.map_map]
  conv => lhs; rw [← List.map_id zs]
  refine List.map_congr_left fun z hz => ?_
  have := h z hz
  simp
  omega
/-- Both functions Expand answer alike. -/
theorem expZ (zs : List Int) (hn : zs.length ≤ 20) (hz : ∀ z ∈ zs, z ≤ 40 ∨ 65536 < z) (hm : ∀ z ∈ zs, z ≤ 9223372036854775807) :
    ∃ (X : ByteArray) (G : Int), (∀ (v : Value) (W : World), Sl 1 W v zs.length (ints zs) → Calls Tryz.prog 17 #[v] W fun e w' => e = .returned (.tuple #[.string X, .int .i64 G]) ∧ Below W.heap.size W w') ∧
      (∀ (v : Value) (W : World), Sl 1 W v zs.length (ints zs) → Calls Tryz.prog 18 #[v] W fun e w' => e = .returned (.tuple #[.string X, .int .i64 G]) ∧ Below W.heap.size W w') ∧
      (G = 0 → wordErr 2 X = 0 ∧ X.size ≤ 1000 ∧ RL X = zs) := by
  by_cases h0 : zs = []
  · subst h0
    exact ⟨⟨#[]⟩, 5, fun v W h => expand_nil v W h, fun v W h => rexpand_nil v W h, fun h => absurd h (by decide)⟩
  by_cases hneg : ∃ z ∈ zs, z < 0
  · exact ⟨⟨#[]⟩, 2, fun v W h => expand_neg v zs W h (by omega) hneg, fun v W h => rexpand_neg v zs W h (by omega) hneg, fun h => absurd h (by decide)⟩
  have hnn : ∀ z ∈ zs, 0 ≤ z := fun z hz => by
    rcases Int.lt_or_le z 0 with h | h
    · exact absurd ⟨z, hz, h⟩ hneg
    · exact h
  obtain ⟨L, rfl⟩ := nat_list hnn
  have hL0 : L ≠ [] := by rintro rfl; exact h0 rfl
  have hmem : ∀ n ∈ L, (n : Int) ∈ natI L := fun n hn => List.mem_map.2 ⟨n, hn, rfl⟩
  rw [natI_len] at hn
  by_cases hb : ∃ z ∈ natI L, 65536 < z
  · have hb2 : ∃ n ∈ L, 65536 < n := by
      obtain ⟨z, h1, h2⟩ := hb
      obtain ⟨n, h3, rfl⟩ := List.mem_map.1 h1
      exact ⟨n, h3, by omega⟩
    refine ⟨⟨#[]⟩, 4, fun v W h => expand_big v (natI L) W h (by rw [natI_len]; exact hn) (fun z h => ⟨hnn z h, hz z h⟩) hb hm, fun v W h => rexpand_big v L W (by rw [natI_len] at h; exact h) hL0 hn (fun n h => by have := hz n (hmem n h); omega) hb2 (fun n h => by have := hm n (hmem n h); omega), fun h => absurd h (by decide)⟩
  · have hs : ∀ n ∈ L, n ≤ 40 := fun n h => by
      rcases hz n (hmem n h) with h1 | h1
      · omega
      · exact absurd ⟨_, hmem n h, h1⟩ hb
    have ht := tot_small hs
    have he := expW_len hL0
    have hbits := expW_bits L
    have hE : wordErr 2 (strW (expW L)) = 0 := by
      refine wordErr_zero.2 ⟨by decide, by decide, by rw [strW_size]; omega, ?_⟩
      unfold okWord
      rw [List.all_eq_true]
      intro c hc
      have := hbits c hc
      unfold isBit at this
      simp only [Bool.or_eq_true, beq_iff_eq] at this
      rcases this with rfl | rfl <;> decide
    refine ⟨strW (expW L), 0, fun v W h => expand_any v L W (by rw [natI_len] at h; exact h) hL0 (by omega) (by omega), fun v W h => rexpand_any v L W (by rw [natI_len] at h; exact h) hL0 (by omega) (by omega), fun _ => ⟨hE, by rw [strW_size]; omega, ?_⟩⟩
    rw [RL, if_pos hE, show (strW (expW L)).data.toList = expW L from rfl, runs_exp L hL0]
/-- Behind Runs, Expand yields the word. -/
theorem backZ (s : ByteArray) (hs : s.size ≤ 900) (hE : wordErr 2 s = 0) (v : Value) (W : World) (h : Sl 1 W v (RL s).length (ints (RL s))) :
    Calls Tryz.prog 17 #[v] W fun e w' => e = .returned (.tuple #[.string s, .int .i64 0]) ∧ Below W.heap.size W w' := by
  obtain ⟨hb, _⟩ := bits_of hE
  have e1 : RL s = natI (runsG 0 s.data.toList) := if_pos hE
  rw [e1, natI_len] at h
  have hx := exp_runs s.data.toList hb 0
  rw [List.replicate_zero, List.nil_append] at hx
  have hlen := expW_len (runsG_some s.data.toList 0)
  have hsh := runsG_short s.data.toList 0
  rw [hx, ba_len] at hlen
  rw [ba_len] at hsh
  have := expand_any v (runsG 0 s.data.toList) W h (runsG_some _ _) (by omega) (by omega)
  rw [hx] at this
  exact this
end Go.Proofs.YtieahckbbohfgaaGreatDoor
