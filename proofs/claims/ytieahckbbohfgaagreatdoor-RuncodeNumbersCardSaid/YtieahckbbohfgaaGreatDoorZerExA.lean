/-
  runcode.Expand.
  runcode.Expand at lists that it refuses.
  The reference's Expand.
  The reference's Expand at lists that it refuses.
  Conditions: The runs together are not longer than a word may be. The numbers are small, or out of range. The runs together are not longer than a word may be. The numbers are small, or out of range.
-/
import Derived.Test.YtieahckbbohfgaaGreatDoorZerRun
import Derived.Test.YtieahckbbohfgaaGreatDoorBld
namespace Go.Proofs.YtieahckbbohfgaaGreatDoor
open Go.RowKit
set_option linter.unusedVariables false

theorem fold_min_neg (l : List Int) : ∀ a : Int, l.foldl min a < 0 ↔ a < 0 ∨ ∃ z ∈ l, z < 0 := by
  induction l with
  | nil => intro a; simp
  | cons x l ih =>
    intro a
    rw [List.foldl_cons, ih]
    constructor
    · rintro (h | ⟨z, hz, h⟩)
      · rcases (show a < 0 ∨ x < 0 by omega) with h | h
        · exact .inl h
        · exact .inr ⟨x, List.mem_cons_self .., h⟩
      · exact .inr ⟨z, List.mem_cons_of_mem _ hz, h⟩
    · rintro (h | ⟨z, hz, h⟩)
      · exact .inl (by omega)
      · rcases List.mem_cons.1 hz with rfl | hz
        · exact .inl (by omega)
        · exact .inr ⟨z, hz, h⟩
theorem minOf_neg {l : List Int} (h : l ≠ []) : Lib.minOf l < 0 ↔ ∃ z ∈ l, z < 0 := by
  cases l with
  | nil => exact absurd rfl h
  | cons x l =>
    show (x :: l).foldl min x < 0 ↔ _
    rw [fold_min_neg]
    exact ⟨fun h => h.elim (fun h => ⟨x, List.mem_cons_self .., h⟩) id, .inr⟩
theorem min_any (v : Value) (zs : List Int) (w : World) (hl : Sl 1 w v zs.length (ints zs)) (h0 : zs ≠ []) (hn : zs.length ≤ 1000000) :
    Calls Tryz.prog 38 #[v] w fun e w' => e = .returned (.int .i64 (Lib.minOf zs)) ∧ w' = w := by
  obtain ⟨ao, cap, rfl, h1, h2, h3, h4⟩ := hl
  have hp : 0 < zs.length := List.length_pos_iff.2 h0
  rcases h4 with h4 | ⟨b, o, rfl, h4⟩
  · omega
  · have := Tryz.slices_Min_int b o zs.length cap zs w hp (Nat.le_refl _) (by omega) (fun j hj => by
      refine h4 j _ ?_
      rw [ints, List.getElem?_map, List.getElem?_eq_getElem hj, List.getD_eq_getElem?_getD, List.getElem?_eq_getElem hj]
      rfl)
    rw [List.take_length] at this
    exact this
def tot (l : List Nat) : Nat := (l.map (· + 1)).sum
theorem tot_take {l : List Nat} {k n : Nat} (h : l[k]? = some n) : tot (l.take (k + 1)) = tot (l.take k) + (n + 1) := by
  rw [take_snoc h]; simp [tot]
theorem tot_take_le (l : List Nat) (k : Nat) : tot (l.take k) ≤ tot l := by
  have h := congrArg tot (List.take_append_drop k l)
  rw [← h]
  unfold tot
  rw [List.map_append, List.sum_append]
  exact Nat.le_add_right _ _
theorem expW_tot (l : List Nat) : (expW l).length ≤ tot l := by
  induction l with
  | nil => simp [expW]
  | cons n l ih =>
    by_cases hl : l = []
    · subst hl; simp [expW, tot]
    · rw [expW_cons n hl]
      simp only [tot, List.map_cons, List.sum_cons, List.length_append, List.length_replicate, List.length_cons] at *
      omega
theorem natI_get {l : List Nat} {k n : Nat} (h : l[k]? = some n) : (natI l)[k]? = some (n : Int) := by simp [natI, h]
theorem natI_nn (l : List Nat) : ¬ ∃ z ∈ natI l, z < 0 := by
  rintro ⟨z, hz, h⟩
  simp only [natI, List.mem_map] at hz
  obtain ⟨n, _, rfl⟩ := hz
  omega
theorem exp_first {l : List Nat} {k n : Nat} (h : l[k]? = some n) (hk : k = 0) : Lib.byteCells (expW (l.take (k + 1))) = Lib.byteCells (expW (l.take k)) ++ Lib.strCells (strW (List.replicate n 48)) := by
  subst hk
  have e : l.take (0 + 1) = l.take 0 ++ [n] := take_snoc h
  rw [e]
  rfl
theorem exp_next {l : List Nat} {k n : Nat} (h : l[k]? = some n) (hk : k ≠ 0) : Lib.byteCells (expW (l.take (k + 1))) = Lib.byteCells (expW (l.take k)) ++ [.int .u8 49] ++ Lib.strCells (strW (List.replicate n 48)) := by
  have hne : l.take k ≠ [] := by
    intro e
    have := congrArg List.length e
    have h5 := lt_of_some h
    rw [List.length_take, List.length_nil] at this
    omega
  rw [take_snoc h, expW_snoc _ _ hne]
  simp [Lib.byteCells, Lib.strCells, strW]
set_option maxRecDepth 100000 in
set_option maxHeartbeats 1000000 in
theorem expand_any (v : Value) (l : List Nat) (w : World) (hl : Sl 1 w v l.length (ints (natI l))) (h0 : l ≠ []) (hn : l.length ≤ 1000) (ht : tot l ≤ 65537) :
    Calls Tryz.prog 17 #[v] w fun e w' => e = .returned (.tuple #[.string (strW (expW l)), .int .i64 0]) ∧ Below w.heap.size w w' := by
  have hlen := natI_len l
  have HMi := hid (fun X (h : Sl 1 X v l.length (ints (natI l))) => min_any v (natI l) X (by rw [hlen]; exact h) (by intro e; rw [e] at hlen; exact h0 (List.length_eq_zero_iff.1 hlen.symm)) (by omega))
  have hmn : ¬ Lib.minOf (natI l) < 0 := fun h => natI_nn l ((minOf_neg (by intro e; rw [e] at hlen; exact h0 (List.length_eq_zero_iff.1 hlen.symm))).1 h)
  have HL := hid hl
  have hp : 0 < l.length := List.length_pos_iff.2 h0
  have hp1 : ((l.length : Int) == 0) = false := by rw [beq_eq_false_iff_ne]; omega
  obtain ⟨ao, cap, rfl, -, h2, h3, -⟩ := hl
  have HT := hid ht
  generalize Lib.minOf (natI l) = M at *
  clear hlen ht h0
  go_enter Tryz.func17, Tryz.ntmps17
  go_wp2_with (go_at_call 38; refine (HMi.out _ HL.out).mono ?_; rintro e w1 ⟨rfl, rfl⟩)
  go_loopw [20, 4] (fun i r wr => ∃ k : Nat, k ≤ l.length ∧ i = .int .i64 (k : Int) ∧ r = .int .i64 ((65537 - tot (l.take k) : Nat) : Int) ∧ w1 = wr) (fun i _ _ => l.length - (intOf i).toNat)
  case atStart => exact ⟨0, Nat.zero_le _, rfl, rfl, rfl⟩
  case round =>
    obtain ⟨k, hk, rfl, rfl, rfl⟩ := hrel
    by_cases hkn : k < l.length
    · obtain ⟨n, hx⟩ := some_of_lt hkn
      obtain ⟨b, o, rfl, c0⟩ := HL.out.cell (ints_get (natI_get hx))
      have hs := tot_take hx
      have hs2 := tot_take_le l (k + 1)
      have ht := HT.out
      have b1 : ¬ ((65537 - tot (l.take k) : Nat) : Int) ≤ (n : Int) := by omega
      have HN := hid (show ((65537 - tot (l.take (k + 1)) : Nat) : Int) = ((65537 - tot (l.take k) : Nat) : Int) - ((n : Int) + 1) by omega)
      have b2 : (n : Int) ≤ 65537 := by omega
      clear hs hs2 ht hx
      have b3 : ((65537 - tot (l.take k) : Nat) : Int) ≤ 65537 := by omega
      generalize 65537 - tot (l.take k) = R at *
      go_wp2
      go_roundw
      case rel => exact ⟨k + 1, by omega, by go_num, by rw [HN.out], trivial⟩
      case measure => simp [intOf]; omega
    · obtain rfl : k = l.length := by omega
      clear HMi hmn hp1
      generalize 65537 - tot (l.take l.length) = RR at *
      go_upto_region 14 with fail
      obtain ⟨w2, hw2⟩ : ∃ w2, w1.alloc (.cells #[.pointer none, .slice none 0 0] 69) = w2 := ⟨_, rfl⟩
      have HBd := hid (show Bld w2 w1.heap.size (w1.heap.size + 1) (Lib.byteCells (expW (l.take 0))) by rw [← hw2]; exact Bld.fresh w1)
      have HB2 := hid (show Below w1.heap.size w1 w2 by rw [← hw2]; exact bel_alloc _ _)
      rw [hw2]
      clear hw2
      go_wp2_with fail
      go_loopw [34] (fun i wr => ∃ k : Nat, k ≤ l.length ∧ i = .int .i64 (k : Int) ∧ Hid (Bld wr w1.heap.size (w1.heap.size + 1) (Lib.byteCells (expW (l.take k)))) ∧ Hid (Below w1.heap.size w1 wr)) (fun i _ => l.length - (intOf i).toNat)
      case atStart => exact ⟨0, Nat.zero_le _, rfl, HBd, HB2⟩
      case round =>
        obtain ⟨k, hk, rfl, HBk, HB⟩ := hrel
        rename World => wk
        by_cases hkn : k < l.length
        · obtain ⟨n, hx⟩ := some_of_lt hkn
          obtain ⟨b, o, rfl, c0⟩ := (HL.out.below HB.out).cell (ints_get (natI_get hx))
          have hs := tot_take hx
          have hs2 := tot_take_le l (k + 1)
          have ht := HT.out
          have he := expW_tot (l.take k)
          have HR := hid (fun X => rep_any 48 n X (by omega))
          have HX := hid hx
          have hlx : (Lib.byteCells (expW (l.take k))).length ≤ 65537 := by simp [Lib.byteCells]; omega
          have hnn : n ≤ 65537 := by omega
          clear hs hs2 ht he hx
          by_cases hk0 : k = 0
          · have hkp : ¬ (0 : Int) < (k : Int) := by omega
            have HE := hid (exp_first HX.out hk0)
            have hkl : k < 1000 := by omega
            clear hk0
            go_wp2_with (first
              | (go_at_call 28; refine (HR.out _).mono ?_; rintro e w5 ⟨rfl, hb5⟩; have HB5 := hid (HB.out.trans (hb5.mono HB.out.size)); have HK5 := hid (HBk.out.below hb5); clear hb5)
              | (go_at_call 40; refine (writeString_bld _ _ _ _ _ HK5.out (by rw [strW_size, List.length_replicate]; omega)).mono ?_; rintro e w6 ⟨rfl, hk6, hb6⟩; have HK6 := hid hk6; have HB6 := hid (HB5.out.trans (hb6.below (Nat.le_refl _) (by omega))); clear hk6 hb6))
            go_roundw
            case rel => exact ⟨k + 1, by omega, by go_num, hid (by rw [HE.out]; exact HK6.out), HB6⟩
            case measure => simp [intOf]; omega
          · have hkp : (0 : Int) < (k : Int) := by omega
            have HE := hid (exp_next HX.out hk0)
            go_wp2_with (first
              | (go_at_call 39; refine (writeByte_bld _ _ _ _ _ HBk.out (by omega)).mono ?_; rintro e w4 ⟨rfl, hk4, hb4⟩; have HK4 := hid hk4; have HB4 := hid (HB.out.trans (hb4.below (Nat.le_refl _) (by omega))); clear hk4 hb4)
              | (go_at_call 28; refine (HR.out _).mono ?_; rintro e w5 ⟨rfl, hb5⟩; have HB5 := hid (HB4.out.trans (hb5.mono HB4.out.size)); have HK5 := hid (HK4.out.below hb5); clear hb5)
              | (go_at_call 40; refine (writeString_bld _ _ _ _ _ HK5.out (by rw [strW_size, List.length_replicate, List.length_append]; simp; omega)).mono ?_; rintro e w6 ⟨rfl, hk6, hb6⟩; have HK6 := hid hk6; have HB6 := hid (HB5.out.trans (hb6.below (Nat.le_refl _) (by omega))); clear hk6 hb6))
            go_roundw
            case rel => exact ⟨k + 1, by omega, by go_num, hid (by rw [HE.out]; exact HK6.out), HB6⟩
            case measure => simp [intOf]; omega
        · obtain rfl : k = l.length := by omega
          have hb := HBk.out
          rw [List.take_length] at hb
          go_wp2_with (go_at_call 41; refine (string_bld _ _ _ _ hb).mono ?_; rintro e w4 ⟨rfl, hb4⟩; have HB4 := hid (HB.out.trans hb4); clear hb4)
          go_ret2
          exact ⟨rfl, HB4.out⟩
end Go.Proofs.YtieahckbbohfgaaGreatDoor

namespace Go.Proofs.YtieahckbbohfgaaGreatDoor
open Go.RowKit
set_option linter.unusedVariables false

theorem expand_nil (v : Value) (w : World) (hl : Sl 1 w v 0 (ints [])) :
    Calls Tryz.prog 17 #[v] w fun e w' => e = .returned (.tuple #[.string ⟨#[]⟩, .int .i64 5]) ∧ Below w.heap.size w w' := by
  obtain ⟨ao, cap, rfl, -, h2, h3, -⟩ := hl
  go_enter Tryz.func17, Tryz.ntmps17
  go_wp2
  go_ret2
  exact ⟨rfl, Below.refl _ _⟩
theorem expand_neg (v : Value) (zs : List Int) (w : World) (hl : Sl 1 w v zs.length (ints zs)) (hn : zs.length ≤ 1000) (hz : ∃ z ∈ zs, z < 0) :
    Calls Tryz.prog 17 #[v] w fun e w' => e = .returned (.tuple #[.string ⟨#[]⟩, .int .i64 2]) ∧ Below w.heap.size w w' := by
  have h0 : zs ≠ [] := by rintro rfl; obtain ⟨z, hz, _⟩ := hz; cases hz
  have HMi := hid (fun X (h : Sl 1 X v zs.length (ints zs)) => min_any v zs X h h0 (by omega))
  have hmn := (minOf_neg h0).2 hz
  have HL := hid hl
  have hp : 0 < zs.length := List.length_pos_iff.2 h0
  have hp1 : ((zs.length : Int) == 0) = false := by rw [beq_eq_false_iff_ne]; omega
  obtain ⟨ao, cap, rfl, -, h2, h3, -⟩ := hl
  generalize Lib.minOf zs = M at *
  clear hz h0
  go_enter Tryz.func17, Tryz.ntmps17
  go_wp2_with (go_at_call 38; refine (HMi.out _ HL.out).mono ?_; rintro e w1 ⟨rfl, rfl⟩)
  go_ret2
  exact ⟨rfl, Below.refl _ _⟩
set_option maxRecDepth 100000 in
set_option maxHeartbeats 1000000 in
theorem expand_big (v : Value) (zs : List Int) (w : World) (hl : Sl 1 w v zs.length (ints zs)) (hn : zs.length ≤ 20) (hz : ∀ z ∈ zs, 0 ≤ z ∧ (z ≤ 40 ∨ 65536 < z)) (hb : ∃ z ∈ zs, 65536 < z) (hm : ∀ z ∈ zs, z ≤ 9223372036854775807) :
    Calls Tryz.prog 17 #[v] w fun e w' => e = .returned (.tuple #[.string ⟨#[]⟩, .int .i64 4]) ∧ Below w.heap.size w w' := by
  have h0 : zs ≠ [] := by rintro rfl; obtain ⟨z, hz, _⟩ := hb; cases hz
  have HMi := hid (fun X (h : Sl 1 X v zs.length (ints zs)) => min_any v zs X h h0 (by omega))
  have hmn : ¬ Lib.minOf zs < 0 := fun h => by
    obtain ⟨z, h1, h2⟩ := (minOf_neg h0).1 h
    have := (hz z h1).1
    omega
  have HL := hid hl
  have HZ := hid hz
  have HB := hid hb
  have HM := hid hm
  have hp : 0 < zs.length := List.length_pos_iff.2 h0
  have hp1 : ((zs.length : Int) == 0) = false := by rw [beq_eq_false_iff_ne]; omega
  obtain ⟨ao, cap, rfl, -, h2, h3, -⟩ := hl
  generalize Lib.minOf zs = M at *
  clear hz h0 hb hm
  go_enter Tryz.func17, Tryz.ntmps17
  go_wp2_with (go_at_call 38; refine (HMi.out _ HL.out).mono ?_; rintro e w1 ⟨rfl, rfl⟩)
  go_loopw [20, 4] (fun i r wr => ∃ (k : Nat) (R : Int), k ≤ zs.length ∧ i = .int .i64 (k : Int) ∧ r = .int .i64 R ∧ 65537 - 41 * (k : Int) ≤ R ∧ R ≤ 65537 ∧ Hid (∀ z ∈ zs.take k, z ≤ 40) ∧ w1 = wr) (fun i _ _ => zs.length - (intOf i).toNat)
  case atStart => exact ⟨0, 65537, Nat.zero_le _, rfl, rfl, by omega, by omega, hid (fun z hz => by cases hz), rfl⟩
  case round =>
    obtain ⟨k, R, hk, rfl, rfl, hR1, hR2, HP, rfl⟩ := hrel
    by_cases hkn : k < zs.length
    · obtain ⟨n, hx⟩ := some_of_lt hkn
      obtain ⟨b, o, rfl, c0⟩ := HL.out.cell (ints_get hx)
      obtain ⟨hn0, hn1⟩ := HZ.out n (List.mem_of_getElem? hx)
      have hnm := HM.out n (List.mem_of_getElem? hx)
      by_cases hbig : 65536 < n
      · have b1 : R ≤ n := by omega
        clear hx hn1
        go_wp2
        go_ret2
        exact ⟨rfl, Below.refl _ _⟩
      · have b1 : ¬ R ≤ n := by omega
        have hn40 : n ≤ 40 := by omega
        have HX := hid hx
        have b2 : 65537 - 41 * ((k + 1 : Nat) : Int) ≤ R - (n + 1) := by omega
        have b3 : R - (n + 1) ≤ 65537 := by omega
        clear hx hn1 hbig
        go_wp2
        go_roundw
        case rel => exact ⟨k + 1, R - (n + 1), by omega, by go_num, rfl, b2, b3, hid (fun z hz => by rw [take_snoc HX.out] at hz; rcases List.mem_append.1 hz with h | h; exact HP.out z h; rw [List.mem_singleton.1 h]; exact hn40), trivial⟩
        case measure => simp [intOf]; omega
    · obtain ⟨z, h1, h2⟩ := HB.out
      have := HP.out z (by rw [List.take_of_length_le (by omega)]; exact h1)
      omega
end Go.Proofs.YtieahckbbohfgaaGreatDoor

namespace Go.Proofs.YtieahckbbohfgaaGreatDoor
open Go.RowKit
set_option linter.unusedVariables false

theorem bytes_snoc (l : List UInt8) (c : UInt8) : Lib.byteCells (l ++ [c]) = Lib.byteCells l ++ [.int .u8 (c.toNat : Int)] := by simp [Lib.byteCells]
/-- What stands before the zeros of the run k. -/
def expP (l : List Nat) (k : Nat) : List UInt8 := if k = 0 then [] else expW (l.take k) ++ [49]
theorem expP_full {l : List Nat} {k n : Nat} (h : l[k]? = some n) : expW (l.take (k + 1)) = expP l k ++ List.replicate n 48 := by
  unfold expP
  by_cases hk : k = 0
  · subst hk
    have e : l.take (0 + 1) = l.take 0 ++ [n] := take_snoc h
    rw [e]; rfl
  · have hne : l.take k ≠ [] := by
      intro e
      have := congrArg List.length e
      have h5 := lt_of_some h
      rw [List.length_take, List.length_nil] at this
      omega
    rw [take_snoc h, expW_snoc _ _ hne, if_neg hk, List.append_assoc]
    rfl
theorem expW_len {l : List Nat} (h : l ≠ []) : (expW l).length + 1 = tot l := by
  induction l with
  | nil => exact absurd rfl h
  | cons n l ih =>
    by_cases hl : l = []
    · subst hl; simp [expW, tot]
    · have := ih hl
      rw [expW_cons n hl]
      simp only [tot, List.map_cons, List.sum_cons, List.length_append, List.length_replicate, List.length_cons] at *
      omega
theorem conv_nil (w : World) : (convert 67 9 (.slice none 0 0)).run Tryz.prog w = .ok (.string ⟨[].toArray⟩) w := by kernel_rfl
theorem conv_own {w : World} {base : Nat} {ao : Option Addr} {c n : Nat} {L : List UInt8} (h : w.ownsRow base 5 1 (.slice ao n c) L.length (Lib.byteCells L)) : (convert 67 9 (.slice ao n c)).run Tryz.prog w = .ok (.string (strW L)) w := by
  rcases h.2 with ⟨hv, h0⟩ | ⟨g, cap, cur, hv, _⟩
  · obtain rfl : L = [] := List.length_eq_zero_iff.1 h0
    rw [hv]
    exact conv_nil w
  · rw [hv]
    simp only [Value.slice.injEq] at hv
    obtain ⟨rfl, rfl, rfl⟩ := hv
    exact run_convert_bytes_back (P := Tryz.prog) w 67 9 5 ⟨g, 0, none⟩ c L Tryz.underlying67 Tryz.underlying5 Tryz.underlying9 (fun j hj => h.cells (g := g) rfl j _ (by simp [Lib.byteCells, hj]))
theorem rep_snoc (a : List UInt8) (j : Nat) : a ++ List.replicate (j + 1) 48 = a ++ List.replicate j 48 ++ [48] := by
  rw [List.replicate_succ', List.append_assoc]
theorem byt_len2 (l : List UInt8) : (Lib.byteCells l).length = l.length := Lib.byteCells_length l
set_option maxRecDepth 100000 in
set_option maxHeartbeats 1000000 in
theorem rexpand_any (v : Value) (l : List Nat) (w : World) (hl : Sl 1 w v l.length (ints (natI l))) (h0 : l ≠ []) (hn : l.length ≤ 1000) (ht : tot l ≤ 65537) :
    Calls Tryz.prog 18 #[v] w fun e w' => e = .returned (.tuple #[.string (strW (expW l)), .int .i64 0]) ∧ Below w.heap.size w w' := by
  have HL := hid hl
  have hp : 0 < l.length := List.length_pos_iff.2 h0
  have hp1 : ((l.length : Int) == 0) = false := by rw [beq_eq_false_iff_ne]; omega
  obtain ⟨ao, cap, rfl, -, h2, h3, -⟩ := hl
  have HT := hid ht
  clear ht h0
  go_enter Tryz.func18, Tryz.ntmps18
  go_wp2_with fail
  go_loopw [4] (fun i wr => ∃ k : Nat, k ≤ l.length ∧ i = .int .i64 (k : Int) ∧ w = wr) (fun i _ => l.length - (intOf i).toNat)
  case atStart => exact ⟨0, Nat.zero_le _, rfl, rfl⟩
  case round =>
    obtain ⟨k, hk, rfl, rfl⟩ := hrel
    by_cases hkn : k < l.length
    · obtain ⟨n, hx⟩ := some_of_lt hkn
      obtain ⟨b, o, rfl, c0⟩ := HL.out.cell (ints_get (natI_get hx))
      have b1 : ¬ (n : Int) < 0 := by omega
      clear hx
      go_wp2
      go_roundw
      case rel => exact ⟨k + 1, by omega, by go_num, trivial⟩
      case measure => simp [intOf]; omega
    · obtain rfl : k = l.length := by omega
      have HO0 := hid (own_empty w 5 1)
      have HB0 := hid (bel_alloc w (.cells #[] 5))
      go_upto_region 9 with fail
      obtain ⟨w0, hw0⟩ : ∃ w0, w.alloc (.cells #[] 5) = w0 := ⟨_, rfl⟩
      rw [hw0] at HO0 HB0 ⊢
      clear hw0
      go_wp2_with fail
      go_loopw [6, 5] (fun i u wr => ∃ k : Nat, k ≤ l.length ∧ i = .int .i64 (k : Int) ∧ Hid (wr.ownsRow w.heap.size 5 1 u (expW (l.take k)).length (Lib.byteCells (expW (l.take k)))) ∧ Hid (Below w.heap.size w wr)) (fun i _ _ => l.length - (intOf i).toNat)
      case atStart => exact ⟨0, Nat.zero_le _, rfl, HO0, HB0⟩
      case round =>
        obtain ⟨k, hk, rfl, HO, HB⟩ := hrel
        rename World => wk
        obtain ⟨au, cu, rfl⟩ := own_slice HO.out
        by_cases hkn : k < l.length
        · obtain ⟨n, hx⟩ := some_of_lt hkn
          obtain ⟨b, o, rfl, c00⟩ := HL.out.cell (ints_get (natI_get hx))
          have c0 := keeps HB.out c00
          have HC := hid c00
          have hs := tot_take hx
          have hs2 := tot_take_le l (k + 1)
          have hlw := expW_len (l := l.take (k + 1)) (by intro e; have := congrArg List.length e; rw [List.length_take, List.length_nil] at this; omega)
          have ht := HT.out
          have HE := hid (expP_full hx)
          rw [HE.out, List.length_append, List.length_replicate] at hlw
          have hn6 : ¬ (65536 : Int) < (n : Int) := by omega
          have hPn : (expP l k).length + n ≤ 65536 := by omega
          have hPI : ¬ (65536 : Int) < (((expP l k).length + n : Nat) : Int) := by omega
          clear c00 hs hs2 hlw ht hx
          by_cases hk0 : k = 0
          · have hkp : ¬ (0 : Int) < (k : Int) := by omega
            have hP : expW (l.take k) = expP l k := by subst hk0; rfl
            rw [hP] at HO ⊢
            have hkl : k < 1000 := by omega
            clear hP hk0
            generalize expP l k = PR at *
            have HO4 := hid (show wk.ownsRow w.heap.size 5 1 (.slice au PR.length cu) (PR.length + 0) (Lib.byteCells (PR ++ List.replicate 0 48)) by rw [List.replicate_zero, List.append_nil]; exact HO.out)
            have HB4 := hid HB.out
            go_wp2_with fail
            go_loopw [7, 5] (fun i u wr => ∃ j : Nat, j ≤ n ∧ i = .int .i64 (j : Int) ∧ Hid (wr.ownsRow w.heap.size 5 1 u (PR.length + j) (Lib.byteCells (PR ++ List.replicate j 48))) ∧ Hid (Below w.heap.size w wr)) (fun i _ _ => n - (intOf i).toNat)
            case atStart => exact ⟨0, Nat.zero_le _, rfl, HO4, HB4⟩
            case round =>
              obtain ⟨j, hj, rfl, HOj, HBj⟩ := hrel
              rename World => wj
              obtain ⟨aj, cj, rfl⟩ := own_slice HOj.out
              have c1 := keeps HBj.out HC.out
              by_cases hjn : j < n
              · have HR := hid (rep_snoc PR j)
                have hbs := HBj.out.size
                go_wp2_with (at_builtin; refine wpList_push _ rfl _ _ 67 rfl w.heap.size 5 (.int .u8 0) 1 1 Tryz.underlying67 Tryz.infoU8 rfl (by decide) _ _ _ rfl HOj.out #[.int .u8 48] rfl (oneCell_int _ _) rfl (by unfold maxLen; omega) (by omega) hbs ?_; intro g3 gc3 w3 hown3 hg3 hb3; have HO3 := hid hown3; have HB3 := hid (HBj.out.trans hb3); clear hown3 hg3 hb3)
                go_roundw
                case rel => exact ⟨j + 1, by omega, by go_num, hid (by rw [HR.out, bytes_snoc]; exact HO3.out), HB3⟩
                case measure => simp [intOf]; omega
              · obtain rfl : j = n := by omega
                go_wp2
                go_roundw
                case rel => exact ⟨k + 1, by omega, by go_num, hid (by rw [HE.out, List.length_append, List.length_replicate]; exact HOj.out), HBj⟩
                case measure => simp [intOf]; omega
          · have hkp : (0 : Int) < (k : Int) := by omega
            have hP : expP l k = expW (l.take k) ++ [49] := by rw [expP, if_neg hk0]
            have HP := hid (show (expW (l.take k)).length + 1 = (expP l k).length ∧ Lib.byteCells (expP l k) = Lib.byteCells (expW (l.take k)) ++ [.int .u8 49] by rw [hP, bytes_snoc, List.length_append]; exact ⟨rfl, rfl⟩)
            have hle : (expW (l.take k)).length ≤ 65536 := by have := HP.out.1; omega
            have hbs0 := HB.out.size
            clear hP
            generalize expP l k = PR at *
            generalize expW (l.take k) = Q at *
            go_upto_region 14 with (at_builtin; refine wpList_push _ rfl _ _ 67 rfl w.heap.size 5 (.int .u8 0) 1 1 Tryz.underlying67 Tryz.infoU8 rfl (by decide) _ _ _ rfl HO.out #[.int .u8 49] rfl (oneCell_int _ _) rfl (by unfold maxLen; omega) (by omega) hbs0 ?_; intro g4 gc4 w4 hown4 hg4 hb4; have HO4 := hid (show w4.ownsRow w.heap.size 5 1 (.slice (some ⟨g4, 0, none⟩) (Q.length + 1) gc4) (PR.length + 0) (Lib.byteCells (PR ++ List.replicate 0 48)) by rw [List.replicate_zero, List.append_nil, HP.out.2, ← HP.out.1]; exact hown4); have HB4 := hid (HB.out.trans hb4); have c0 := keeps HB4.out HC.out; clear hown4 hg4 hb4)
            go_wp2_with fail
            go_loopw [7, 5] (fun i u wr => ∃ j : Nat, j ≤ n ∧ i = .int .i64 (j : Int) ∧ Hid (wr.ownsRow w.heap.size 5 1 u (PR.length + j) (Lib.byteCells (PR ++ List.replicate j 48))) ∧ Hid (Below w.heap.size w wr)) (fun i _ _ => n - (intOf i).toNat)
            case atStart => exact ⟨0, Nat.zero_le _, rfl, HO4, HB4⟩
            case round =>
              obtain ⟨j, hj, rfl, HOj, HBj⟩ := hrel
              rename World => wj
              obtain ⟨aj, cj, rfl⟩ := own_slice HOj.out
              have c1 := keeps HBj.out HC.out
              by_cases hjn : j < n
              · have HR := hid (rep_snoc PR j)
                have hbs := HBj.out.size
                go_wp2_with (at_builtin; refine wpList_push _ rfl _ _ 67 rfl w.heap.size 5 (.int .u8 0) 1 1 Tryz.underlying67 Tryz.infoU8 rfl (by decide) _ _ _ rfl HOj.out #[.int .u8 48] rfl (oneCell_int _ _) rfl (by unfold maxLen; omega) (by omega) hbs ?_; intro g3 gc3 w3 hown3 hg3 hb3; have HO3 := hid hown3; have HB3 := hid (HBj.out.trans hb3); clear hown3 hg3 hb3)
                go_roundw
                case rel => exact ⟨j + 1, by omega, by go_num, hid (by rw [HR.out, bytes_snoc]; exact HO3.out), HB3⟩
                case measure => simp [intOf]; omega
              · obtain rfl : j = n := by omega
                go_wp2
                go_roundw
                case rel => exact ⟨k + 1, by omega, by go_num, hid (by rw [HE.out, List.length_append, List.length_replicate]; exact HOj.out), HBj⟩
                case measure => simp [intOf]; omega
        · obtain rfl : k = l.length := by omega
          have ho := HO.out
          rw [List.take_length] at ho
          have hconv := conv_own ho
          clear ho
          go_wp2
          go_ret2
          exact ⟨rfl, HB.out⟩
end Go.Proofs.YtieahckbbohfgaaGreatDoor

namespace Go.Proofs.YtieahckbbohfgaaGreatDoor
open Go.RowKit
set_option linter.unusedVariables false

theorem rexpand_nil (v : Value) (w : World) (hl : Sl 1 w v 0 (ints [])) :
    Calls Tryz.prog 18 #[v] w fun e w' => e = .returned (.tuple #[.string ⟨#[]⟩, .int .i64 5]) ∧ Below w.heap.size w w' := by
  obtain ⟨ao, cap, rfl, -, h2, h3, -⟩ := hl
  go_enter Tryz.func18, Tryz.ntmps18
  go_wp2
  go_ret2
  exact ⟨rfl, Below.refl _ _⟩
theorem rexpand_neg (v : Value) (zs : List Int) (w : World) (hl : Sl 1 w v zs.length (ints zs)) (hn : zs.length ≤ 1000) (hz : ∃ z ∈ zs, z < 0) :
    Calls Tryz.prog 18 #[v] w fun e w' => e = .returned (.tuple #[.string ⟨#[]⟩, .int .i64 2]) ∧ Below w.heap.size w w' := by
  have h0 : zs ≠ [] := by rintro rfl; obtain ⟨z, hz, _⟩ := hz; cases hz
  have HL := hid hl
  have HZ := hid hz
  have hp : 0 < zs.length := List.length_pos_iff.2 h0
  have hp1 : ((zs.length : Int) == 0) = false := by rw [beq_eq_false_iff_ne]; omega
  obtain ⟨ao, cap, rfl, -, h2, h3, -⟩ := hl
  clear hz h0
  go_enter Tryz.func18, Tryz.ntmps18
  go_wp2_with fail
  go_loopw [4] (fun i wr => ∃ k : Nat, k ≤ zs.length ∧ i = .int .i64 (k : Int) ∧ Hid (∀ z ∈ zs.take k, 0 ≤ z) ∧ w = wr) (fun i _ => zs.length - (intOf i).toNat)
  case atStart => exact ⟨0, Nat.zero_le _, rfl, hid (fun z hz => by cases hz), rfl⟩
  case round =>
    obtain ⟨k, hk, rfl, HP, rfl⟩ := hrel
    by_cases hkn : k < zs.length
    · obtain ⟨n, hx⟩ := some_of_lt hkn
      obtain ⟨b, o, rfl, c0⟩ := HL.out.cell (ints_get hx)
      by_cases hneg : n < 0
      · clear hx
        go_wp2
        go_ret2
        exact ⟨rfl, Below.refl _ _⟩
      · have HX := hid hx
        clear hx
        go_wp2
        go_roundw
        case rel => exact ⟨k + 1, by omega, by go_num, hid (fun z hz => by rw [take_snoc HX.out] at hz; rcases List.mem_append.1 hz with h | h; exact HP.out z h; rw [List.mem_singleton.1 h]; omega), trivial⟩
        case measure => simp [intOf]; omega
    · obtain ⟨z, h1, h2⟩ := HZ.out
      have := HP.out z (by rw [List.take_of_length_le (by omega)]; exact h1)
      omega
theorem tot_small {l : List Nat} (h : ∀ n ∈ l, n ≤ 40) : tot l ≤ 41 * l.length := by
  induction l with
  | nil => simp [tot]
  | cons n l ih =>
    have h1 := h n (List.mem_cons_self ..)
    have h2 := ih (fun m hm => h m (List.mem_cons_of_mem _ hm))
    simp only [tot, List.map_cons, List.sum_cons, List.length_cons] at *
    omega
set_option maxRecDepth 100000 in
set_option maxHeartbeats 1000000 in
theorem rexpand_big (v : Value) (l : List Nat) (w : World) (hl : Sl 1 w v l.length (ints (natI l))) (h0 : l ≠ []) (hn : l.length ≤ 20) (hz : ∀ n ∈ l, n ≤ 40 ∨ 65536 < n) (hb : ∃ n ∈ l, 65536 < n) (hm : ∀ n ∈ l, n ≤ 9223372036854775807) :
    Calls Tryz.prog 18 #[v] w fun e w' => e = .returned (.tuple #[.string ⟨#[]⟩, .int .i64 4]) ∧ Below w.heap.size w w' := by
  have HL := hid hl
  have hp : 0 < l.length := List.length_pos_iff.2 h0
  have hp1 : ((l.length : Int) == 0) = false := by rw [beq_eq_false_iff_ne]; omega
  obtain ⟨ao, cap, rfl, -, h2, h3, -⟩ := hl
  have HZ := hid hz
  have HBg := hid hb
  have HM := hid hm
  clear hz hb hm h0
  go_enter Tryz.func18, Tryz.ntmps18
  go_wp2_with fail
  go_loopw [4] (fun i wr => ∃ k : Nat, k ≤ l.length ∧ i = .int .i64 (k : Int) ∧ w = wr) (fun i _ => l.length - (intOf i).toNat)
  case atStart => exact ⟨0, Nat.zero_le _, rfl, rfl⟩
  case round =>
    obtain ⟨k, hk, rfl, rfl⟩ := hrel
    by_cases hkn : k < l.length
    · obtain ⟨n, hx⟩ := some_of_lt hkn
      obtain ⟨b, o, rfl, c0⟩ := HL.out.cell (ints_get (natI_get hx))
      have b1 : ¬ (n : Int) < 0 := by omega
      have hnm := HM.out n (List.mem_of_getElem? hx)
      clear hx
      go_wp2
      go_roundw
      case rel => exact ⟨k + 1, by omega, by go_num, trivial⟩
      case measure => simp [intOf]; omega
    · obtain rfl : k = l.length := by omega
      have HO0 := hid (own_empty w 5 1)
      have HB0 := hid (bel_alloc w (.cells #[] 5))
      go_upto_region 9 with fail
      obtain ⟨w0, hw0⟩ : ∃ w0, w.alloc (.cells #[] 5) = w0 := ⟨_, rfl⟩
      rw [hw0] at HO0 HB0 ⊢
      clear hw0
      go_wp2_with fail
      go_loopw [6, 5] (fun i u wr => ∃ k : Nat, k ≤ l.length ∧ i = .int .i64 (k : Int) ∧ Hid (wr.ownsRow w.heap.size 5 1 u (expW (l.take k)).length (Lib.byteCells (expW (l.take k)))) ∧ Hid (∀ n ∈ l.take k, n ≤ 40) ∧ Hid (Below w.heap.size w wr)) (fun i _ _ => l.length - (intOf i).toNat)
      case atStart => exact ⟨0, Nat.zero_le _, rfl, HO0, hid (fun n hn => by cases hn), HB0⟩
      case round =>
        obtain ⟨k, hk, rfl, HO, HS, HB⟩ := hrel
        rename World => wk
        obtain ⟨au, cu, rfl⟩ := own_slice HO.out
        by_cases hkn : k < l.length
        · obtain ⟨n, hx⟩ := some_of_lt hkn
          obtain ⟨b, o, rfl, c00⟩ := HL.out.cell (ints_get (natI_get hx))
          have c0 := keeps HB.out c00
          have HC := hid c00
          have hnm := HM.out n (List.mem_of_getElem? hx)
          have hbs0 := HB.out.size
          have hlk : (expW (l.take k)).length ≤ 41 * k := by
            have h5 := expW_tot (l.take k)
            have h6 := tot_small HS.out
            have h7 : (l.take k).length ≤ k := by rw [List.length_take]; omega
            have := Nat.mul_le_mul_left 41 h7
            omega
          have HE := hid (expP_full hx)
          rcases HZ.out n (List.mem_of_getElem? hx) with hz40 | hbig
          · have HS1 := hid (show ∀ m ∈ l.take (k + 1), m ≤ 40 from fun m hm => by rw [take_snoc hx] at hm; rcases List.mem_append.1 hm with h | h; exact HS.out m h; rw [List.mem_singleton.1 h]; exact hz40)
            have hn6 : ¬ (65536 : Int) < (n : Int) := by omega
            have hPl : (expP l k).length ≤ (expW (l.take k)).length + 1 := by unfold expP; split <;> simp
            have hPn : (expP l k).length + n ≤ 65536 := by omega
            have hPI : ¬ (65536 : Int) < (((expP l k).length + n : Nat) : Int) := by omega
            clear c00 hx hPl
            by_cases hk0 : k = 0
            · have hkp : ¬ (0 : Int) < (k : Int) := by omega
              have hP : expW (l.take k) = expP l k := by subst hk0; rfl
              rw [hP] at HO ⊢
              have hkl : k < 1000 := by omega
              clear hP hk0
              generalize expP l k = PR at *
              have HO4 := hid (show wk.ownsRow w.heap.size 5 1 (.slice au PR.length cu) (PR.length + 0) (Lib.byteCells (PR ++ List.replicate 0 48)) by rw [List.replicate_zero, List.append_nil]; exact HO.out)
              have HB4 := hid HB.out
              go_wp2_with fail
              go_loopw [7, 5] (fun i u wr => ∃ j : Nat, j ≤ n ∧ i = .int .i64 (j : Int) ∧ Hid (wr.ownsRow w.heap.size 5 1 u (PR.length + j) (Lib.byteCells (PR ++ List.replicate j 48))) ∧ Hid (Below w.heap.size w wr)) (fun i _ _ => n - (intOf i).toNat)
              case atStart => exact ⟨0, Nat.zero_le _, rfl, HO4, HB4⟩
              case round =>
                obtain ⟨j, hj, rfl, HOj, HBj⟩ := hrel
                rename World => wj
                obtain ⟨aj, cj, rfl⟩ := own_slice HOj.out
                have c1 := keeps HBj.out HC.out
                by_cases hjn : j < n
                · have HR := hid (rep_snoc PR j)
                  have hbs := HBj.out.size
                  go_wp2_with (at_builtin; refine wpList_push _ rfl _ _ 67 rfl w.heap.size 5 (.int .u8 0) 1 1 Tryz.underlying67 Tryz.infoU8 rfl (by decide) _ _ _ rfl HOj.out #[.int .u8 48] rfl (oneCell_int _ _) rfl (by unfold maxLen; omega) (by omega) hbs ?_; intro g3 gc3 w3 hown3 hg3 hb3; have HO3 := hid hown3; have HB3 := hid (HBj.out.trans hb3); clear hown3 hg3 hb3)
                  go_roundw
                  case rel => exact ⟨j + 1, by omega, by go_num, hid (by rw [HR.out, bytes_snoc]; exact HO3.out), HB3⟩
                  case measure => simp [intOf]; omega
                · obtain rfl : j = n := by omega
                  go_wp2
                  go_roundw
                  case rel => exact ⟨k + 1, by omega, by go_num, hid (by rw [HE.out, List.length_append, List.length_replicate]; exact HOj.out), HS1, HBj⟩
                  case measure => simp [intOf]; omega
            · have hkp : (0 : Int) < (k : Int) := by omega
              have hP : expP l k = expW (l.take k) ++ [49] := by rw [expP, if_neg hk0]
              have HP := hid (show (expW (l.take k)).length + 1 = (expP l k).length ∧ Lib.byteCells (expP l k) = Lib.byteCells (expW (l.take k)) ++ [.int .u8 49] by rw [hP, bytes_snoc, List.length_append]; exact ⟨rfl, rfl⟩)
              have hle : (expW (l.take k)).length ≤ 65536 := by have := HP.out.1; omega
              clear hP
              generalize expP l k = PR at *
              generalize expW (l.take k) = Q at *
              go_upto_region 14 with (at_builtin; refine wpList_push _ rfl _ _ 67 rfl w.heap.size 5 (.int .u8 0) 1 1 Tryz.underlying67 Tryz.infoU8 rfl (by decide) _ _ _ rfl HO.out #[.int .u8 49] rfl (oneCell_int _ _) rfl (by unfold maxLen; omega) (by omega) hbs0 ?_; intro g4 gc4 w4 hown4 hg4 hb4; have HO4 := hid (show w4.ownsRow w.heap.size 5 1 (.slice (some ⟨g4, 0, none⟩) (Q.length + 1) gc4) (PR.length + 0) (Lib.byteCells (PR ++ List.replicate 0 48)) by rw [List.replicate_zero, List.append_nil, HP.out.2, ← HP.out.1]; exact hown4); have HB4 := hid (HB.out.trans hb4); have c0 := keeps HB4.out HC.out; clear hown4 hg4 hb4)
              go_wp2_with fail
              go_loopw [7, 5] (fun i u wr => ∃ j : Nat, j ≤ n ∧ i = .int .i64 (j : Int) ∧ Hid (wr.ownsRow w.heap.size 5 1 u (PR.length + j) (Lib.byteCells (PR ++ List.replicate j 48))) ∧ Hid (Below w.heap.size w wr)) (fun i _ _ => n - (intOf i).toNat)
              case atStart => exact ⟨0, Nat.zero_le _, rfl, HO4, HB4⟩
              case round =>
                obtain ⟨j, hj, rfl, HOj, HBj⟩ := hrel
                rename World => wj
                obtain ⟨aj, cj, rfl⟩ := own_slice HOj.out
                have c1 := keeps HBj.out HC.out
                by_cases hjn : j < n
                · have HR := hid (rep_snoc PR j)
                  have hbs := HBj.out.size
                  go_wp2_with (at_builtin; refine wpList_push _ rfl _ _ 67 rfl w.heap.size 5 (.int .u8 0) 1 1 Tryz.underlying67 Tryz.infoU8 rfl (by decide) _ _ _ rfl HOj.out #[.int .u8 48] rfl (oneCell_int _ _) rfl (by unfold maxLen; omega) (by omega) hbs ?_; intro g3 gc3 w3 hown3 hg3 hb3; have HO3 := hid hown3; have HB3 := hid (HBj.out.trans hb3); clear hown3 hg3 hb3)
                  go_roundw
                  case rel => exact ⟨j + 1, by omega, by go_num, hid (by rw [HR.out, bytes_snoc]; exact HO3.out), HB3⟩
                  case measure => simp [intOf]; omega
                · obtain rfl : j = n := by omega
                  go_wp2
                  go_roundw
                  case rel => exact ⟨k + 1, by omega, by go_num, hid (by rw [HE.out, List.length_append, List.length_replicate]; exact HOj.out), HS1, HBj⟩
                  case measure => simp [intOf]; omega
          · have hn6 : (65536 : Int) < (n : Int) := by omega
            clear c00 hx
            by_cases hk0 : k = 0
            · have hkp : ¬ (0 : Int) < (k : Int) := by omega
              clear hk0
              go_wp2_with fail
              go_ret2
              exact ⟨rfl, HB.out⟩
            · have hkp : (0 : Int) < (k : Int) := by omega
              generalize expW (l.take k) = Q at *
              go_wp2_with (at_builtin; refine wpList_push _ rfl _ _ 67 rfl w.heap.size 5 (.int .u8 0) 1 1 Tryz.underlying67 Tryz.infoU8 rfl (by decide) _ _ _ rfl HO.out #[.int .u8 49] rfl (oneCell_int _ _) rfl (by unfold maxLen; omega) (by omega) hbs0 ?_; intro g4 gc4 w4 hown4 hg4 hb4; have HB4 := hid (HB.out.trans hb4); have c0 := keeps HB4.out HC.out; clear hown4 hg4 hb4)
              go_ret2
              exact ⟨rfl, HB4.out⟩
        · obtain ⟨n, h1, h2⟩ := HBg.out
          have := HS.out n (by rw [List.take_of_length_le (by omega)]; exact h1)
          omega
end Go.Proofs.YtieahckbbohfgaaGreatDoor
