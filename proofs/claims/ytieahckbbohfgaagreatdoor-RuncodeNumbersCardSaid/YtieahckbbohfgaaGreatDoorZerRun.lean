/-
  The reference's Runs at words over the letters 0 and 1.
  The word has at most 1000 letters.
-/
import Derived.Test.YtieahckbbohfgaaGreatDoorZerLaw
import Derived.Test.YtieahckbbohfgaaGreatDoorUngol
import Derived.Test.YtieahckbbohfgaaGreatDoorRefWd
namespace Go.Proofs.YtieahckbbohfgaaGreatDoor
open Go.RowKit
set_option linter.unusedVariables false

def natI (l : List Nat) : List Int := l.map fun n : Nat => (n : Int)
theorem natI_snoc (l : List Nat) (n : Nat) : ints (natI (l ++ [n])) = ints (natI l) ++ [.int .i64 (n : Int)] := by simp [natI, ints]
theorem natI_len (l : List Nat) : (natI l).length = l.length := by simp [natI]
theorem byte_at {s : ByteArray} {k : Nat} {c : UInt8} (h : s.data.toList[k]? = some c) (hk : k < s.size) : s[k] = c := by
  have h2 : s.data[k]? = some c := by rw [← Array.getElem?_toList]; exact h
  have h3 := Array.getElem?_eq_some_iff.1 h2
  exact h3.2
set_option maxRecDepth 100000 in
set_option maxHeartbeats 1000000 in
theorem rruns_any (s : ByteArray) (w : World) (hE : wordErr 2 s = 0) (hs : s.size ≤ 1000) :
    Calls Tryz.prog 16 #[.string s] w fun e w' => ∃ u, e = .returned (.tuple #[u, .int .i64 0]) ∧ w'.ownsRow w.heap.size 3 1 u (runsG 0 s.data.toList).length (ints (natI (runsG 0 s.data.toList))) ∧ Below w.heap.size w w' := by
  obtain ⟨hbits, _⟩ := bits_of hE
  have HCk := hid (fun X => rwcheck_any 2 s X)
  rw [hE] at HCk
  have HLn := hid (ba_len s)
  have HBi := hid hbits
  clear hE hbits
  go_enter Tryz.func16, Tryz.ntmps16
  go_upto_region 5 with (go_at_call 37; refine (HCk.out _).mono ?_; rintro e w1 ⟨rfl, rfl⟩)
  have HO0 := hid (own_empty w 3 1)
  have HB0 := hid (bel_alloc w (.cells #[] 3))
  obtain ⟨w0, hw0⟩ : ∃ w0, w.alloc (.cells #[] 3) = w0 := ⟨_, rfl⟩
  rw [hw0] at HO0 HB0 ⊢
  clear hw0
  go_wp2_with fail
  go_loopw [7, 5, 6] (fun i u a wr => ∃ (k : Nat) (D : List Nat) (n : Nat), k ≤ s.size ∧ n ≤ k ∧ D.length ≤ k ∧ i = .int .i64 (k : Int) ∧ a = .int .i64 (n : Int) ∧ Hid (wr.ownsRow w.heap.size 3 1 u D.length (ints (natI D))) ∧ Hid (D ++ runsG n (s.data.toList.drop k) = runsG 0 s.data.toList) ∧ Hid (Below w.heap.size w wr)) (fun i _ _ _ => s.size - (intOf i).toNat)
  case atStart => exact ⟨0, [], 0, Nat.zero_le _, Nat.le_refl _, Nat.le_refl _, rfl, rfl, HO0, hid rfl, HB0⟩
  case round =>
    obtain ⟨k, D, n, hk, hnk, hD, rfl, rfl, HO, HE, HB⟩ := hrel
    rename World => wk
    obtain ⟨au, cu, rfl⟩ := own_slice HO.out
    by_cases hkn : k < s.size
    · obtain ⟨c, hc⟩ := some_of_lt (show k < s.data.toList.length by rw [HLn.out]; exact hkn)
      have hget := byte_at hc hkn
      have hbit := HBi.out c (List.mem_of_getElem? hc)
      have HDr := hid (drop_cons hc)
      clear hc
      unfold isBit at hbit
      simp only [Bool.or_eq_true, beq_iff_eq] at hbit
      rcases hbit with rfl | rfl
      · have e1 : (((48 : UInt8).toNat : Int) == 49) = false := by decide
        have HN := hid (show D ++ runsG (n + 1) (s.data.toList.drop (k + 1)) = runsG 0 s.data.toList by rw [← HE.out, HDr.out, runsG_ne n _ (by decide)])
        go_wp2
        go_roundw
        case rel => exact ⟨k + 1, D, n + 1, by omega, by omega, by omega, by go_num, by go_num, HO, HN, HB⟩
        case measure => simp [intOf]; omega
      · have e1 : (((49 : UInt8).toNat : Int) == 49) = true := by decide
        have HN := hid (show D ++ [n] ++ runsG 0 (s.data.toList.drop (k + 1)) = runsG 0 s.data.toList by rw [← HE.out, HDr.out, runsG_one, List.append_assoc]; rfl)
        have hbs := HB.out.size
        go_wp2_with (at_builtin; refine wpList_push _ rfl _ _ 33 rfl w.heap.size 3 (.int .i64 0) 1 8 Tryz.underlying33 Tryz.infoInt rfl (by decide) _ _ _ rfl HO.out #[.int .i64 (n : Int)] rfl (oneCell_int _ _) rfl (by unfold maxLen; omega) (by omega) hbs ?_; intro g3 gc3 w3 hown3 hg3 hb3; have HO3 := hid hown3; have HB3 := hid (HB.out.trans hb3); clear hown3 hg3 hb3)
        go_roundw
        case rel => exact ⟨k + 1, D ++ [n], 0, by omega, by omega, by simp; omega, by go_num, rfl, hid (by rw [natI_snoc, List.length_append]; exact HO3.out), HN, HB3⟩
        case measure => simp [intOf]; omega
    · obtain rfl : k = s.size := by omega
      have hE := HE.out
      rw [List.drop_of_length_le (Nat.le_of_eq HLn.out)] at hE
      have HN := hid (show runsG 0 s.data.toList = D ++ [n] from hE.symm)
      clear hE
      have hbs := HB.out.size
      go_wp2_with (at_builtin; refine wpList_push _ rfl _ _ 33 rfl w.heap.size 3 (.int .i64 0) 1 8 Tryz.underlying33 Tryz.infoInt rfl (by decide) _ _ _ rfl HO.out #[.int .i64 (n : Int)] rfl (oneCell_int _ _) rfl (by unfold maxLen; omega) (by omega) hbs ?_; intro g3 gc3 w3 hown3 hg3 hb3; have HO3 := hid hown3; have HB3 := hid (HB.out.trans hb3); clear hown3 hg3 hb3)
      go_ret2
      exact ⟨_, rfl, by rw [HN.out, natI_snoc, List.length_append]; exact HO3.out, HB3.out⟩
end Go.Proofs.YtieahckbbohfgaaGreatDoor
