/-
  grooveref33.SameLists at two tables with the same numbers.
  No condition beyond both lying in memory.
-/
import Derived.Test.YtalklhjmnoodeaaAid
namespace Go.Proofs.Ytalklhjmnoodeaa
open Go.RowKit
set_option linter.unusedVariables false

theorem Mt.nil0 (w : World) (f : Nat → Nat → Int) : Mt w (.slice none 0 0) 0 0 f := ⟨[], Sl.nil 1 w, fun i hi => by omega⟩

set_option maxRecDepth 100000 in
set_option maxHeartbeats 4000000 in
theorem rlists_any (v u : Value) (n m : Nat) (f : Nat → Nat → Int) (w : World) (hv : Mt w v n m f) (hu : Mt w u n m f) (hn : n ≤ 1000) (hm : m ≤ 1000) :
    Calls Try.prog 27 #[v, u] w fun e w' => e = .returned (.bool true) ∧ Dr w w' := by
  obtain ⟨a1, k1, rfl, h1, h2⟩ := hv.slice
  obtain ⟨a2, k2, rfl, h3, h4⟩ := hu.slice
  have HV := hid hv
  have HU := hid hu
  clear hv hu
  go_enter Try.func27, Try.ntmps27
  go_wp2_with fail
  go_loopw [5] (fun i wr => ∃ k : Nat, k ≤ n ∧ i = .int .i64 k ∧ Dr w wr) (fun i _ => n - (intOf i).toNat)
  case atStart => exact ⟨0, Nat.zero_le _, rfl, Dr.refl _⟩
  case round =>
    obtain ⟨k, hk, rfl, hD⟩ := hrel
    have HD := hid hD
    by_cases hlt : k < n
    · obtain ⟨b1, o1, r1, c1, rfl, n1, s1⟩ := (HV.out.dr hD).row hlt
      obtain ⟨b2, o2, r2, c2, rfl, n2, s2⟩ := (HU.out.dr hD).row hlt
      have HS1 := hid s1
      have HS2 := hid s2
      have HN := hid (And.intro n1 n2)
      clear s1 s2 hD
      go_wp2_with fail
      go_quiet (fail)
      have HDq := hid (HD.out.drewN nq)
      have HQ := hid (show Dr wr (wr.drewN nq) from (Dr.refl _).drewN nq)
      clear n1 n2 HD
      generalize wr.drewN nq = wq at *
      go_wp2_with fail
      go_loopw [6] (fun i wi => ∃ j : Nat, j ≤ m ∧ i = .int .i64 j ∧ Dr wr wi ∧ Dr w wi) (fun i _ => m - (intOf i).toNat)
      case atStart => exact ⟨0, Nat.zero_le _, rfl, HQ.out, HDq.out⟩
      case round =>
        obtain ⟨j, hj, rfl, hE, hF⟩ := hrel
        have HF := hid hF
        have HE := hid hE
        have n1 := keeps (hE.below _) HN.out.1
        have n2 := keeps (hE.below _) HN.out.2
        clear hF
        by_cases hlt2 : j < m
        · obtain ⟨b3, o3, rfl, m1⟩ := (HS1.out.dr hE).cell (rowV_get (f k) hlt2)
          obtain ⟨b4, o4, rfl, m2⟩ := (HS2.out.dr hE).cell (rowV_get (f k) hlt2)
          generalize f k j = V at *
          clear hE
          go_wp2_with fail
          go_quiet (fail)
          clear n1 n2 m1 m2
          go_wp2
          go_roundw
          case rel => exact ⟨j + 1, by omega, by go_num, HE.out.drewN _, HF.out.drewN _⟩
          case measure => simp [intOf]; omega
        · clear hE
          go_wp2
          go_roundw
          case rel => exact ⟨k + 1, by omega, by go_num, HF.out⟩
          case measure => simp [intOf]; omega
    · clear hD
      go_wp2
      go_ret
      exact ⟨rfl, HD.out⟩
end Go.Proofs.Ytalklhjmnoodeaa
