/-
  grooveref45.Table: what resync.Table says, too.
  No condition beyond the words lying in a slice.
-/
import Derived.Test.YtalklhjmnoodeaaRefTab
import Derived.Test.YtalklhjmnoodeaaRefDelay
namespace Go.Proofs.Ytalklhjmnoodeaa
open Go.RowKit Go.Deep
set_option linter.unusedVariables false

set_option maxRecDepth 100000 in
set_option maxHeartbeats 4000000 in
theorem reftable_any (q : Int) (v : Value) (ws : List ByteArray) (w : World) (hl : Sl 1 w v ws.length (strs ws)) :
    Calls Try.prog 24 #[.agg #[.int .i64 q, v]] w (TPost q ws w) := by
  have HL := hid hl
  have HOf := hid (fun (X : World) h => rof_any q v ws X h)
  obtain ⟨ao, cap, rfl, _, hl1, hl2, hl3⟩ := hl
  clear hl3
  go_enter Try.func24, Try.ntmps24
  go_upto_region 1 with fail
  obtain ⟨w0, hw0⟩ : ∃ w0, w.alloc (.cells #[.int .i64 q, .slice ao ws.length cap] 24) = w0 := ⟨_, rfl⟩
  obtain ⟨hb0, c0, c1⟩ := boxed hw0
  rw [hw0]
  have HB0 := hid hb0
  clear hw0 hb0
  go_upto_region 2 with (go_at_call 42; refine (HOf.out _ (HL.out.below HB0.out)).mono ?_; rintro e w1 ⟨⟨aN, nN, cN, aE, nE, cE, rfl, hM⟩, hb1⟩; have HB1 := hid (bel_step HB0.out hb1))
  obtain ⟨wp, hwp⟩ : ∃ wp, w1.alloc (.cells #[.slice aN nN cN, .slice aE nE cE] 69) = wp := ⟨_, rfl⟩
  obtain ⟨hbp, p0, p1⟩ := boxM hwp
  rw [hwp]
  have HBp := hid (bel_step HB1.out hbp)
  have HMp := hid (fun h => (⟨(hM h).1.below hbp, (hM h).2.below hbp⟩ : Mt wp _ _ _ _ ∧ Mt wp _ _ _ _))
  clear hwp hbp hb1 hM HOf HL c1 c0
  generalize w1.heap.size = g at *
  by_cases hE : rErr q ws [] = 0
  · obtain ⟨hA, h64, hwx⟩ := rErr_zero hE
    have hm := mach_of hA
    obtain ⟨hMN, hME⟩ := HMp.out hE
    have hMN := hMN.congr hm.eq
    obtain ⟨Q, rfl⟩ : ∃ Q : Nat, q = Q := ⟨q.toNat, by have := hm.q2; omega⟩
    have hq16 := hm.q16
    rw [Int.toNat_natCast] at hMN hME
    obtain ⟨_, _, e1, _⟩ := hMN.slice
    obtain ⟨_, _, e2, _⟩ := hME.slice
    simp only [Value.slice.injEq] at e1 e2
    obtain ⟨-, rfl, -⟩ := e1
    obtain ⟨-, rfl, -⟩ := e2
    have HT := hid (rtab_any _ _ _ _ _ _ wp hMN hME hm.lt h64 (by omega))
    have HE := hid hE
    clear hMN hME hA hwx hm HMp
    rw [hE]
    clear hE
    go_wp2_with (go_at_call 51; refine HT.out.mono ?_; rintro e w2 ⟨u, T, rfl, hT, hMt, hb2⟩)
    go_ret2
    exact .inr ⟨HE.out, _, T, rfl, hT, hMt, bel_step HBp.out hb2⟩
  · have hE2 : (rErr q ws [] != 0) = true := by simp [hE]
    go_wp2
    go_ret2
    exact .inl ⟨hE, rfl, HBp.out⟩
end Go.Proofs.Ytalklhjmnoodeaa
