/-
  grooveref45.agree: after how many letters two machines agree.
  The machine's rows lie in memory; each state can read each letter.
-/
import Derived.Test.YtalklhjmnoodeaaRefRun
import Derived.Test.YtalklhjmnoodeaaDelay
namespace Go.Proofs.Ytalklhjmnoodeaa
open Go.RowKit Go.Deep
set_option linter.unusedVariables false

set_option maxRecDepth 100000 in
set_option maxHeartbeats 2000000 in
theorem ragree_any (vN vE : Value) (n q : Nat) (nx : Nat → Nat → Nat) (em : Nat → Nat → Int) (s t : Nat) (x : ByteArray) (w : World)
    (hN : Mt w vN n q (fun i j => (nx i j : Int))) (hEm : Mt w vE n q em) (hc : ∀ s a, nx s a < n) (hs : s < n) (ht : t < n) (hn : n ≤ 1000) (hx : okWord q x = true) (hz : x.size ≤ 100000) :
    Calls Try.prog 45 #[.agg #[vN, vE], .int .i64 (s : Int), .int .i64 (t : Int), .string x] w fun e w' => e = .returned (.tuple #[.int .i64 (agI (agreeN nx s t x.data.toList)), .bool (agB (agreeN nx s t x.data.toList))]) ∧ Below w.heap.size w w' := by
  obtain ⟨aN, cN, rfl, hcN, hcN2⟩ := hN.slice
  obtain ⟨aE, cE, rfl, hcE, hcE2⟩ := hEm.slice
  have HRun := hid (show ∀ (S k : Nat) (W : World), Mt W (.slice aN n cN) n q (fun i j => (nx i j : Int)) → Mt W (.slice aE n cE) n q em → S < n →
      Calls Try.prog 44 #[.agg #[.slice aN n cN, .slice aE n cE], .int .i64 (S : Int), .string (x.extract 0 k)] W fun e w' => (∃ u, e = .returned (.tuple #[.int .i64 (runN nx S (x.data.toList.take k) : Nat), u])) ∧ Below W.heap.size W w' from
    fun S k W h1 h2 hS => by
      have h := rrun_any _ _ n q nx em S (x.extract 0 k) W h1 h2 hc hS hn (okWord_sub hx fun c hc => by rw [pre_list] at hc; exact List.mem_of_mem_take hc) (by rw [ByteArray.size_extract]; omega)
      rw [pre_list] at h
      refine h.mono ?_
      rintro e w' ⟨u, rfl, _, hb⟩
      exact ⟨⟨u, rfl⟩, hb⟩)
  have HN0 := hid hN
  have HE0 := hid hEm
  clear hN hEm
  go_enter Try.func45, Try.ntmps45
  go_upto_region 1 with fail
  obtain ⟨w0, hw0⟩ : ∃ w0, w.alloc (.cells #[.slice aN n cN, .slice aE n cE] 69) = w0 := ⟨_, rfl⟩
  have hb0 : Below w.heap.size w w0 := by rw [← hw0]; exact bel_alloc _ _
  have c2 : w0.cell? ⟨w.heap.size, 0, none⟩ = some (.slice aN n cN) := by rw [← hw0]; simp
  have c3 : w0.cell? ⟨w.heap.size, 1, none⟩ = some (.slice aE n cE) := by rw [← hw0]; simp
  rw [hw0]
  have HB0 := hid hb0
  have HC0 := hid (And.intro c2 c3)
  have HN1 := hid (HN0.out.below hb0)
  have HE1 := hid (HE0.out.below hb0)
  clear hw0 hb0 c2 c3 HN0 HE0
  go_upto_region 2 with fail
  go_loopw [10] (fun i wr => ∃ k : Nat, k ≤ x.size + 1 ∧ i = .int .i64 k ∧ Below w0.heap.size w0 wr ∧ Hid (firstN (agAt nx s t x.data.toList) k = none)) (fun i _ => x.size + 1 - (intOf i).toNat)
  case atStart => exact ⟨0, Nat.zero_le _, rfl, Below.refl _ _, hid rfl⟩
  case round =>
    obtain ⟨k, hk, rfl, hb, HK⟩ := hrel
    by_cases hlt : k ≤ x.size
    · have c0 := keeps hb HC0.out.1
      have c1 := keeps hb HC0.out.2
      have HB := hid hb
      have hw1 : (0 : Int) ≤ (k : Int) := by omega
      have hw2 : (k : Int) ≤ (x.size : Int) := by omega
      clear hb
      go_upto_region 4 with fail
      go_region_held3 (fun w' => w'.cell? ⟨w.heap.size, 0, none⟩ = some (.slice aN n cN) ∧ w'.cell? ⟨w.heap.size, 1, none⟩ = some (.slice aE n cE))
        (first | exact ⟨c0, c1⟩ | go_keep)
        (first | (go_at_call 44; refine (HRun.out s k _ (HN1.out.below (bel_step HB.out (Below.refl _ _))) (HE1.out.below (bel_step HB.out (Below.refl _ _))) hs).mono ?_; rintro e w2 ⟨⟨u, rfl⟩, hb2⟩; have c0 := keeps hb2 c0; have c1 := keeps hb2 c1))
      have HB2 := hid (bel_step HB.out hb2)
      clear hb2 HB
      go_wp2_with fail
      go_region_held3 (fun w' => w'.cell? ⟨w.heap.size, 0, none⟩ = some (.slice aN n cN) ∧ w'.cell? ⟨w.heap.size, 1, none⟩ = some (.slice aE n cE))
        (first | exact ⟨c0, c1⟩ | go_keep)
        (first | (go_at_call 44; refine (HRun.out t k _ (HN1.out.below (bel_step HB2.out (Below.refl _ _))) (HE1.out.below (bel_step HB2.out (Below.refl _ _))) ht).mono ?_; rintro e w3 ⟨⟨u3, rfl⟩, hb3⟩; have c0 := keeps hb3 c0; have c1 := keeps hb3 c1))
      have HB3 := hid (bel_step HB2.out hb3)
      clear hb3 HB2 hw1 hw2
      by_cases heq : runN nx s (x.data.toList.take k) = runN nx t (x.data.toList.take k)
      · have HR := hid (show agreeN nx s t x.data.toList = some k from firstN_hit HK.out (by simp [agAt, heq]) (by rw [ba_len]; omega))
        have hbq : (((runN nx s (x.data.toList.take k) : Nat) : Int) == ((runN nx t (x.data.toList.take k) : Nat) : Int)) = true := by simp [heq]
        clear heq
        go_wp2
        go_ret2
        exact ⟨by rw [HR.out]; rfl, bel_step HB0.out HB3.out⟩
      · have HM := hid (firstN_miss HK.out (show agAt nx s t x.data.toList k = false by simp [agAt, heq]))
        have hbq : (((runN nx s (x.data.toList.take k) : Nat) : Int) == ((runN nx t (x.data.toList.take k) : Nat) : Int)) = false := by rw [beq_eq_false_iff_ne]; intro h; exact heq (by omega)
        clear heq
        go_wp2
        go_roundw
        case rel => exact ⟨k + 1, by omega, by go_num, HB3.out, HM⟩
        case measure => simp [intOf]; omega
    · go_wp2
      go_ret2
      have e : k = x.size + 1 := by omega
      subst e
      have e2 : agreeN nx s t x.data.toList = none := by unfold agreeN; rw [ba_len]; exact HK.out
      exact ⟨by rw [e2]; rfl, bel_step HB0.out hb⟩
end Go.Proofs.Ytalklhjmnoodeaa
