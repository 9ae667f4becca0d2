/-
  resync.agree: after how many letters two parsers agree.
  The parser's rows lie in memory; each state can read each letter.
-/
import Derived.Test.YtalklhjmnoodeaaMachRun
import Derived.Deep.RegionHeld3
namespace Go.Proofs.Ytalklhjmnoodeaa
open Go.RowKit
set_option linter.unusedVariables false

def agI (o : Option Nat) : Int := match o with | none => 0 | some k => k
def agB (o : Option Nat) : Bool := o.isSome
theorem one_letter {x : ByteArray} {k : Nat} {c : UInt8} (h : x.data.toList[k]? = some c) : (x.extract k (k + 1)).data.toList = [c] := by
  rw [Lib.extract_data, Nat.add_sub_cancel_left, drop_cons h]
  rfl
theorem one_size {x : ByteArray} {k : Nat} {c : UInt8} (h : x.data.toList[k]? = some c) : (x.extract k (k + 1)).size = 1 := by rw [← ba_len, one_letter h]; rfl
theorem ok_letter {q : Int} {x : ByteArray} {k : Nat} {c : UInt8} (hx : okWord q x = true) (h : x.data.toList[k]? = some c) : okWord q (x.extract k (k + 1)) = true := by
  have h1 := okWord_at hx (List.mem_of_getElem? h)
  unfold okWord
  rw [one_letter h]
  simp [h1]

set_option maxRecDepth 100000 in
set_option maxHeartbeats 2000000 in
theorem pagree_any (vS vN vE : Value) (n q : Nat) (st : List ByteArray) (nx : Nat → Nat → Nat) (em : Nat → Nat → Int) (s t : Nat) (x : ByteArray) (w : World)
    (hP : PVal w vS vN vE n q st (fun i j => (nx i j : Int)) em) (hc : ∀ s a, nx s a < n) (hs : s < n) (ht : t < n) (hn : n ≤ 1000) (hx : okWord q x = true) (hz : x.size ≤ 100000) :
    Calls Try.prog 41 #[.agg #[.int .i64 (q : Int), vS, vN, vE], .int .i64 (s : Int), .int .i64 (t : Int), .string x] w fun e w' => e = .returned (.tuple #[.int .i64 (agI (agreeN nx s t x.data.toList)), .bool (agB (agreeN nx s t x.data.toList))]) ∧ Below w.heap.size w w' := by
  obtain ⟨aS, cS, rfl, _⟩ := id hP.s
  obtain ⟨aN, cN, rfl, hcN, hcN2⟩ := hP.nx.slice
  obtain ⟨aE, cE, rfl, hcE, hcE2⟩ := hP.em.slice
  have HRun := hid (show ∀ (S k : Nat) (c : UInt8) (W : World), PVal W (.slice aS n cS) (.slice aN n cN) (.slice aE n cE) n q st (fun i j => (nx i j : Int)) em → S < n → x.data.toList[k]? = some c →
      Calls Try.prog 40 #[.agg #[.int .i64 (q : Int), .slice aS n cS, .slice aN n cN, .slice aE n cE], .int .i64 (S : Int), .string (x.extract k (k + 1))] W fun e w' => (∃ u, e = .returned (.tuple #[.int .i64 (nx S (dig c) : Nat), u])) ∧ Below W.heap.size W w' from
    fun S k c W hP hS hk => by
      have h := prun_any _ _ _ n q st nx em S (x.extract k (k + 1)) W hP hc hS hn (ok_letter hx hk) (by rw [one_size hk]; omega)
      rw [one_letter hk] at h
      refine h.mono ?_
      rintro e w' ⟨u, rfl, _, hb⟩
      exact ⟨⟨u, rfl⟩, hb⟩)
  have HP := hid hP
  clear hP
  go_enter Try.func41, Try.ntmps41
  go_upto_region 1 with fail
  obtain ⟨w0, hw0⟩ : ∃ w0, w.alloc (.cells #[.int .i64 q, .slice aS n cS, .slice aN n cN, .slice aE n cE] 36) = w0 := ⟨_, rfl⟩
  have hb0 : Below w.heap.size w w0 := by rw [← hw0]; exact bel_alloc _ _
  have c0 : w0.cell? ⟨w.heap.size, 0, none⟩ = some (.int .i64 q) := by rw [← hw0]; simp
  have c1 : w0.cell? ⟨w.heap.size, 1, none⟩ = some (.slice aS n cS) := by rw [← hw0]; simp
  have c2 : w0.cell? ⟨w.heap.size, 2, none⟩ = some (.slice aN n cN) := by rw [← hw0]; simp
  have c3 : w0.cell? ⟨w.heap.size, 3, none⟩ = some (.slice aE n cE) := by rw [← hw0]; simp
  rw [hw0]
  have HB0 := hid hb0
  have HC0 := hid (And.intro c0 (And.intro c1 (And.intro c2 c3)))
  have HP0 := hid (HP.out.below hb0)
  clear hw0 hb0 c0 c1 c2 c3 HP
  go_upto_region 2 with fail
  go_loopw [1, 2, 14] (fun s' t' i wr => ∃ k : Nat, k ≤ x.size + 1 ∧ i = .int .i64 k ∧ s' = .int .i64 (runN nx s (x.data.toList.take k) : Nat) ∧ t' = .int .i64 (runN nx t (x.data.toList.take k) : Nat) ∧ Below w0.heap.size w0 wr ∧ Hid (firstN (agAt nx s t x.data.toList) k = none)) (fun _ _ i _ => x.size + 1 - (intOf i).toNat)
  case atStart => exact ⟨0, Nat.zero_le _, rfl, rfl, rfl, Below.refl _ _, hid rfl⟩
  case round =>
    obtain ⟨k, hk, rfl, rfl, rfl, hb, HK⟩ := hrel
    have hrs := runN_lt (nx := nx) (l := x.data.toList.take k) hc hs
    have hrt := runN_lt (nx := nx) (l := x.data.toList.take k) hc ht
    by_cases hlt : k < x.size + 1
    · by_cases heq : runN nx s (x.data.toList.take k) = runN nx t (x.data.toList.take k)
      · have HR := hid (show agreeN nx s t x.data.toList = some k from firstN_hit HK.out (by simp [agAt, heq]) (by rw [ba_len]; exact hlt))
        have hbq : (((runN nx s (x.data.toList.take k) : Nat) : Int) == ((runN nx t (x.data.toList.take k) : Nat) : Int)) = true := by simp [heq]
        clear heq
        go_wp2
        go_ret2
        exact ⟨by rw [HR.out]; rfl, bel_step HB0.out hb⟩
      · have HM := hid (firstN_miss HK.out (show agAt nx s t x.data.toList k = false by simp [agAt, heq]))
        have hbq : (((runN nx s (x.data.toList.take k) : Nat) : Int) == ((runN nx t (x.data.toList.take k) : Nat) : Int)) = false := by rw [beq_eq_false_iff_ne]; intro h; exact heq (by omega)
        clear heq
        by_cases hlt2 : k < x.size
        · obtain ⟨c, hcx⟩ := some_of_lt (l := x.data.toList) (k := k) (by rw [ba_len]; exact hlt2)
          have c0 := keeps hb HC0.out.1
          have c1 := keeps hb HC0.out.2.1
          have c2 := keeps hb HC0.out.2.2.1
          have c3 := keeps hb HC0.out.2.2.2
          have HX := hid hcx
          have HB := hid hb
          have HTs := hid (runN_snoc nx s (x.data.toList.take k) c)
          have HTt := hid (runN_snoc nx t (x.data.toList.take k) c)
          have HT := hid (take_snoc hcx)
          generalize hS : runN nx s (x.data.toList.take k) = S at *
          generalize hT : runN nx t (x.data.toList.take k) = T at *
          have HL := hid (one_letter hcx)
          clear hcx hb hS hT
          have hw1 : IntKind.i64.wrap ((k : Int) + 1) = (k : Int) + 1 := by rw [IntKind.wrap_i64]; omega
          have hw2 : (0 : Int) ≤ (k : Int) + 1 := by omega
          have hw3 : (k : Int) + 1 ≤ (x.size : Int) := by omega
          have hw4 : (0 : Int) ≤ (k : Int) := by omega
          have hw5 : (k : Int) ≤ (k : Int) + 1 := by omega
          have hw6 : ((k : Int) + 1).toNat = k + 1 := by omega
          go_upto_region 7 with fail
          go_region_held3 (fun w' => w'.cell? ⟨w.heap.size, 0, none⟩ = some (.int .i64 q) ∧ w'.cell? ⟨w.heap.size, 1, none⟩ = some (.slice aS n cS) ∧ w'.cell? ⟨w.heap.size, 2, none⟩ = some (.slice aN n cN) ∧ w'.cell? ⟨w.heap.size, 3, none⟩ = some (.slice aE n cE))
            (first | exact ⟨c0, c1, c2, c3⟩ | go_keep)
            (first | (go_at_call 40; refine (HRun.out S k c _ (HP0.out.below (bel_step HB.out (Below.refl _ _))) hrs HX.out).mono ?_; rintro e w2 ⟨⟨u, rfl⟩, hb2⟩; have c0 := keeps hb2 c0; have c1 := keeps hb2 c1; have c2 := keeps hb2 c2; have c3 := keeps hb2 c3))
          have HB2 := hid (bel_step HB.out hb2)
          clear hb2 HB
          go_wp2
          go_region_held3 (fun w' => w'.cell? ⟨w.heap.size, 0, none⟩ = some (.int .i64 q) ∧ w'.cell? ⟨w.heap.size, 1, none⟩ = some (.slice aS n cS) ∧ w'.cell? ⟨w.heap.size, 2, none⟩ = some (.slice aN n cN) ∧ w'.cell? ⟨w.heap.size, 3, none⟩ = some (.slice aE n cE))
            (first | exact ⟨c0, c1, c2, c3⟩ | go_keep)
            (first | (go_at_call 40; refine (HRun.out T k c _ (HP0.out.below (bel_step HB2.out (Below.refl _ _))) hrt HX.out).mono ?_; rintro e w3 ⟨⟨u3, rfl⟩, hb3⟩; have c0 := keeps hb3 c0; have c1 := keeps hb3 c1; have c2 := keeps hb3 c2; have c3 := keeps hb3 c3))
          have HB3 := hid (bel_step HB2.out hb3)
          clear hb3 HB2
          clear hw1 hw2 hw3 hw4 hw5 hw6
          go_wp2
          go_roundw
          case rel => exact ⟨k + 1, by omega, by go_num, by rw [HT.out, HTs.out], by rw [HT.out, HTt.out], HB3.out, HM⟩
          case measure => simp [intOf]; omega
        · have e : k = x.size := by omega
          subst e
          go_wp2
          go_roundw
          case rel => exact ⟨x.size + 1, by omega, by go_num, by rw [take_all (l := x.data.toList) (k := x.size) (by rw [ba_len]; exact Nat.le_refl _), take_all (l := x.data.toList) (k := x.size + 1) (by rw [ba_len]; omega)], by rw [take_all (l := x.data.toList) (k := x.size) (by rw [ba_len]; exact Nat.le_refl _), take_all (l := x.data.toList) (k := x.size + 1) (by rw [ba_len]; omega)], hb, HM⟩
          case measure => simp [intOf]
    · go_wp2
      go_ret2
      have e : k = x.size + 1 := by omega
      subst e
      have e2 : agreeN nx s t x.data.toList = none := by unfold agreeN; rw [ba_len]; exact HK.out
      exact ⟨by rw [e2]; rfl, bel_step HB0.out hb⟩
end Go.Proofs.Ytalklhjmnoodeaa
