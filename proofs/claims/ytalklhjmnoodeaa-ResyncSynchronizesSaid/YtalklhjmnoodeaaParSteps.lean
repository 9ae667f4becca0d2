/-
  parser.steps: the letters of a word, read one by one: the word that ends, and the state.
  The parser's rows lie in memory; each state can read each letter.
-/
import Derived.Test.YtalklhjmnoodeaaRangeOwn
import Derived.Test.YtalklhjmnoodeaaMachRun
import Derived.RangeFuncNested
import Derived.RangeFuncBound
import Derived.RangeFuncLeaves
import Derived.Shelf.Abstract
import Derived.Shelf.RegionOpen
import Derived.OwnWalkIn
import Derived.TacticsInMore
import Derived.LoopNIn
import Derived.LoopIn
import Derived.Sort.QuietIn
namespace Go.Proofs.Ytalklhjmnoodeaa
open Go.RowKit Go.Shelf
attribute [local go_sem] Oper.semAt_some
set_option linter.unusedVariables false

set_option maxHeartbeats 400000 in
theorem pdigit_any (c : UInt8) (w : World) : Calls Try.prog 71 #[.int .u8 (c.toNat : Int)] w fun e w' => e = .returned (.int .i64 (digit c)) ∧ w = w' := by
  go_enter Try.func71, Try.ntmps71
  go_wp2_with (go_at_call 50; refine (ib_letters c _).mono ?_; rintro e w' ⟨rfl, rfl⟩)
  go_ret
  exact ⟨rfl, rfl⟩
/-- The state before the letter k, and the word that it ends. -/
def sK (nx : Nat → Nat → Nat) (s : Nat) (x : ByteArray) (k : Nat) : Nat := runN nx s (x.data.toList.take k)
def eK (nx : Nat → Nat → Nat) (em : Nat → Nat → Int) (s : Nat) (x : ByteArray) (k : Nat) : Int := em (sK nx s x k) (dig (x.data.toList.getD k 0))
theorem sK_succ {nx : Nat → Nat → Nat} {s : Nat} {x : ByteArray} {k : Nat} {c : UInt8} (h : x.data.toList[k]? = some c) : sK nx s x (k + 1) = nx (sK nx s x k) (dig c) := by
  unfold sK; rw [take_snoc h, runN_snoc]
theorem eK_at {nx : Nat → Nat → Nat} {em : Nat → Nat → Int} {s : Nat} {x : ByteArray} {k : Nat} {c : UInt8} (h : x.data.toList[k]? = some c) : eK nx em s x k = em (sK nx s x k) (dig c) := by
  unfold eK; rw [List.getD_eq_getElem?_getD, h]; rfl
def encK (nx : Nat → Nat → Nat) (em : Nat → Nat → Int) (s : Nat) (x : ByteArray) (k : Nat) : Array Value := #[.int .i64 (eK nx em s x k), .int .i64 (sK nx s x (k + 1) : Nat)]
/-- What the iterator reads. -/
structure StepIn (Bw Bp Bs n q s : Nat) (x : ByteArray) (aN aE : Option Addr) (cN cE : Nat) (nx : Nat → Nat → Nat) (em : Nat → Nat → Int) (k : Nat) (W : World) : Prop where
  w : W.cell? ⟨Bw, 0, none⟩ = some (.string x)
  p2 : W.cell? ⟨Bp, 2, none⟩ = some (.slice aN n cN)
  p3 : W.cell? ⟨Bp, 3, none⟩ = some (.slice aE n cE)
  s : W.cell? ⟨Bs, 0, none⟩ = some (.int .i64 (sK nx s x k : Nat))
  fs : W.frozen? ⟨Bs, 0, none⟩ = false
  nx : Mt W (.slice aN n cN) n q (fun i j => (nx i j : Int))
  em : Mt W (.slice aE n cE) n q em

set_option maxRecDepth 100000 in
set_option maxHeartbeats 2000000 in
theorem steps1_run (l Bw Bp Bs n q s : Nat) (x : ByteArray) (aN aE : Option Addr) (cN cE : Nat) (nx : Nat → Nat → Nat) (em : Nat → Nat → Int) (J M : Nat → World → Prop) (W : World)
    (hx : okWord q x = true) (hc : ∀ s a, nx s a < n) (hs : s < n) (hn : n ≤ 1000) (hz : x.size ≤ 100000) (hcN : n ≤ cN) (hcN2 : cN ≤ 9223372036854775807) (hcE : n ≤ cE) (hcE2 : cE ≤ 9223372036854775807)
    (hJ : ∀ k W, J k W → StepIn Bw Bp Bs n q s x aN aE cN cE nx em k W)
    (hM : ∀ k W, k < x.size → J k W → M k (W.setCell ⟨Bs, 0, none⟩ (.int .i64 (sK nx s x (k + 1) : Nat))))
    (hY : ∀ k W, k < x.size → M k W → YieldAt Fence.wide (8 - 1) Try.prog l (encK nx em s x k) W fun e W' => e = .returned (.bool true) ∧ J (k + 1) W') (h0 : J 0 W) :
    CallsIn Fence.wide 8 Try.prog 70 #[.func (.yield l) #[] #[], .pointer (some ⟨Bw, 0, none⟩), .pointer (some ⟨Bp, 0, none⟩), .pointer (some ⟨Bs, 0, none⟩)] W fun e' W' => (∃ v, e' = .returned v) ∧ J x.size W' := by
  have HJ := hid hJ
  have HM := hid hM
  have HY := hid hY
  have HW := hid hx
  have hw0 := (hJ 0 W h0).w
  clear hJ hM hY hx
  refine callsIn_of_wp Try.func70 rfl trivial ?_ rfl
  simp only [Try.ntmps70, List.size_toArray, List.length_cons, List.length_nil, Nat.reduceAdd, Nat.reduceSub, Array.replicate_succ, Array.replicate_zero, List.push_toArray, List.append_toArray, List.nil_append, List.cons_append]
  gi_wp2
  gi_loopw [10] (fun i wr => ∃ k : Nat, k ≤ x.size ∧ i = .int .i64 k ∧ J k wr) (fun i _ => x.size - (intOf i).toNat)
  case atStart => exact ⟨0, Nat.zero_le _, rfl, h0⟩
  case round =>
    obtain ⟨k, hk, rfl, hJk⟩ := hrel
    have HJk := hid hJk
    obtain ⟨cw, c2, c3, cs, fs, mN, mE⟩ := HJ.out k _ hJk
    clear hJk
    by_cases hlt : k < x.size
    · obtain ⟨c, hcx⟩ := some_of_lt (l := x.data.toList) (k := k) (by rw [ba_len]; exact hlt)
      have hr : sK nx s x k < n := runN_lt (nx := nx) (l := x.data.toList.take k) hc hs
      obtain ⟨hd1, hd2, hd3⟩ := dig_lt HW.out hcx
      have hdq : dig c < q := by omega
      obtain ⟨bn, on, bn', on', cn', hn1, hn2, hn3⟩ := mN.cell hr hdq
      obtain ⟨be, oe, be', oe', ce', he1, he2, he3⟩ := mE.cell hr hdq
      subst hn1 he1
      have hgx : x[k] = c := by
        have := byte_of x k hlt
        rw [this, List.getD_eq_getElem?_getD, hcx]; rfl
      have HYk := hid (HY.out k _ hlt (HM.out k _ hlt HJk.out))
      have HDg := hid (fun X => pdigit_any c X)
      rw [hd2] at HDg
      rw [encK, eK_at hcx, sK_succ hcx] at HYk
      clear mN mE hcx hd1 hd2
      generalize hS : sK nx s x k = S at *
      generalize hD : dig c = D at *
      generalize hNX : nx S D = NX at *
      generalize hEM : em S D = EM at *
      clear hS hD hNX hEM
      obtain ⟨fn, tmps, assign, body, hy, hR⟩ := HYk.out
      have HR := hid hR
      clear hR HYk
      gi_wp2_with (refine ⟨trivial, ?_⟩; gi_at_call 71; refine (callsIn_wide.2 (HDg.out _)).mono ?_; rintro e' w' ⟨rfl, rfl⟩)
      refine HR.out.mono ?_
      rintro e W3 ⟨rfl, hJ3⟩
      gi_wp2
      go_roundw
      case rel => exact ⟨k + 1, by omega, by go_num, hJ3⟩
      case measure => simp [intOf]; omega
    · obtain rfl : k = x.size := by omega
      gi_wp2
      go_end0
      exact ⟨⟨_, rfl⟩, HJk.out⟩
end Go.Proofs.Ytalklhjmnoodeaa
