/-
  strip.Count: the number of rectangles that are allowed.
  No condition.
-/
import Derived.Test.YtppflnkadjddiaaCountLaw
import Derived.Test.YtppflnkadjddiaaCheck
import Derived.Deep.RegionWith
namespace Go.Proofs.Ytppflnkadjddiaa
open Go.RowKit
set_option linter.unusedVariables false

theorem isg_nat (n : Nat) : isg (n : Int) = false := by simp [isg]
theorem img_nat (n : Nat) : img (n : Int) = nmg n := by simp [img]
theorem addN_any (a b : Nat) (w : World) (ha : Fits (a : Int)) (hb : Fits (b : Int)) :
    Calls Try.prog 47 #[.agg #[.bool false, .string (nmg a)], .agg #[.bool false, .string (nmg b)]] w fun e w' => e = .returned (.agg #[.bool false, .string (nmg (a + b))]) ∧ Below w.heap.size w w' := by
  have := addI_any (a : Int) (b : Int) w ha hb
  rwa [isg_nat, isg_nat, img_nat, img_nat, ← Int.natCast_add, isg_nat, img_nat] at this
theorem ofOne_any (w : World) :
    Calls Try.prog 25 #[.int .i64 1] w fun e w' => e = .returned (.agg #[.bool false, .string (nmg 1)]) ∧ Below w.heap.size w w' := of_any 1 w (by decide) (by decide)

/-- What the blocks allow side by side. -/
def mayP (h : Int) (l : List Int) (c e : Nat) : Bool := besP (fun j => l.contains (j : Int)) h c e
def cntE (h n : Int) (l : List Int) : Int := if chk h l ≠ 0 then chk h l else if n < 0 ∨ 4096 < n then 2 else 0
def cntN (h n : Int) (l : List Int) : Nat := if cntE h n l = 0 then cnt (mayP h l) (side h).toNat n.toNat else 0
def CountPost (h n : Int) (l : List Int) (w : World) (e : Ending) (w' : World) : Prop :=
  e = .returned (.tuple #[.agg #[.bool false, .string (nmg (cntN h n l))], .int .i64 (cntE h n l)]) ∧ Below w.heap.size w w'

set_option maxRecDepth 100000 in
set_option maxHeartbeats 4000000 in
theorem count_bad (h n : Int) (v : Value) (l : List Int) (w : World) (hl : Sl 1 w v l.length (ints l)) (hE : cntE h n l ≠ 0) :
    Calls Try.prog 22 #[.int .i64 h, .int .i64 n, v] w (CountPost h n l w) := by
  have hN : cntN h n l = 0 := by rw [cntN, if_neg hE]
  have HN := hid hN
  have hlw := check_any h l v (w.alloc (.cells #[.bool false, .string ⟨#[]⟩] 41)) (hl.below ((Below.refl _ _).alloc (Nat.le_refl _) _))
  by_cases hc : chk h l = 0
  · have hE2 : cntE h n l = 2 := by
      rw [cntE, if_neg (by simp [hc])] at hE ⊢
      split
      · rfl
      · rename_i h'; rw [if_neg h'] at hE; simp at hE
    have hn : n < 0 ∨ 4096 < n := by
      rw [cntE, if_neg (by simp [hc])] at hE2
      split at hE2
      · assumption
      · cases hE2
    have HE := hid hE2
    rw [hc] at hlw
    clear hE hE2 hN hl
    go_enter Try.func22, Try.ntmps22
    go_upto_region 4 with (go_at_call 32; refine hlw.mono ?_; rintro e w' ⟨rfl, rfl⟩)
    by_cases hn0 : n < 0
    · go_wp2
      refine bodyPost_ret (v := .tuple #[.agg #[.bool false, .string ⟨#[]⟩], .int .i64 2]) ?_ rfl ⟨by rw [HN.out, HE.out, nmg, bytesBE_zero], ?_⟩
      · simp [results, Try.results22, go_sem]
      · exact (Below.refl _ _).alloc (Nat.le_refl _) _
    · have hn1 : 4096 < n := by omega
      go_wp2
      refine bodyPost_ret (v := .tuple #[.agg #[.bool false, .string ⟨#[]⟩], .int .i64 2]) ?_ rfl ⟨by rw [HN.out, HE.out, nmg, bytesBE_zero], ?_⟩
      · simp [results, Try.results22, go_sem]
      · exact (Below.refl _ _).alloc (Nat.le_refl _) _
  · have hE2 : cntE h n l = chk h l := by rw [cntE, if_pos (by simp [hc])]
    have HE := hid hE2
    have hcb : ((chk h l) != 0) = true := by simp [hc]
    clear hE hE2 hN hl
    generalize chk h l = C at *
    go_enter Try.func22, Try.ntmps22
    go_upto_region 3 with (go_at_call 32; refine hlw.mono ?_; rintro e w' ⟨rfl, rfl⟩)
    clear hlw
    go_wp2
    refine bodyPost_ret (v := .tuple #[.agg #[.bool false, .string ⟨#[]⟩], .int .i64 C]) ?_ rfl ⟨by rw [HN.out, HE.out, nmg, bytesBE_zero], ?_⟩
    · simp [results, Try.results22, go_sem]
    · exact (Below.refl _ _).alloc (Nat.le_refl _) _
end Go.Proofs.Ytppflnkadjddiaa
