/-
  groovelaw45.ResyncBounds: a delay is at most Greatest; if the word is long enough, the parsers agree.
  No condition beyond the words lying in a slice.
-/
import Derived.Test.YtalklhjmnoodeaaAwake45
import Derived.Test.YtalklhjmnoodeaaLawMach
import Derived.Test.YtalklhjmnoodeaaGreatest
namespace Go.Proofs.Ytalklhjmnoodeaa
open Go.RowKit Go.Deep
set_option linter.unusedVariables false

theorem delayR_at {ws : List ByteArray} {x : ByteArray} {A B : Nat} {c : UInt8} (hB : B < 16) (hc : x.data.toList[A]? = some c) :
    delayR ws x A B = agreeN (nxN ws) (nxN ws (runN (nxN ws) 0 (x.data.toList.take A)) (dig c)) (nxN ws (runN (nxN ws) 0 (x.data.toList.take A)) B) (x.data.toList.drop (A + 1)) := by
  have hd : dig (lettersL.getD B 0) = B := by
    have := (digit_letW hB).1
    unfold dig; rw [this]; rfl
  have ht : x.data.toList.take (A + 1) = x.data.toList.take A ++ [c] := by rw [List.take_add_one, hc]; rfl
  rw [delayR, ht, runN_snoc, runN_snoc, hd]
theorem bnd_err {q : Int} {ws : List ByteArray} {x : ByteArray} (hA : aErr q ws = 0) (hs : sizeW ws ≤ 64) (hx : wordErr q x = 0) : rErr q ws [x] = 0 := by
  rw [rErr, if_neg (by simp [hA]), if_neg (by omega), wordsErr_good hx]; rfl
/-- What is known of a delay and the greatest one. -/
def BoundOK (g : Option Int) (o : Option Nat) (rest : Int) : Prop := ∀ m, g = some m → 0 ≤ m ∧ (o = none → rest < m) ∧ ∀ k, o = some k → (k : Int) ≤ m
theorem bound_ok {Q : Nat} {ws : List ByteArray} {x : ByteArray} {A B : Nat} {T : Nat → Nat → Int} (hm : Mach Q ws) (hT : IsTab (sizeW ws) Q (nxN ws) T) (hx : okWord Q x = true) (hA : A < x.size) (hB : B < Q) :
    BoundOK (greatN (sizeW ws) Q (nxN ws) T) (delayR ws x A B) ((x.size : Int) - A - 1) := by
  intro m hg
  have hq := hm.q16
  obtain ⟨c, hc⟩ : ∃ c, x.data.toList[A]? = some c := by
    have h : A < x.data.toList.length := by rw [ba_len]; exact hA
    exact ⟨_, List.getElem?_eq_getElem h⟩
  have hcl : Closed (sizeW ws) Q (nxN ws) := fun a _ b _ => hm.lt a b
  have hd : ∀ c ∈ x.data.toList.drop (A + 1), dig c < Q := fun c hc => by
    obtain ⟨k, hk⟩ := List.getElem?_of_mem (List.mem_of_mem_drop hc)
    have := (dig_lt hx hk).1
    simpa using this
  have hc1 : dig c < Q := by have := (dig_lt hx hc).1; simpa using this
  obtain ⟨h1, h2⟩ := delay_bound hcl hT hg (runN_lt (l := x.data.toList.take A) hm.lt hm.pos) hc1 hB hd
  rw [← delayR_at (by omega) hc] at h1 h2
  rw [List.length_drop, ba_len] at h2
  refine ⟨(g1_some hg).1, fun ho => ?_, h1⟩
  by_cases g : m ≤ ((x.size - (A + 1) : Nat) : Int)
  · exact absurd ho (h2 g)
  · omega

set_option maxRecDepth 100000 in
set_option maxHeartbeats 4000000 in
theorem resyncBounds_any (q : Int) (v : Value) (ws : List ByteArray) (x : ByteArray) (A B : Int) (w : World) (hl : Sl 1 w v ws.length (strs ws)) (_hx : x.size ≤ maxLen) (hA0 : IntKind.u8.min ≤ A) (hA1 : A ≤ IntKind.u8.max) (hB0 : IntKind.u8.min ≤ B) (hB1 : B ≤ IntKind.u8.max) :
    Calls Try.prog 5 #[.agg #[.int .i64 q, v], .string x, .int .u8 A, .int .u8 B] w fun e w' => e = .returned (.bool true) ∧ Below w.heap.size w w' := by
  have hA0 : 0 ≤ A := hA0
  have hA1 : A ≤ 255 := hA1
  have hB0 : 0 ≤ B := hB0
  have hB1 : B ≤ 255 := hB1
  have HL := hid hl
  have HMa := hid (fun X h => mach_any q v ws X h)
  have HDe := hid (fun (A B : Int) X h => delay_any q v ws x A B X h)
  have HGe := hid (fun X h => greatest_any q v ws X h)
  have HCk := hid (fun X => wcheck_any q x X)
  have HAw := hid awake_any
  obtain ⟨ao, cap, rfl, _, hl1, hl2, hl3⟩ := hl
  clear hl3
  go_enter Try.func5, Try.ntmps5
  go_upto_region 1 with fail
  obtain ⟨w0, hw0⟩ : ∃ w0, w.alloc (.cells #[.int .i64 q, .slice ao ws.length cap] 24) = w0 := ⟨_, rfl⟩
  obtain ⟨hb0, c0, c1⟩ := boxed hw0
  rw [hw0]
  have HB0 := hid hb0
  clear hw0 hb0
  cases hM : machB q ws
  · have HM := hid hM
    go_wp2_with (first
      | (go_at_call 19; refine (HMa.out _ (HL.out.below HB0.out)).mono ?_; rintro e w1 (⟨_, ⟨a, aS, aN, aE, nS, cS, nN, cN, nE, cE, rfl⟩, hb1⟩ | ⟨h0, _⟩); rotate_left; (exact absurd (HM.out.symm.trans h0) (by decide)); have HB1 := hid (bel_step HB0.out hb1))
      | (go_at_call 12; refine (HAw.out _).mono ?_; rintro e w2 ⟨rfl, hb2⟩))
    go_ret
    exact ⟨rfl, bel_step (bel_step HB1.out (bel_alloc _ _)) hb2⟩
  · obtain ⟨hA, h16⟩ := machB_true hM
    have hm := mach_of hA
    have HM := hid hM
    obtain ⟨Q, rfl⟩ : ∃ Q : Nat, q = Q := ⟨q.toNat, by have := hm.q2; omega⟩
    have HMm := hid hm
    have HAe := hid hA
    have hq16 := hm.q16
    have hq2 := hm.q2
    clear hM hm hA
    go_upto_region 2 with (go_at_call 19; refine (HMa.out _ (HL.out.below HB0.out)).mono ?_; rintro e w1 (⟨h0, _⟩ | ⟨_, vS, vN, vE, rfl, hres, hb1⟩); (exact absurd (HM.out.symm.trans h0) (by decide)); have HB1 := hid (bel_step HB0.out hb1); have c0 := keeps hb1 c0; have c1 := keeps hb1 c1; obtain ⟨aS, cS, aN, cN, aE, cE, rfl, rfl, rfl⟩ := hres.slices)
    obtain ⟨wp, hwp⟩ : ∃ wp, w1.alloc (.cells #[.int .i64 (Q : Int), .slice aS (sizeW ws) cS, .slice aN (sizeW ws) cN, .slice aE (sizeW ws) cE] 36) = wp := ⟨_, rfl⟩
    obtain ⟨hbp, p0, p1, p2, p3⟩ := boxP hwp
    rw [hwp]
    have HBp := hid (bel_step HB1.out hbp)
    have c0 := keeps hbp c0
    have c1 := keeps hbp c1
    clear hwp hbp hb1 hres p0 p1 p2 p3
    generalize w1.heap.size = g at *
    have HS := hid (empty_eq x)
    by_cases h1 : x.size = 0
    · have he : x.toList.isEmpty = true := by rw [HS.out]; simpa using h1
      clear HS
      go_wp2_with (go_at_call 12; refine (HAw.out _).mono ?_; rintro e w2 ⟨rfl, hb2⟩)
      go_ret
      exact ⟨rfl, bel_step HBp.out hb2⟩
    · have he : x.toList.isEmpty = false := by rw [HS.out]; simpa using h1
      by_cases h2 : 40 < x.size
      · have hg : decide ((40 : Int) < (x.size : Int)) = true := by simp; omega
        clear HS
        go_wp2_with (go_at_call 12; refine (HAw.out _).mono ?_; rintro e w2 ⟨rfl, hb2⟩)
        go_ret
        exact ⟨rfl, bel_step HBp.out hb2⟩
      · have hg : decide ((40 : Int) < (x.size : Int)) = false := by simp; omega
        by_cases h3 : wordErr Q x = 0
        · have hn : (wordErr Q x != 0) = false := by simp [h3]
          have HX := hid (And.intro h1 (And.intro h2 h3))
          have HOk := hid (wordErr_zero.1 h3).2.2.2
          obtain ⟨a, rfl⟩ : ∃ a : Nat, A = a := ⟨A.toNat, by omega⟩
          obtain ⟨b, rfl⟩ : ∃ b : Nat, B = b := ⟨B.toNat, by omega⟩
          clear HS
          obtain ⟨I, hI⟩ : ∃ I : Nat, (a : Int) % (x.size : Int) = (I : Int) := ⟨a % x.size, by rw [Int.natCast_emod]⟩
          have hIx : I < x.size := by have := Int.emod_lt_of_pos (a : Int) (show (0 : Int) < x.size by omega); omega
          obtain ⟨L, hL⟩ : ∃ L : Nat, (b : Int) % (Q : Int) = (L : Int) := ⟨b % Q, by rw [Int.natCast_emod]⟩
          have hLQ : L < Q := by have := Int.emod_lt_of_pos (b : Int) (show (0 : Int) < Q by omega); omega
          have HD0 := hid (show dErr Q ws x I L = 0 by
            rw [dErr, if_neg, if_neg (by omega)]
            rw [bnd_err HAe.out (by omega) h3]; simp)
          generalize wordErr Q x = E at *
          subst h3
          go_upto_region 5 with (go_at_call 21; refine (HCk.out _).mono ?_; rintro e w' ⟨rfl, hD⟩; have c0 := keeps (hD.below _) c0; have c1 := keeps (hD.below _) c1; have HB2 := hid (bel_step HBp.out (hD.below _)); clear hD)
          have hT1 : (b : Int).tmod (Q : Int) = (L : Int) := by rw [Int.tmod_eq_emod_of_nonneg (by omega)]; exact hL
          have hT2 : IntKind.i64.wrap (L : Int) = (L : Int) := by rw [IntKind.wrap_i64]; omega
          have hT3 : ((Q : Int) == 0) = false := by rw [beq_eq_false_iff_ne]; omega
          have hT0 : IntKind.i64.wrap (b : Int) = (b : Int) := by rw [IntKind.wrap_i64]; omega
          have hT4 : ¬ Q = 0 := by omega
          go_region_held3 (fun w' => w'.cell? ⟨w.heap.size, 0, none⟩ = some (.int .i64 (Q : Int)) ∧ w'.cell? ⟨w.heap.size, 1, none⟩ = some (.slice ao ws.length cap))
            (first | exact ⟨c0, c1⟩ | go_keep)
            (first | (go_at_call 13; refine (HDe.out I L _ (HL.out.below (bel_step HB2.out (Below.refl _ _)))).mono ?_; rintro e w3 ⟨hb3, ⟨hne, _⟩ | ⟨_, rfl⟩⟩; (exact absurd HD0.out hne); have c0 := keeps hb3 c0; have c1 := keeps hb3 c1))
          have HB3 := hid (bel_step HB2.out hb3)
          have HBO := hid (fun T hT => bound_ok (A := I) (B := L) (T := T) HMm.out hT HOk.out hIx hLQ)
          have HR0 := hid (show rErr Q ws [] = 0 by rw [rErr, if_neg (by simp [HAe.out]), if_neg (by omega)]; rfl)
          clear hb3 hT0 hT1 hT2 hT3 hT4 hI hL HB2 HDe
          generalize delayR ws x I L = o at *
          go_upto_region 7 with (go_at_call 22; refine (HGe.out _ (HL.out.below HB3.out)).mono ?_; rintro e w4 (⟨hne, _⟩ | ⟨_, ⟨T, hT, rfl⟩, hb4⟩); (exact absurd HR0.out hne); have HB4 := hid (bel_step HB3.out hb4); have HBT := hid (HBO.out T (by rw [Int.toNat_natCast] at hT; exact hT)); rw [Int.toNat_natCast] at *; generalize greatN (sizeW ws) Q (nxN ws) T = gg at *; clear hT hb4)
          have hI2 : IntKind.i64.wrap ((x.size : Int) - (I : Int)) = (x.size : Int) - (I : Int) := by rw [IntKind.wrap_i64]; omega
          have hI3 : IntKind.i64.wrap ((x.size : Int) - (I : Int) - 1) = (x.size : Int) - (I : Int) - 1 := by rw [IntKind.wrap_i64]; omega
          cases gg with
          | none =>
            clear hI2 hI3
            cases o with
            | none =>
              simp only [gI, gB, agI, agB, Option.isSome_none]
              go_wp2_with (go_at_call 12; refine (HAw.out _).mono ?_; rintro e w5 ⟨rfl, hb5⟩)
              go_ret
              exact ⟨rfl, bel_step HB4.out hb5⟩
            | some k =>
              simp only [gI, gB, agI, agB, Option.isSome_none, Option.isSome_some]
              go_wp2_with (go_at_call 12; refine (HAw.out _).mono ?_; rintro e w5 ⟨rfl, hb5⟩)
              go_ret
              exact ⟨rfl, bel_step HB4.out hb5⟩
          | some m =>
            obtain ⟨hm0, hm1, hm2⟩ := HBT.out m rfl
            cases o with
            | none =>
              have hg1 := hm1 rfl
              clear hm1 hm2
              simp only [gI, gB, agI, agB, Option.isSome_none, Option.isSome_some]
              go_wp2_with (go_at_call 12; refine (HAw.out _).mono ?_; rintro e w5 ⟨rfl, hb5⟩)
              go_ret
              exact ⟨rfl, bel_step HB4.out hb5⟩
            | some k =>
              have hg1 := hm2 k rfl
              clear hm1 hm2
              simp only [gI, gB, agI, agB, Option.isSome_some]
              go_wp2_with (go_at_call 12; refine (HAw.out _).mono ?_; rintro e w5 ⟨rfl, hb5⟩)
              go_ret
              exact ⟨rfl, bel_step HB4.out hb5⟩
        · have hn : (wordErr Q x != 0) = true := by simp [h3]
          generalize wordErr Q x = E at *
          go_wp2_with (first
            | (go_at_call 21; refine (HCk.out _).mono ?_; rintro e w' ⟨rfl, hD⟩)
            | (go_at_call 12; refine (HAw.out _).mono ?_; rintro e w2 ⟨rfl, hb2⟩))
          go_ret
          exact ⟨rfl, bel_step (bel_step HBp.out (hD.below _)) hb2⟩
end Go.Proofs.Ytalklhjmnoodeaa
