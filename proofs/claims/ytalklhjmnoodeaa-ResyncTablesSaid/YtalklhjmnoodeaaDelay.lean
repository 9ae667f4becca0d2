/-
  resync.Delay: how long a replaced letter keeps two parsers apart.
  No condition beyond the words lying in a slice.
-/
import Derived.Test.YtalklhjmnoodeaaTable45
import Derived.Test.YtalklhjmnoodeaaMachAgree
import Derived.Test.YtalklhjmnoodeaaIndexW
import Derived.Deep.RegionHeld3
import Derived.OwnWalk
namespace Go.Proofs.Ytalklhjmnoodeaa
open Go.RowKit Go.Deep
set_option linter.unusedVariables false

def dErr (q : Int) (ws : List ByteArray) (x : ByteArray) (A B : Int) : Int := if rErr q ws [x] ≠ 0 then rErr q ws [x] else if A < 0 ∨ (x.size : Int) ≤ A ∨ B < 0 ∨ q ≤ B then 2 else 0
/-- The states behind a letter, and behind the letter that replaces it; how long they are apart. -/
def delayR (ws : List ByteArray) (x : ByteArray) (A B : Nat) : Option Nat :=
  agreeN (nxN ws) (runN (nxN ws) 0 (x.data.toList.take (A + 1))) (runN (nxN ws) 0 (x.data.toList.take A ++ [lettersL.getD B 0])) (x.data.toList.drop (A + 1))
def DPost (q : Int) (ws : List ByteArray) (x : ByteArray) (A B : Int) (w : World) (e : Ending) (w' : World) : Prop :=
  Below w.heap.size w w' ∧
  ((dErr q ws x A B ≠ 0 ∧ e = .returned (.tuple #[.int .i64 0, .bool false, .int .i64 (dErr q ws x A B)])) ∨
   (dErr q ws x A B = 0 ∧ e = .returned (.tuple #[.int .i64 (agI (delayR ws x A.toNat B.toNat)), .bool (agB (delayR ws x A.toNat B.toNat)), .int .i64 0])))
theorem wordsErr_one {q : Int} {x : ByteArray} (h : wordsErr q [x] = 0) : wordErr q x = 0 := by
  unfold wordsErr at h
  split at h
  · rename_i h1; exact absurd h h1
  · rename_i h1; simpa using h1
theorem pre_list (x : ByteArray) (k : Nat) : (x.extract 0 k).data.toList = x.data.toList.take k := by rw [Lib.extract_data]; simp
theorem suf_list (x : ByteArray) (k : Nat) : (x.extract k x.size).data.toList = x.data.toList.drop k := by
  rw [Lib.extract_data]
  apply List.take_of_length_le
  rw [List.length_drop, ba_len]; omega
theorem okWord_sub {q : Int} {x y : ByteArray} (h : okWord q x = true) (hs : ∀ c ∈ y.data.toList, c ∈ x.data.toList) : okWord q y = true := by
  unfold okWord
  rw [List.all_eq_true]
  intro c hc
  have := okWord_at h (hs c hc)
  simp [this]
theorem app_list (x y : ByteArray) : (x ++ y).data.toList = x.data.toList ++ y.data.toList := by simp

set_option maxRecDepth 100000 in
set_option maxHeartbeats 4000000 in
theorem delay_any (q : Int) (v : Value) (ws : List ByteArray) (x : ByteArray) (A B : Int) (w : World) (hl : Sl 1 w v ws.length (strs ws)) :
    Calls Try.prog 13 #[.agg #[.int .i64 q, v], .string x, .int .i64 A, .int .i64 B] w (DPost q ws x A B w) := by
  have HL := hid hl
  have HBd := hid (fun (vx : Value) (X : World) h h2 => rbuild_any q v vx ws [x] X h h2)
  obtain ⟨ao, cap, rfl, _, hl1, hl2, hl3⟩ := hl
  clear hl3
  go_enter Try.func13, Try.ntmps13
  go_upto_region 1 with fail
  obtain ⟨w0, hw0⟩ : ∃ w0, w.alloc (.cells #[.int .i64 q, .slice ao ws.length cap] 24) = w0 := ⟨_, rfl⟩
  obtain ⟨hb0, c0, c1⟩ := boxed hw0
  rw [hw0]
  have HB0 := hid hb0
  clear hw0 hb0
  have hsx : ∀ W : World, Sl 1 (W.alloc (.cells #[.string x] 9)) (.slice (some ⟨W.heap.size, 0, none⟩) 1 1) [x].length (strs [x]) := fun W =>
    ⟨_, _, rfl, rfl, Nat.le_refl _, by omega, .inr ⟨W.heap.size, 0, rfl, fun j y hj => by
      have hl := lt_of_some hj
      simp only [strs, List.map_cons, List.map_nil, List.length_cons, List.length_nil] at hl
      have : j = 0 := by omega
      subst this
      simp only [strs, List.map_cons, List.map_nil, List.getElem?_cons_zero, Option.some.injEq] at hj
      subst hj
      simp⟩⟩
  have HSx := hid hsx
  clear hsx
  by_cases hE : rErr q ws [x] = 0
  · obtain ⟨hA, h64, hwx⟩ := rErr_zero hE
    have hm := mach_of hA
    obtain ⟨_, _, hx6, hok⟩ := wordErr_zero.1 (wordsErr_one hwx)
    obtain ⟨Q, rfl⟩ : ∃ Q : Nat, q = Q := ⟨q.toNat, by have := hm.q2; omega⟩
    have hq16 := hm.q16
    have HM := hid hm
    have HOk := hid hok
    go_upto_region 2 with (go_at_call 39; refine (HBd.out _ _ (HL.out.below (bel_step HB0.out (bel_alloc _ _))) (HSx.out _)).mono ?_; rintro e w1 (⟨hne, _⟩ | ⟨_, vS, vN, vE, rfl, hres, hb1⟩); (exact absurd hE hne); have HB1 := hid (bel_step (bel_step HB0.out (bel_alloc _ _)) hb1); have c0 := keeps hb1 (keeps (bel_alloc _ _) c0); obtain ⟨aS, cS, aN, cN, aE, cE, rfl, rfl, rfl⟩ := hres.slices)
    obtain ⟨wp, hwp⟩ : ∃ wp, w1.alloc (.cells #[.int .i64 (Q : Int), .slice aS (sizeW ws) cS, .slice aN (sizeW ws) cN, .slice aE (sizeW ws) cE] 36) = wp := ⟨_, rfl⟩
    obtain ⟨hbp, p0, p1, p2, p3⟩ := boxP hwp
    rw [hwp]
    have HBp := hid (bel_step HB1.out hbp)
    have c0 := keeps hbp c0
    have HPv := hid (((hres.keep hbp).pval (by omega)).nat hm)
    clear hwp hbp hb1 hres HBd HSx HL c1
    generalize w1.heap.size = g at *
    by_cases hR : A < 0 ∨ (x.size : Int) ≤ A ∨ B < 0 ∨ (Q : Int) ≤ B
    · have HD := hid (show dErr Q ws x A B = 2 by rw [dErr, if_neg (by simp [hE]), if_pos hR])
      have hsplit : (A < 0) ∨ (0 ≤ A ∧ (x.size : Int) ≤ A) ∨ (0 ≤ A ∧ A < x.size ∧ B < 0) ∨ (0 ≤ A ∧ A < x.size ∧ 0 ≤ B ∧ (Q : Int) ≤ B) := by omega
      clear hR
      rcases hsplit with h1 | ⟨h1, h2⟩ | ⟨h1, h2, h3⟩ | ⟨h1, h2, h3, h4⟩
      all_goals
        go_wp2
        go_ret3
        exact ⟨HBp.out, .inl ⟨by rw [HD.out]; decide, by rw [HD.out]; rfl⟩⟩
    · have HD := hid (show dErr Q ws x A B = 0 by rw [dErr, if_neg (by simp [hE]), if_neg hR])
      obtain ⟨A, rfl⟩ : ∃ a : Nat, A = a := ⟨A.toNat, by omega⟩
      obtain ⟨B, rfl⟩ : ∃ b : Nat, B = b := ⟨B.toNat, by omega⟩
      have hA1 : A < x.size := by omega
      have hB1 : B < Q := by omega
      have hw1 : IntKind.i64.wrap ((A : Int) + 1) = (A : Int) + 1 := by rw [IntKind.wrap_i64]; omega
      have hw2 : (0 : Int) ≤ (A : Int) + 1 := by omega
      have hw3 : (A : Int) + 1 ≤ (x.size : Int) := by omega
      have hw4 : (0 : Int) ≤ (A : Int) := by omega
      have hw5 : (A : Int) ≤ (x.size : Int) := by omega
      have hw6 : ((A : Int) + 1).toNat = A + 1 := by omega
      have hv1 : IntKind.i64.wrap ((B : Int) + 1) = (B : Int) + 1 := by rw [IntKind.wrap_i64]; omega
      have hv2 : (0 : Int) ≤ (B : Int) + 1 := by omega
      have hv3 : (B : Int) + 1 ≤ 16 := by omega
      have hv4 : (0 : Int) ≤ (B : Int) := by omega
      have hv5 : (B : Int) ≤ (B : Int) + 1 := by omega
      have hv6 : ((B : Int) + 1).toNat = B + 1 := by omega
      have hla := letter_at (a := B) (by omega)
      obtain ⟨y1, hy1⟩ : ∃ y, x.extract 0 (A + 1) = y := ⟨_, rfl⟩
      obtain ⟨y2, hy2⟩ : ∃ y, x.extract 0 A ++ letW B = y := ⟨_, rfl⟩
      obtain ⟨y3, hy3⟩ : ∃ y, x.extract (A + 1) x.size = y := ⟨_, rfl⟩
      have hl1 : y1.data.toList = x.data.toList.take (A + 1) := by rw [← hy1, pre_list]
      have hl2 : y2.data.toList = x.data.toList.take A ++ [lettersL.getD B 0] := by rw [← hy2, app_list, pre_list]; rfl
      have hl3 : y3.data.toList = x.data.toList.drop (A + 1) := by rw [← hy3, suf_list]
      have ho1 : okWord Q y1 = true := okWord_sub HOk.out fun c hc => by rw [hl1] at hc; exact List.mem_of_mem_take hc
      have ho3 : okWord Q y3 = true := okWord_sub HOk.out fun c hc => by rw [hl3] at hc; exact List.mem_of_mem_drop hc
      have ho2 : okWord Q y2 = true := by
        unfold okWord
        rw [hl2, List.all_append, Bool.and_eq_true]
        constructor
        · rw [List.all_eq_true]
          intro c hc
          have := okWord_at HOk.out (List.mem_of_mem_take hc)
          simp [this]
        · have := (digit_letW (a := B) (by omega)).1
          simp only [List.all_cons, List.all_nil, Bool.and_true, decide_eq_true_eq, this]
          omega
      have hz1 : y1.size ≤ 100000 := by have h := ba_len y1; rw [hl1, List.length_take, ba_len] at h; omega
      have hz2 : y2.size ≤ 100000 := by have h := ba_len y2; rw [hl2, List.length_append, List.length_take, ba_len] at h; simp at h; omega
      have hz3 : y3.size ≤ 100000 := by have h := ba_len y3; rw [hl3, List.length_drop, ba_len] at h; omega
      have hsa : (x.extract 0 A).size = A := by rw [ByteArray.size_extract]; omega
      have hsl := letW_size B
      have HR := hid (show delayR ws x A B = agreeN (nxN ws) (runN (nxN ws) 0 y1.data.toList) (runN (nxN ws) 0 y2.data.toList) y3.data.toList by rw [hl1, hl2, hl3]; rfl)
      have HRun := hid (fun (s : Nat) (y : ByteArray) (X : World) h hs ho hz => prun_any (.slice aS (sizeW ws) cS) (.slice aN (sizeW ws) cN) (.slice aE (sizeW ws) cE) (sizeW ws) Q (stW ws) (nxN ws) (emI ws) s y X h HM.out.lt hs (by omega) ho hz)
      have HAg := hid (fun (s t : Nat) (y : ByteArray) (X : World) h hs ht ho hz => pagree_any (.slice aS (sizeW ws) cS) (.slice aN (sizeW ws) cN) (.slice aE (sizeW ws) cE) (sizeW ws) Q (stW ws) (nxN ws) (emI ws) s t y X h HM.out.lt hs ht (by omega) ho hz)
      have h00 := HM.out.pos
      have hr1 := runN_lt (nx := nxN ws) (l := y1.data.toList) HM.out.lt h00
      have hr2 := runN_lt (nx := nxN ws) (l := y2.data.toList) HM.out.lt h00
      clear hl1 hl2 hl3
      have HO := hid (And.intro ho1 (And.intro ho2 (And.intro ho3 (And.intro hz1 (And.intro hz2 hz3)))))
      clear ho1 ho2 ho3 hz1 hz2 hz3 hok hwx hR
      generalize hE1 : x.extract 0 A = E1 at *
      generalize letW B = E2 at *
      have hcat : ∀ X : World, (Op.stringOp .add E1 E2).run Try.prog X = .ok (.string y2) X := fun X => by
        have h : ¬ ((E1.size + E2.size : Nat) : Int) > IntKind.i64.max := by rw [hsa, hsl]; show ¬ ((A + 1 : Nat) : Int) > 9223372036854775807; omega
        unfold Op.stringOp
        simp only [if_neg h, hy2]
        rfl
      generalize hS : runN (nxN ws) 0 y1.data.toList = S at *
      generalize hT : runN (nxN ws) 0 y2.data.toList = T at *
      have HS := hid hS
      have HT := hid hT
      clear hS hT
      go_upto_region 6 with fail
      go_region_held3 (fun w' => w'.cell? ⟨g, 0, none⟩ = some (.int .i64 (Q : Int)) ∧ w'.cell? ⟨g, 1, none⟩ = some (.slice aS (sizeW ws) cS) ∧ w'.cell? ⟨g, 2, none⟩ = some (.slice aN (sizeW ws) cN) ∧ w'.cell? ⟨g, 3, none⟩ = some (.slice aE (sizeW ws) cE))
        (first | exact ⟨p0, p1, p2, p3⟩ | go_keep)
        (first | (go_at_call 40; refine (HRun.out 0 y1 _ (HPv.out.below (bel_step (Below.refl _ _) (Below.refl _ _))) h00 HO.out.1 HO.out.2.2.2.1).mono ?_; rintro e w2 ⟨u2, rfl, _, hb2⟩; rw [HS.out]; have p0 := keeps hb2 p0; have p1 := keeps hb2 p1; have p2 := keeps hb2 p2; have p3 := keeps hb2 p3))
      have HB2 := hid (show Below wp.heap.size wp w2 from bel_step (Below.refl _ _) hb2)
      clear hb2
      go_wp2_with fail
      go_region_held3 (fun w' => w'.cell? ⟨g, 0, none⟩ = some (.int .i64 (Q : Int)) ∧ w'.cell? ⟨g, 1, none⟩ = some (.slice aS (sizeW ws) cS) ∧ w'.cell? ⟨g, 2, none⟩ = some (.slice aN (sizeW ws) cN) ∧ w'.cell? ⟨g, 3, none⟩ = some (.slice aE (sizeW ws) cE))
        (first | exact ⟨p0, p1, p2, p3⟩ | go_keep)
        (first | (go_at_call 40; refine (HRun.out 0 y2 _ (HPv.out.below (bel_step HB2.out (Below.refl _ _))) h00 HO.out.2.1 HO.out.2.2.2.2.1).mono ?_; rintro e w3 ⟨u3, rfl, _, hb3⟩; rw [HT.out]; have p0 := keeps hb3 p0; have p1 := keeps hb3 p1; have p2 := keeps hb3 p2; have p3 := keeps hb3 p3))
      have HB3 := hid (show Below wp.heap.size wp w3 from bel_step HB2.out hb3)
      clear hb3 HB2
      go_wp2_with fail
      go_region_held3 (fun w' => w'.cell? ⟨g, 0, none⟩ = some (.int .i64 (Q : Int)) ∧ w'.cell? ⟨g, 1, none⟩ = some (.slice aS (sizeW ws) cS) ∧ w'.cell? ⟨g, 2, none⟩ = some (.slice aN (sizeW ws) cN) ∧ w'.cell? ⟨g, 3, none⟩ = some (.slice aE (sizeW ws) cE))
        (first | exact ⟨p0, p1, p2, p3⟩ | go_keep)
        (first | (go_at_call 41; refine (HAg.out S T y3 _ (HPv.out.below (bel_step HB3.out (Below.refl _ _))) hr1 hr2 HO.out.2.2.1 HO.out.2.2.2.2.2).mono ?_; rintro e w4 ⟨rfl, hb4⟩; have p0 := keeps hb4 p0; have p1 := keeps hb4 p1; have p2 := keeps hb4 p2; have p3 := keeps hb4 p3))
      have HB4 := hid (show Below wp.heap.size wp w4 from bel_step HB3.out hb4)
      clear hb4 HB3
      go_wp2
      go_ret3
      exact ⟨HBp.out.trans (HB4.out.mono HBp.out.size), .inr ⟨HD.out, by show _ = Ending.returned (.tuple #[.int .i64 (agI (delayR ws x A B)), .bool (agB (delayR ws x A B)), .int .i64 0]); rw [HR.out]; rfl⟩⟩
  · have hE2 : (rErr q ws [x] != 0) = true := by simp [hE]
    have HD := hid (show dErr q ws x A B = rErr q ws [x] by rw [dErr, if_pos hE])
    go_wp2_with (go_at_call 39; refine (HBd.out _ _ (HL.out.below (bel_step HB0.out (bel_alloc _ _))) (HSx.out _)).mono ?_; rintro e w1 (⟨_, rfl, hb1⟩ | ⟨h0, _⟩); rotate_left; (exact absurd h0 hE); unfold nilP; have HB1 := hid (bel_step (bel_step HB0.out (bel_alloc _ _)) hb1))
    go_ret3
    exact ⟨bel_step HB1.out (bel_alloc _ _), .inl ⟨by rw [HD.out]; exact hE, by rw [HD.out]; rfl⟩⟩
end Go.Proofs.Ytalklhjmnoodeaa
