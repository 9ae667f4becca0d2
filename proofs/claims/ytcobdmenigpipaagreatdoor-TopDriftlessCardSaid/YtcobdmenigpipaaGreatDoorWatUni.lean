/-
  watermark.Unique at words of one length over two letters that differ at three places at most: one alignment is the cheapest.
  Words of at most 256 letters.
-/
import Derived.Test.YtcobdmenigpipaaGreatDoorWatAl2
namespace Go.Proofs.YtcobdmenigpipaaGreatDoor
open Go.RowKit Go.Deep
set_option linter.unusedVariables false
set_option linter.unusedSimpArgs false

/-- The numbers of ways that are known: from the row I on. -/
def WayV (i k : Nat) (x : Int) : Prop := 0 ≤ x ∧ x ≤ 2 ∧ (i = k → x = 1)
def WRows (n : Nat) (I : Nat) (f : Rst → Int) : Prop := ∀ i k : Nat, I ≤ i → i ≤ n → k ≤ n → WayV i k (f ((i : Int), (k : Int)))
def WPart (n i K : Nat) (f : Rst → Int) : Prop := WRows n (i + 1) f ∧ ∀ k : Nat, K ≤ k → k ≤ n → WayV i k (f ((i : Int), (k : Int)))
theorem WPart.start {n i : Nat} {f : Rst → Int} (h : WRows n (i + 1) f) : WPart n i (n + 1) f := ⟨h, fun k h1 h2 => by omega⟩
theorem WPart.done {n i : Nat} {f : Rst → Int} (h : WPart n i 0 f) : WRows n i f := fun j k h1 h2 h3 => by
  by_cases e : j = i
  · subst e; exact h.2 k (Nat.zero_le _) h3
  · exact h.1 j k (by omega) h2 h3
theorem WPart.put {n i k : Nat} {f : Rst → Int} {c : Int} (h : WPart n i (k + 1) f) (hc : WayV i k c) : WPart n i k (fun y => if y = ((i : Int), (k : Int)) then c else f y) := by
  refine ⟨fun j l h1 h2 h3 => ?_, fun l h1 h2 => ?_⟩
  · have hne : ((j : Int), (l : Int)) ≠ ((i : Int), (k : Int)) := fun e => by
      have := congrArg Prod.fst e
      simp only at this
      omega
    show WayV _ _ (if _ then _ else _)
    rw [if_neg hne]; exact h.1 j l h1 h2 h3
  · show WayV _ _ (if _ then _ else _)
    by_cases e : l = k
    · subst e; rw [if_pos rfl]; exact hc
    · have hne : ((i : Int), (l : Int)) ≠ ((i : Int), (k : Int)) := fun e2 => by
        have := congrArg Prod.snd e2
        simp only at this
        omega
      rw [if_neg hne]; exact h.2 l (by omega) h2
theorem min2_any (A B : Int) : ∀ ats ty, Builtin.min_ ats ty #[.int .i64 A, .int .i64 B] = pure (.int .i64 (minZ A B)) := fun _ _ => rfl
set_option maxRecDepth 100000 in
set_option maxHeartbeats 8000000 in
theorem unique_any (A B : ByteArray) (w : World) (h : DistOk A B) (hA : wordErr 2 A = 0) (hB : wordErr 2 B = 0) :
    Calls Tryz.prog 11 #[.string A, .string B] w fun e w' => e = .returned (.tuple #[.bool true, .int .i64 0]) ∧ Below w.heap.size w w' := by
  obtain ⟨hn, hl, hd⟩ := h
  have hlA : A.data.toList.length = A.size := by simp
  have hlB : B.data.toList.length = B.size := by simp
  have hll : A.data.toList.length = B.data.toList.length := by omega
  have hmk : ∀ w, (Instr.makeMap 56 none).run Tryz.prog w = .ok (.map (some w.heap.size)) (w.alloc (.map #[] 0)) := fun w => rfl
  have HCk := hid (fun X => wal_ok A B X hA hB hn (by omega))
  have HCo := hid (fun X => costs_any A B X hn (by omega))
  have HDf := hid (fun (i k : Nat) (a b : UInt8) (X : World) ha hb => differ_any A B i k a b X ha hb)
  have HLe := hid (fun i k => costAt_le A.data.toList B.data.toList i k)
  have HFit := hid (fun (i : Nat) (a b : UInt8) ha hb => diag_fits hll hd (i := i) (a := a) (b := b) ha hb)
  have HSkip := hid (fun (i : Nat) (h : i < A.size) => diag_skip hll hd (i := i) (by omega))
  have HFar := hid (fun (i t d : Nat) (h1 : i < t) (h2 : t < B.size) => diag_far hll hd (i := i) (t := t) h1 (by omega) d)
  have HSA := hid (fun (i : Nat) (h : i < A.size) => (show ∃ a, A.data.toList[i]? = some a from some_of_lt (by omega)))
  have HSB := hid (fun (i : Nat) (h : i < B.size) => (show ∃ a, B.data.toList[i]? = some a from some_of_lt (by omega)))
  rw [hlA, hlB] at HLe
  have HlA := hid hlA
  have HlB := hid hlB
  have HEl := hid hl
  have hnB : B.size ≤ 256 := by omega
  clear hA hB hd hlA hlB hll hl
  go_enter Tryz.func11, Tryz.ntmps11
  go_upto_region 5 with (first
    | (go_at_call 23; refine (HCk.out _).mono ?_; rintro e w1 ⟨rfl, h1⟩; have HB1 := hid (h1.below w.heap.size); have HS1 := hid (show w1.heap.size = w.heap.size by obtain ⟨q, rfl⟩ := h1; simp); clear h1)
    | (go_at_call 26; refine (HCo.out _).mono ?_; rintro e w2 ⟨b, f, rfl, hbb, hz, hb2, hf⟩; have HZ := hid hz; have HF := hid hf; have HB2 := hid hb2; have HBb := hid hbb; clear hz hf hb2 hbb))
  go_upto_region 6 with fail
  obtain ⟨w3, hw3⟩ : ∃ w3, w2.alloc (.map #[] 0) = w3 := ⟨_, rfl⟩
  have HM3 := hid (show RZ w3 w2.heap.size 0 (fun _ => 0) by rw [← hw3]; exact RZ.made w2)
  have hb3 : Below w2.heap.size w2 w3 := by rw [← hw3]; exact bel_alloc _ _
  have HZ3 := hid (HZ.out.below hb3)
  have HB3 := hid (show Below w.heap.size w w3 from (HB1.out.trans (HB2.out.mono (by have := HS1.out; omega))).trans (hb3.mono (by have := HB2.out.size; have := HS1.out; omega)))
  have HPl := hid (show b < w2.heap.size ∧ w.heap.size ≤ b ∧ w.heap.size ≤ w2.heap.size from ⟨HZ.out.lt, by have := HBb.out; have := HS1.out; omega, by have := HB2.out.size; have := HS1.out; omega⟩)
  have HLt3 := hid (show w2.heap.size < w3.heap.size by rw [← hw3]; simp)
  rw [hw3]
  clear hw3 hb3 HZ HB2 HBb HB1 hmk HCk HCo
  generalize hmm : w2.heap.size = m at *
  have HMM := hid hmm
  clear hmm
  go_wp2_with fail
  go_loopw [9] (fun i wr => ∃ (I N : Nat) (g : Rst → Int), I ≤ A.size + 1 ∧ i = .int .i64 ((I : Int) - 1) ∧ Hid (N + I * (B.size + 1) ≤ 66049) ∧ Hid (RZ wr b 70000 f) ∧ Hid (RZ wr m N g) ∧ Hid (WRows A.size I g) ∧ Hid (Below w.heap.size w wr)) (fun i _ => (intOf i + 1).toNat)
  case atStart => exact ⟨A.size + 1, 0, _, Nat.le_refl _, by congr 1; omega, hid (by have : (A.size + 1) * (B.size + 1) ≤ 257 * 257 := Nat.mul_le_mul (by omega) (by have := HEl.out; omega); omega), HZ3, HM3, hid (fun i k h1 h2 _ => by omega), HB3⟩
  case round =>
    obtain ⟨I, N, g, hI, rfl, HN, HZb, HM, HW, HB⟩ := hrel
    rename World => wk
    cases I with
    | zero =>
      have hz : ((0 : Nat) : Int) - 1 = -1 := rfl
      rw [hz]
      have l0 := HM.out.look ((0 : Int), (0 : Int)) (okRst (i := 0) (k := 0) (by omega) (by omega))
      have hw0 : g ((0 : Int), (0 : Int)) = 1 := (HW.out 0 0 (Nat.le_refl _) (Nat.zero_le _) (Nat.zero_le _)).2.2 rfl
      rw [hw0] at l0
      have l0 : (Instr.lookup 56 (.map (some m)) (.agg #[.int .i64 0, .int .i64 0]) false).run Tryz.prog wk = .ok (.int .i64 1) wk := l0
      clear hw0
      go_wp2
      go_ret2
      exact ⟨rfl, HB.out⟩
    | succ i =>
      have hz : ((i + 1 : Nat) : Int) - 1 = (i : Int) := by omega
      rw [hz]
      have hiA : i ≤ A.size := by omega
      have hge : (0 : Int) ≤ (i : Int) := by omega
      clear hz hI
      go_wp2_with fail
      have hN2 := HN.out
      rw [Nat.succ_mul] at hN2
      have HN2 := hid hN2
      clear hN2 HN
      go_loopw [10] (fun k wr => ∃ (K N2 : Nat) (h : Rst → Int), K ≤ B.size + 1 ∧ k = .int .i64 ((K : Int) - 1) ∧ Hid (N2 + K ≤ N + (B.size + 1)) ∧ Hid (RZ wr b 70000 f) ∧ Hid (RZ wr m N2 h) ∧ Hid (WPart A.size i K h) ∧ Hid (Below w.heap.size w wr)) (fun k _ => (intOf k + 1).toNat)
      case atStart => exact ⟨B.size + 1, N, g, Nat.le_refl _, by congr 1; omega, hid (Nat.le_refl _), HZb, HM, hid (by have h := WPart.start HW.out; rw [HEl.out] at h; rw [HEl.out]; exact h), HB⟩
      case round =>
        obtain ⟨K, N2, h, hK, rfl, HK, HZb, HM, HW, HB⟩ := hrel
        rename World => wn
        cases K with
        | zero =>
          have hz : ((0 : Nat) : Int) - 1 = -1 := rfl
          rw [hz]
          go_wp2
          go_roundw
          case rel => exact ⟨i, N2, h, by omega, rfl, hid (by have h1 := HK.out; have h2 := HN2.out; omega), HZb, HM, hid HW.out.done, HB⟩
          case measure => simp [intOf]
        | succ k =>
          have hz : ((k + 1 : Nat) : Int) - 1 = (k : Int) := by omega
          rw [hz]
          have hkB : k ≤ B.size := by omega
          have hgk : (0 : Int) ≤ (k : Int) := by omega
          have hNl : N2 < 1000000 := by have h1 := HK.out; have h2 := HN2.out; omega
          have HK2 := hid (show N2 + 1 + k ≤ N + (B.size + 1) by have := HK.out; omega)
          have hkS : k ≤ B.size + 1 := by omega
          clear hz hK
          have hok := okRst (i := i) (k := k) (by omega) (by have := HEl.out; omega)
          by_cases hiA2 : i = A.size
          · have heq : ((i : Int) == (A.size : Int)) = true := by rw [beq_iff_eq]; omega
            have HP2 := hid (HW.out.put (k := k) (c := 1) ⟨by decide, by decide, fun _ => rfl⟩)
            obtain ⟨w2, hrun, hz2, hg2⟩ := HM.out.store hNl _ hok 1 (by unfold Ok64; omega)
            have HZ2 := hid hz2
            have HB2 := hid (HB.out.grown hg2 (by have := HM.out.lt; have := HPl.out; omega) (fun k hk => by cases hk; exact HPl.out.2.2))
            have HZb2 := hid (HZb.out.same (hg2.block b HZb.out.lt (fun e => by have := HPl.out; simp at e; omega)))
            have hrun : (Instr.mapUpdate 56 (.map (some m)) (.agg #[.int .i64 (i : Int), .int .i64 (k : Int)]) (.int .i64 1)).run Tryz.prog wn = .ok () w2 := hrun
            clear hiA2 hz2 hg2
            go_wp2
            go_roundw
            case rel => exact ⟨k, N2 + 1, _, hkS, rfl, HK2, HZb2, HZ2, HP2, HB2⟩
            case measure => simp [intOf]
          · have heq : ((i : Int) == (A.size : Int)) = false := by rw [beq_eq_false_iff_ne]; omega
            have hiA3 : i < A.size := by omega
            obtain ⟨a, ha⟩ := HSA.out i hiA3
            have v0 := HF.out i k (by have := HlA.out; omega) (by have := HlB.out; omega)
            have v1 := HF.out (i + 1) k (by have := HlA.out; omega) (by have := HlB.out; omega)
            have u0 := HLe.out i k
            have u1 := HLe.out (i + 1) k
            have HSk := hid (fun (e : k = i) => (show costAt A.data.toList B.data.toList i k ≠ 2 + costAt A.data.toList B.data.toList (i + 1) k by subst e; have := HSkip.out k hiA3; omega))
            have HEq := hid (fun (t : Nat) (c : UInt8) (hc : B.data.toList[t]? = some c) (e : k = i) => (show (t = k → dif8 a c + costAt A.data.toList B.data.toList (i + 1) (t + 1) = costAt A.data.toList B.data.toList i k) ∧ (k < t → ¬ 2 * (t - k) + dif8 a c + costAt A.data.toList B.data.toList (i + 1) (t + 1) = costAt A.data.toList B.data.toList i k) by
              subst e
              refine ⟨fun e2 => ?_, fun h2 => ?_⟩
              · subst e2; exact HFit.out t a c ha hc
              · have := HFar.out k t (dif8 a c) h2 (by have := lt_of_some hc; have := HlB.out; omega); omega))
            have v3 := fun (t : Nat) (ht : t < B.size) => HF.out (i + 1) (t + 1) (by have := HlA.out; omega) (by have := HlB.out; omega)
            have HV3 := hid v3
            clear v3 hiA2
            have HC0 := hid (fun (X : World) (hX : RZ X b 70000 f) => (show (Instr.lookup 56 (.map (some b)) (.agg #[.int .i64 (i : Int), .int .i64 (k : Int)]) false).run Tryz.prog X = .ok (.int .i64 (costAt A.data.toList B.data.toList i k : Int)) X by
              have l := hX.look _ hok
              rw [v0] at l
              exact l))
            have HC1 := hid (fun (X : World) (hX : RZ X b 70000 f) => (show (Instr.lookup 56 (.map (some b)) (.agg #[.int .i64 ((i : Int) + 1), .int .i64 (k : Int)]) false).run Tryz.prog X = .ok (.int .i64 (costAt A.data.toList B.data.toList (i + 1) k : Int)) X by
              have l := hX.look _ (okRst (i := i + 1) (k := k) (by omega) (by have := HEl.out; omega))
              rw [v1] at l
              exact l))
            clear v0 v1
            generalize costAt A.data.toList B.data.toList i k = c0 at *
            generalize costAt A.data.toList B.data.toList (i + 1) k = c1 at *
            have l14 := HC0.out wn.drew (HZb.out.same rfl)
            go_upto_region 14 with fail
            go_region
            have HZ5 := hid (show RZ wn.drew b 70000 f from HZb.out.same rfl)
            have HM5 := hid (show RZ wn.drew m N2 h from HM.out.same rfl)
            have HB5 := hid (HB.out.trans (below_drewN (Below.refl w.heap.size wn) 1))
            change Hid (Below w.heap.size w wn.drew) at HB5
            go_upto_region 15 with fail
            clear l14 HZb HM HB HZ3 HM3 HB3
            generalize wn.drew = w5 at *
            have l15 := HC1.out w5 HZ5.out
            have u0' : c0 ≤ 1024 := by omega
            have u1' : c1 ≤ 1024 := by omega
            clear u0 u1
            go_upto_if 57 with fail
            clear l15
            go_cut [11] (fun x w' => ∃ v : Int, x = .int .i64 v ∧ 0 ≤ v ∧ v ≤ 2 ∧ Hid (k = i → v = 0) ∧ w5 = w')
            case first =>
              by_cases hE : 2 + c1 = c0
              · have hE2 : ((2 : Int) + (c1 : Int) == (c0 : Int)) = true := by rw [beq_iff_eq]; omega
                have l16 := HM5.out.look _ (okRst (i := i + 1) (k := k) (by omega) (by omega))
                have hv := HW.out.1 (i + 1) k (Nat.le_refl _) hiA3 (by have := HEl.out; omega)
                have hki : k ≠ i := fun e => HSk.out e hE.symm
                have l16 : (Instr.lookup 56 (.map (some m)) (.agg #[.int .i64 ((i : Int) + 1), .int .i64 (k : Int)]) false).run Tryz.prog w5 = .ok (.int .i64 (h (((i + 1 : Nat) : Int), (k : Int)))) w5 := l16
                generalize h (((i + 1 : Nat) : Int), (k : Int)) = v at *
                have HV := hid hv
                clear hE hv
                go_wp2
                go_meet
                exact ⟨v, rfl, HV.out.1, HV.out.2.1, hid (fun e => absurd e hki), rfl⟩
              · have hE2 : ((2 : Int) + (c1 : Int) == (c0 : Int)) = false := by rw [beq_eq_false_iff_ne]; omega
                clear hE
                go_wp2
                go_meet
                exact ⟨0, rfl, by decide, by decide, hid (fun _ => rfl), rfl⟩
            case rest =>
              obtain ⟨v, rfl, hv0, hv2, HV, hww⟩ := hcut
              subst hww
              clear HC1
              go_wp2_with fail
              go_loopw [11, 13] (fun x t wr => ∃ (v : Int) (T : Nat), x = .int .i64 v ∧ t = .int .i64 (T : Int) ∧ 0 ≤ v ∧ v ≤ 3 ∧ k ≤ T ∧ T ≤ B.size ∧ Hid (k = i → (T = k → v = 0) ∧ (k < T → v = 1)) ∧ Hid (RZ wr b 70000 f) ∧ Hid (RZ wr m N2 h) ∧ Hid (Below w.heap.size w wr)) (fun _ t _ => B.size + 1 - (intOf t).toNat)
              case atStart => exact ⟨v, k, rfl, rfl, hv0, by omega, Nat.le_refl _, hkB, hid (fun e => ⟨fun _ => HV.out e, fun h => by omega⟩), HZ5, HM5, HB5⟩
              case round =>
                clear HZ5 HM5 HB5 HV hv0 hv2
                obtain ⟨v, t, rfl, rfl, hv0, hv3, hkt, htB, HV, HZ5, HM5, HB5⟩ := hrel
                rename World => w5
                by_cases hgo : t < B.size ∧ v < 2
                · obtain ⟨htl, hvl⟩ := hgo
                  have htI : (t : Int) < (B.size : Int) := by omega
                  obtain ⟨c, hc⟩ := HSB.out t htl
                  have v3 := HV3.out t htl
                  have u3 := HLe.out (i + 1) (t + 1)
                  have u4 := dif8_le a c
                  have HE := hid (fun e => HEq.out t c hc e)
                  have HDc := hid (fun X => HDf.out i t a c X ha hc)
                  have hv3' := HW.out.1 (i + 1) (t + 1) (Nat.le_refl _) hiA3 (by have := HEl.out; omega)
                  have HC3 := hid (fun (X : World) (hX : RZ X b 70000 f) => (show (Instr.lookup 56 (.map (some b)) (.agg #[.int .i64 ((i : Int) + 1), .int .i64 ((t : Int) + 1)]) false).run Tryz.prog X = .ok (.int .i64 (costAt A.data.toList B.data.toList (i + 1) (t + 1) : Int)) X by
                    have l := hX.look _ (okRst (i := i + 1) (k := t + 1) (by omega) (by omega))
                    rw [v3] at l
                    exact l))
                  have HM3 := hid (fun (X : World) (hX : RZ X m N2 h) => (show (Instr.lookup 56 (.map (some m)) (.agg #[.int .i64 ((i : Int) + 1), .int .i64 ((t : Int) + 1)]) false).run Tryz.prog X = .ok (.int .i64 (h (((i + 1 : Nat) : Int), ((t + 1 : Nat) : Int)))) X from
                    hX.look _ (okRst (i := i + 1) (k := t + 1) (by omega) (by omega))))
                  have HV3' := hid hv3'
                  clear v3 hc ha hv3'
                  generalize costAt A.data.toList B.data.toList (i + 1) (t + 1) = c3 at *
                  generalize dif8 a c = d at *
                  generalize h (((i + 1 : Nat) : Int), ((t + 1 : Nat) : Int)) = vw at *
                  have u3' : c3 ≤ 1024 := by omega
                  clear u3
                  obtain ⟨EQ, hEQ⟩ : ∃ EQ : Bool, decide (2 * ((t : Int) - (k : Int)) + (d : Int) + (c3 : Int) = (c0 : Int)) = EQ := ⟨_, rfl⟩
                  have heqB : (2 * ((t : Int) - (k : Int)) + (d : Int) + (c3 : Int) == (c0 : Int)) = EQ := by rw [← hEQ]; exact Bool.beq_eq_decide_eq _ _
                  have HEQ := hid hEQ
                  clear hEQ
                  have ht256 : (t : Int) - (k : Int) ≤ 256 := by omega
                  have ht0 : 0 ≤ (t : Int) - (k : Int) := by omega
                  have r1 : IntKind.i64.wrap ((i : Int) + 1) = (i : Int) + 1 := IntWalk.i64_in _ (by omega)
                  have r2 : IntKind.i64.wrap ((t : Int) + 1) = (t : Int) + 1 := IntWalk.i64_in _ (by omega)
                  have r3 : IntKind.i64.wrap ((t : Int) - (k : Int)) = (t : Int) - (k : Int) := IntWalk.i64_in _ (by omega)
                  have r4 : IntKind.i64.wrap (2 * ((t : Int) - (k : Int))) = 2 * ((t : Int) - (k : Int)) := IntWalk.i64_in _ (by omega)
                  have r5 : IntKind.i64.wrap (2 * ((t : Int) - (k : Int)) + (d : Int)) = 2 * ((t : Int) - (k : Int)) + (d : Int) := IntWalk.i64_in _ (by omega)
                  have r6 : IntKind.i64.wrap (2 * ((t : Int) - (k : Int)) + (d : Int) + (c3 : Int)) = 2 * ((t : Int) - (k : Int)) + (d : Int) + (c3 : Int) := IntWalk.i64_in _ (by omega)
                  have HZd := hid (show RZ w5.drew b 70000 f from HZ5.out.same rfl)
                  have HMd := hid (show RZ w5.drew m N2 h from HM5.out.same rfl)
                  have HBd := hid (HB5.out.trans (below_drewN (Below.refl w.heap.size w5) 1))
                  have hwd : w.heap.size ≤ w5.drew.heap.size := HBd.out.size
                  have HSd := hid (HC3.out w5.drew HZd.out)
                  have HSf := hid (fun (X : World) (hb : Below w5.drew.heap.size w5.drew X) => HC3.out X (HZd.out.below hb))
                  go_upto_region 20 with fail
                  refine wp_region_held_drew (S := fun w' => (Instr.lookup 56 (.map (some b)) (.agg #[.int .i64 ((i : Int) + 1), .int .i64 ((t : Int) + 1)]) false).run Tryz.prog w' = .ok (.int .i64 (c3 : Int)) w') (by kernel_rfl) HSd.out (fun hHeld => ?_)
                  clear hHeld
                  refine wpAnyH_take (i := 0) (v := .int .i64 (t : Int)) rfl (by kernel_rfl) (by kernel_rfl) (by kernel_rfl) (fun _ _ _ h => h) (Or.inl ⟨by rfl, fun w hSw => ?_⟩) (by exact HSd.out) ?_
                  · (try dsimp only at hSw); go_simp
                  try simp only [Act.put, List.setIfInBounds_toArray, List.set_cons_zero, List.set_cons_succ, List.getElem_toArray, List.getElem_cons_zero, List.getElem_cons_succ]
                  refine wpAnyH_take (i := 1) (v := .int .i64 (k : Int)) rfl (by kernel_rfl) (by kernel_rfl) (by kernel_rfl) (fun _ _ _ h => h) (Or.inl ⟨by rfl, fun w hSw => ?_⟩) (by exact HSd.out) ?_
                  · (try dsimp only at hSw); go_simp
                  try simp only [Act.put, List.setIfInBounds_toArray, List.set_cons_zero, List.set_cons_succ, List.getElem_toArray, List.getElem_cons_zero, List.getElem_cons_succ]
                  refine wpAnyH_take (i := 2) (v := .int .i64 ((t : Int) - (k : Int))) rfl (by kernel_rfl) (by kernel_rfl) (by kernel_rfl) (fun _ _ _ h => h) (Or.inl ⟨by rfl, fun w hSw => ?_⟩) (by exact HSd.out) ?_
                  · (try dsimp only at hSw); go_simp
                  try simp only [Act.put, List.setIfInBounds_toArray, List.set_cons_zero, List.set_cons_succ, List.getElem_toArray, List.getElem_cons_zero, List.getElem_cons_succ]
                  refine wpAnyH_take (i := 3) (v := .int .i64 (2 * ((t : Int) - (k : Int)))) rfl (by kernel_rfl) (by kernel_rfl) (by kernel_rfl) (fun _ _ _ h => h) (Or.inl ⟨by rfl, fun w hSw => ?_⟩) (by exact HSd.out) ?_
                  · (try dsimp only at hSw); go_simp
                  try simp only [Act.put, List.setIfInBounds_toArray, List.set_cons_zero, List.set_cons_succ, List.getElem_toArray, List.getElem_cons_zero, List.getElem_cons_succ]
                  refine wpAnyH_take (i := 4) (v := .string A) rfl (by kernel_rfl) (by kernel_rfl) (by kernel_rfl) (fun _ _ _ h => h) (Or.inl ⟨by rfl, fun w hSw => ?_⟩) (by exact HSd.out) ?_
                  · (try dsimp only at hSw); go_simp
                  try simp only [Act.put, List.setIfInBounds_toArray, List.set_cons_zero, List.set_cons_succ, List.getElem_toArray, List.getElem_cons_zero, List.getElem_cons_succ]
                  refine wpAnyH_take (i := 5) (v := .string B) rfl (by kernel_rfl) (by kernel_rfl) (by kernel_rfl) (fun _ _ _ h => h) (Or.inl ⟨by rfl, fun w hSw => ?_⟩) (by exact HSd.out) ?_
                  · (try dsimp only at hSw); go_simp
                  try simp only [Act.put, List.setIfInBounds_toArray, List.set_cons_zero, List.set_cons_succ, List.getElem_toArray, List.getElem_cons_zero, List.getElem_cons_succ]
                  refine wpAnyH_take (i := 6) (v := .int .i64 (i : Int)) rfl (by kernel_rfl) (by kernel_rfl) (by kernel_rfl) (fun _ _ _ h => h) (Or.inl ⟨by rfl, fun w hSw => ?_⟩) (by exact HSd.out) ?_
                  · (try dsimp only at hSw); go_simp
                  try simp only [Act.put, List.setIfInBounds_toArray, List.set_cons_zero, List.set_cons_succ, List.getElem_toArray, List.getElem_cons_zero, List.getElem_cons_succ]
                  refine wpAnyH_take (i := 7) (v := .int .i64 (t : Int)) rfl (by kernel_rfl) (by kernel_rfl) (by kernel_rfl) (fun _ _ _ h => h) (Or.inl ⟨by rfl, fun w hSw => ?_⟩) (by exact HSd.out) ?_
                  · (try dsimp only at hSw); go_simp
                  try simp only [Act.put, List.setIfInBounds_toArray, List.set_cons_zero, List.set_cons_succ, List.getElem_toArray, List.getElem_cons_zero, List.getElem_cons_succ]
                  refine wpAnyH_take (i := 10) (v := .map (some b)) rfl (by kernel_rfl) (by kernel_rfl) (by kernel_rfl) (fun _ _ _ h => h) (Or.inl ⟨by rfl, fun w hSw => ?_⟩) (by exact HSd.out) ?_
                  · (try dsimp only at hSw); go_simp
                  try simp only [Act.put, List.setIfInBounds_toArray, List.set_cons_zero, List.set_cons_succ, List.getElem_toArray, List.getElem_cons_zero, List.getElem_cons_succ]
                  refine wpAnyH_take (i := 11) (v := .int .i64 (i : Int)) rfl (by kernel_rfl) (by kernel_rfl) (by kernel_rfl) (fun _ _ _ h => h) (Or.inl ⟨by rfl, fun w hSw => ?_⟩) (by exact HSd.out) ?_
                  · (try dsimp only at hSw); go_simp
                  try simp only [Act.put, List.setIfInBounds_toArray, List.set_cons_zero, List.set_cons_succ, List.getElem_toArray, List.getElem_cons_zero, List.getElem_cons_succ]
                  refine wpAnyH_take (i := 12) (v := .int .i64 ((i : Int) + 1)) rfl (by kernel_rfl) (by kernel_rfl) (by kernel_rfl) (fun _ _ _ h => h) (Or.inl ⟨by rfl, fun w hSw => ?_⟩) (by exact HSd.out) ?_
                  · (try dsimp only at hSw); go_simp
                  try simp only [Act.put, List.setIfInBounds_toArray, List.set_cons_zero, List.set_cons_succ, List.getElem_toArray, List.getElem_cons_zero, List.getElem_cons_succ]
                  refine wpAnyH_take (i := 13) (v := .int .i64 (t : Int)) rfl (by kernel_rfl) (by kernel_rfl) (by kernel_rfl) (fun _ _ _ h => h) (Or.inl ⟨by rfl, fun w hSw => ?_⟩) (by exact HSd.out) ?_
                  · (try dsimp only at hSw); go_simp
                  try simp only [Act.put, List.setIfInBounds_toArray, List.set_cons_zero, List.set_cons_succ, List.getElem_toArray, List.getElem_cons_zero, List.getElem_cons_succ]
                  refine wpAnyH_take (i := 14) (v := .int .i64 ((t : Int) + 1)) rfl (by kernel_rfl) (by kernel_rfl) (by kernel_rfl) (fun _ _ _ h => h) (Or.inl ⟨by rfl, fun w hSw => ?_⟩) (by exact HSd.out) ?_
                  · (try dsimp only at hSw); go_simp
                  try simp only [Act.put, List.setIfInBounds_toArray, List.set_cons_zero, List.set_cons_succ, List.getElem_toArray, List.getElem_cons_zero, List.getElem_cons_succ]
                  refine wpAnyH_take (i := 15) (v := .agg #[.int .i64 ((i : Int) + 1), .int .i64 ((t : Int) + 1)]) rfl (by kernel_rfl) (by kernel_rfl) (by kernel_rfl) (fun _ _ _ h => h) (Or.inl ⟨by rfl, fun w hSw => ?_⟩) (by exact HSd.out) ?_
                  · (try dsimp only at hSw); go_simp
                  try simp only [Act.put, List.setIfInBounds_toArray, List.set_cons_zero, List.set_cons_succ, List.getElem_toArray, List.getElem_cons_zero, List.getElem_cons_succ]
                  refine wpAnyH_take (i := 16) (v := .int .i64 (c3 : Int)) rfl (by kernel_rfl) (by kernel_rfl) (by kernel_rfl) (fun _ _ _ h => h) (Or.inl ⟨by rfl, fun w hSw => ?_⟩) (by exact HSd.out) ?_
                  · (try dsimp only at hSw); go_simp
                  try simp only [Act.put, List.setIfInBounds_toArray, List.set_cons_zero, List.set_cons_succ, List.getElem_toArray, List.getElem_cons_zero, List.getElem_cons_succ]
                  refine wpAnyH_take (i := 18) (v := .int .i64 (c0 : Int)) rfl (by kernel_rfl) (by kernel_rfl) (by kernel_rfl) (fun _ _ _ h => h) (Or.inl ⟨by rfl, fun w hSw => ?_⟩) (by exact HSd.out) ?_
                  · (try dsimp only at hSw); go_simp
                  try simp only [Act.put, List.setIfInBounds_toArray, List.set_cons_zero, List.set_cons_succ, List.getElem_toArray, List.getElem_cons_zero, List.getElem_cons_succ]
                  refine wpAnyH_ready (rs := [8]) (by kernel_rfl) (by simp) (AllReadyH.cons rfl (fun K hK => ?_) AllReadyH.nil)
                  go_simp
                  (go_at_call 25; refine (HDc.out _).mono ?_; rintro e w5 ⟨rfl, hb5⟩; have HS5 := hid (HSf.out w5 hb5); have HB5 := hid hb5; clear hb5)
                  try go_wp2_with fail
                  refine hK.out _ _ HS5.out (fun hHeld2 => ?_)
                  clear hK K hHeld2
                  try simp only [Act.put, List.setIfInBounds_toArray, List.set_cons_zero, List.set_cons_succ, List.getElem_toArray, List.getElem_cons_zero, List.getElem_cons_succ]
                  refine wpAnyH_take (i := 9) (v := .int .i64 (2 * ((t : Int) - (k : Int)) + (d : Int))) rfl (by kernel_rfl) (by kernel_rfl) (by kernel_rfl) (fun _ _ _ h => h) (Or.inl ⟨by rfl, fun w hSw => ?_⟩) (by exact HS5.out) ?_
                  · (try dsimp only at hSw); go_simp
                  try simp only [Act.put, List.setIfInBounds_toArray, List.set_cons_zero, List.set_cons_succ, List.getElem_toArray, List.getElem_cons_zero, List.getElem_cons_succ]
                  refine wpAnyH_take (i := 17) (v := .int .i64 (2 * ((t : Int) - (k : Int)) + (d : Int) + (c3 : Int))) rfl (by kernel_rfl) (by kernel_rfl) (by kernel_rfl) (fun _ _ _ h => h) (Or.inl ⟨by rfl, fun w hSw => ?_⟩) (by exact HS5.out) ?_
                  · (try dsimp only at hSw); go_simp
                  try simp only [Act.put, List.setIfInBounds_toArray, List.set_cons_zero, List.set_cons_succ, List.getElem_toArray, List.getElem_cons_zero, List.getElem_cons_succ]
                  refine wpAnyH_take (i := 19) (v := .bool EQ) rfl (by kernel_rfl) (by kernel_rfl) (by kernel_rfl) (fun _ _ _ h => h) (Or.inl ⟨by rfl, fun w hSw => ?_⟩) (by exact HS5.out) ?_
                  · (try dsimp only at hSw); go_simp
                  try simp only [Act.put, List.setIfInBounds_toArray, List.set_cons_zero, List.set_cons_succ, List.getElem_toArray, List.getElem_cons_zero, List.getElem_cons_succ]
                  refine wpAnyH_done (by kernel_rfl) ?_ _
                  clear r1 r2 r3 r4 r5 r6
                  have HZ6 := hid (HZd.out.below HB5.out)
                  have HM6 := hid (HMd.out.below HB5.out)
                  have HB6 := hid (HBd.out.trans (HB5.out.mono hwd))
                  have l21 := HM3.out w5 HM6.out
                  have hms : B.size + 1 - (t + 1) < B.size + 1 - t := by omega
                  have htk1 : k ≤ t + 1 := by omega
                  have hVW := HV3'.out
                  have hvw0 := hVW.1
                  have hvw2 := hVW.2.1
                  have hvs0 : 0 ≤ v + vw := by omega
                  have hvs3 : v + vw ≤ 3 := by omega
                  cases EQ
                  · have HVn := hid (show k = i → (t + 1 = k → v = 0) ∧ (k < t + 1 → v = 1) from fun e => ⟨fun h => by omega, fun _ => by
                      obtain ⟨e1, e2⟩ := HE.out e
                      have hq := HEQ.out
                      simp only [decide_eq_false_iff_not] at hq
                      by_cases htk : t = k
                      · exfalso; have := e1 htk; apply hq; subst htk; omega
                      · exact (HV.out e).2 (by omega)⟩)
                    clear hVW HC3 HM3 l21
                    go_wp2
                    go_roundw
                    case rel => exact ⟨v, t + 1, rfl, rfl, hv0, hv3, htk1, htl, HVn, HZ6, HM6, HB6⟩
                    case measure => exact hms
                  · have HVn := hid (show k = i → (t + 1 = k → v + vw = 0) ∧ (k < t + 1 → v + vw = 1) from fun e => ⟨fun h => by omega, fun _ => by
                      obtain ⟨e1, e2⟩ := HE.out e
                      have hq := HEQ.out
                      simp only [decide_eq_true_eq] at hq
                      by_cases htk : t = k
                      · have hv := (HV.out e).1 htk
                        have hw := HV3'.out.2.2 (by omega)
                        omega
                      · exfalso; apply e2 (by omega); omega⟩)
                    clear hVW HC3 HM3
                    go_wp2
                    go_roundw
                    case rel => exact ⟨v + vw, t + 1, rfl, rfl, hvs0, hvs3, htk1, htl, HVn, HZ6, HM6, HB6⟩
                    case measure => exact hms
                · have hmin := min2_any v 2
                  obtain ⟨MV, hMV⟩ : ∃ MV, minZ v 2 = MV := ⟨_, rfl⟩
                  have hMW : WayV i k MV := by
                    rw [← hMV]
                    unfold WayV minZ
                    refine ⟨by split <;> omega, by split <;> omega, fun e => ?_⟩
                    have h1 := HV.out e.symm
                    have hk : k < t := by
                      rcases Nat.lt_or_ge k t with h | h
                      · exact h
                      · exfalso
                        have e3 : t = k := by omega
                        have := h1.1 e3
                        have := HEl.out
                        apply hgo
                        omega
                    have := h1.2 hk
                    split <;> omega
                  have hM0 := hMW.1
                  have hM2 := hMW.2.1
                  have HP2 := hid (HW.out.put (k := k) hMW)
                  rw [hMV] at hmin
                  obtain ⟨w7, hrun, hz7, hg7⟩ := HM5.out.store hNl _ hok MV (by unfold Ok64; omega)
                  have HZ7 := hid hz7
                  have HB7 := hid (HB5.out.grown hg7 (HB5.out.size) (fun k hk => by cases hk; exact HPl.out.2.2))
                  have HZb7 := hid (HZ5.out.same (hg7.block b HZ5.out.lt (fun e => by have := HPl.out; simp at e; omega)))
                  have hrun : (Instr.mapUpdate 56 (.map (some m)) (.agg #[.int .i64 (i : Int), .int .i64 (k : Int)]) (.int .i64 MV)).run Tryz.prog w5 = .ok () w7 := hrun
                  have hcase : ∀ Q : Prop, (¬ (t : Int) < (B.size : Int) → Q) → ((t : Int) < (B.size : Int) → ¬ v < 2 → Q) → Q := by
                    intro Q q1 q2
                    by_cases h1 : t < B.size
                    · exact q2 (by omega) (fun h2 => hgo ⟨h1, h2⟩)
                    · exact q1 (by omega)
                  clear hgo hMW hMV hz7 hg7
                  refine hcase _ (fun hx => ?_) (fun hx hy => ?_) <;> clear hcase
                  all_goals
                    go_wp2
                    go_roundw
                    case rel => exact ⟨k, N2 + 1, _, hkS, rfl, HK2, HZb7, HZ7, HP2, HB7⟩
                    case measure => simp [intOf]
end Go.Proofs.YtcobdmenigpipaaGreatDoor
