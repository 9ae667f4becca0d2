/-
  watermark.differ and watermark.costs: the least costs of all rests lie in a map.
  Words of at most 1000 letters.
-/
import Derived.Test.YtcobdmenigpipaaGreatDoorRstMap
import Derived.Test.YtcobdmenigpipaaGreatDoorWatLaw
import Derived.Test.YtcobdmenigpipaaGreatDoorBld
import Derived.Deep.Slices
import Derived.Test.YtcobdmenigpipaaGreatDoorSlices
import Derived.Deep.QuietTactic
import Derived.Deep.RegionHeld3
import Derived.Deep.RegionLaw
import Derived.WalkSmall
namespace Go.Proofs.YtcobdmenigpipaaGreatDoor
open Go.RowKit Go.Deep
set_option linter.unusedVariables false
set_option linter.unusedSimpArgs false

theorem byteW {s : ByteArray} {k : Nat} {c : UInt8} (h : s.data.toList[k]? = some c) (hk : k < s.size) : s[k] = c := by
  have h2 : s.data[k]? = some c := by rw [← Array.getElem?_toList]; exact h
  exact (Array.getElem?_eq_some_iff.1 h2).2
set_option maxRecDepth 100000 in
theorem differ_any (A B : ByteArray) (i k : Nat) (a b : UInt8) (w : World) (ha : A.data.toList[i]? = some a) (hb : B.data.toList[k]? = some b) :
    Calls Tryz.prog 25 #[.string A, .string B, .int .i64 (i : Int), .int .i64 (k : Int)] w fun e w' => e = .returned (.int .i64 (dif8 a b : Int)) ∧ Below w.heap.size w w' := by
  have hi : i < A.size := by have := lt_of_some ha; simpa using this
  have hk : k < B.size := by have := lt_of_some hb; simpa using this
  have ga := byteW ha hi
  have gb := byteW hb hk
  have hiI : (i : Int) < (A.size : Int) := by omega
  have hkI : (k : Int) < (B.size : Int) := by omega
  have HBd := hid (below_drewN (Below.refl w.heap.size w) 1)
  clear ha hb
  by_cases hab : a = b
  · subst hab
    have hd : dif8 a a = 0 := by simp [dif8]
    rw [hd]
    clear hd
    go_enter Tryz.func25, Tryz.ntmps25
    go_wp2_with fail
    go_region
    all_goals (try go_wp2)
    all_goals go_ret
    all_goals exact ⟨rfl, HBd.out⟩
  · have hd : dif8 a b = 1 := by simp [dif8, hab]
    have hne : ((a.toNat : Int) != (b.toNat : Int)) = true := by
      rw [bne_iff_ne]; intro e; exact hab (UInt8.toNat_inj.1 (by omega))
    rw [hd]
    clear hd hab
    go_enter Tryz.func25, Tryz.ntmps25
    go_wp2_with fail
    go_region
    all_goals (try go_wp2)
    all_goals go_ret
    all_goals exact ⟨rfl, HBd.out⟩
/-- The map says the cost of every rest. -/
def CostF (A B : List UInt8) (f : Rst → Int) : Prop := ∀ i k : Nat, i ≤ A.length → k ≤ B.length → f ((i : Int), (k : Int)) = (costAt A B i k : Int)
/-- .. of the rests in the rows from I on. -/
def RowsF (A B : List UInt8) (I : Nat) (f : Rst → Int) : Prop := ∀ i k : Nat, I ≤ i → i ≤ A.length → k ≤ B.length → f ((i : Int), (k : Int)) = (costAt A B i k : Int)
def PartF (A B : List UInt8) (i K : Nat) (f : Rst → Int) : Prop := RowsF A B (i + 1) f ∧ ∀ k : Nat, K ≤ k → k ≤ B.length → f ((i : Int), (k : Int)) = (costAt A B i k : Int)
theorem RowsF.zero {A B : List UInt8} {f : Rst → Int} (h : RowsF A B 0 f) : CostF A B f := fun i k hi hk => h i k (Nat.zero_le _) hi hk
theorem PartF.start {A B : List UInt8} {i : Nat} {f : Rst → Int} (h : RowsF A B (i + 1) f) : PartF A B i (B.length + 1) f := ⟨h, fun k h1 h2 => by omega⟩
theorem PartF.done {A B : List UInt8} {i : Nat} {f : Rst → Int} (h : PartF A B i 0 f) : RowsF A B i f := fun j k h1 h2 h3 => by
  by_cases e : j = i
  · subst e; exact h.2 k (Nat.zero_le _) h3
  · exact h.1 j k (by omega) h2 h3
theorem PartF.put {A B : List UInt8} {i k : Nat} {f : Rst → Int} {c : Int} (h : PartF A B i (k + 1) f) (hc : c = (costAt A B i k : Int)) : PartF A B i k (fun y => if y = ((i : Int), (k : Int)) then c else f y) := by
  refine ⟨fun j l h1 h2 h3 => ?_, fun l h1 h2 => ?_⟩
  · have hne : ((j : Int), (l : Int)) ≠ ((i : Int), (k : Int)) := fun e => by
      have := congrArg Prod.fst e
      simp only at this
      omega
    show (if _ then _ else _) = _
    rw [if_neg hne]; exact h.1 j l h1 h2 h3
  · show (if _ then _ else _) = _
    by_cases e : l = k
    · subst e; rw [if_pos rfl, hc]
    · have hne : ((i : Int), (l : Int)) ≠ ((i : Int), (k : Int)) := fun e2 => by
        have := congrArg Prod.snd e2
        simp only at this
        omega
      rw [if_neg hne]; exact h.2 l (by omega) h2
theorem okRst {i k : Nat} (hi : i ≤ 100000) (hk : k ≤ 100000) : OkRst ((i : Int), (k : Int)) := by unfold OkRst Ok64; simp only; omega
theorem min3_any (A B C : Int) : ∀ ats ty, Builtin.min_ ats ty #[.int .i64 A, .int .i64 B, .int .i64 C] = pure (.int .i64 (minZ (minZ A B) C)) := fun _ _ => rfl
def CostPost (A B : ByteArray) (w : World) (e : Ending) (w' : World) : Prop := ∃ (b : Nat) (f : Rst → Int), e = .returned (.map (some b)) ∧ w.heap.size ≤ b ∧ RZ w' b 70000 f ∧ Below w.heap.size w w' ∧ CostF A.data.toList B.data.toList f
set_option maxRecDepth 100000 in
set_option maxHeartbeats 2000000 in
theorem costs_any (A B : ByteArray) (w : World) (hA : A.size ≤ 256) (hB : B.size ≤ 256) :
    Calls Tryz.prog 26 #[.string A, .string B] w fun e w' => CostPost A B w e w' := by
  have hlA : A.data.toList.length = A.size := by simp
  have hlB : B.data.toList.length = B.size := by simp
  have hmk : ∀ w, (Instr.makeMap 56 none).run Tryz.prog w = .ok (.map (some w.heap.size)) (w.alloc (.map #[] 0)) := fun w => rfl
  have HDf := hid (fun (i k : Nat) (a b : UInt8) (X : World) ha hb => differ_any A B i k a b X ha hb)
  have HTop := hid (fun k => costAt_top A.data.toList B.data.toList k)
  have HEnd := hid (fun i => costAt_end A.data.toList B.data.toList i)
  have HLe := hid (fun i k => costAt_le A.data.toList B.data.toList i k)
  have HStep := hid (fun (i k : Nat) (a b : UInt8) ha hb => costAt_step (A := A.data.toList) (B := B.data.toList) (i := i) (k := k) (a := a) (b := b) ha hb)
  have HSA := hid (fun (i : Nat) (h : i < A.size) => (show ∃ a, A.data.toList[i]? = some a from some_of_lt (by omega)))
  have HSB := hid (fun (i : Nat) (h : i < B.size) => (show ∃ a, B.data.toList[i]? = some a from some_of_lt (by omega)))
  rw [hlA, hlB] at HTop HLe
  rw [hlA] at HEnd
  rw [hlB] at HEnd
  have HlA := hid hlA
  have HlB := hid hlB
  clear hlA hlB
  go_enter Tryz.func26, Tryz.ntmps26
  go_wp2_with fail
  obtain ⟨w0, hw0⟩ : ∃ w0, w.alloc (.map #[] 0) = w0 := ⟨_, rfl⟩
  have HM0 := hid (show RZ w0 w.heap.size 0 (fun _ => 0) by rw [← hw0]; exact RZ.made w)
  have HB0 := hid (show Below w.heap.size w w0 by rw [← hw0]; exact bel_alloc _ _)
  rw [hw0]
  clear hw0 hmk
  have HG0 := hid (show w0.heap.size = w0.heap.size from rfl)
  generalize hbb : w.heap.size = b at *
  have HBB := hid hbb
  clear hbb
  go_loopw [6] (fun i wr => ∃ (I N : Nat) (f : Rst → Int), I ≤ A.size + 1 ∧ i = .int .i64 ((I : Int) - 1) ∧ Hid (N + I * (B.size + 1) ≤ 66049) ∧ Hid (RZ wr b N f) ∧ Hid (RowsF A.data.toList B.data.toList I f) ∧ Hid (Below b w wr)) (fun i _ => (intOf i + 1).toNat)
  case atStart => exact ⟨A.size + 1, 0, _, Nat.le_refl _, by congr 1; omega, hid (by have : (A.size + 1) * (B.size + 1) ≤ 257 * 257 := Nat.mul_le_mul (by omega) (by omega); omega), HM0, hid (fun i k h1 h2 _ => by have := HlA.out; omega), HB0⟩
  case round =>
    obtain ⟨I, N, f, hI, rfl, HN, HM, HF, HB⟩ := hrel
    rename World => wk
    cases I with
    | zero =>
      have hz : ((0 : Nat) : Int) - 1 = -1 := rfl
      rw [hz]
      go_wp2
      go_ret
      exact ⟨b, f, rfl, by rw [HBB.out]; exact Nat.le_refl _, HM.out.mono (by have := HN.out; omega), by rw [HBB.out]; exact HB.out, HF.out.zero⟩
    | succ i =>
      have hz : ((i + 1 : Nat) : Int) - 1 = (i : Int) := by omega
      rw [hz]
      have hiA : i ≤ A.size := by omega
      have hge : (0 : Int) ≤ (i : Int) := by omega
      clear hz hI
      go_wp2_with fail
      have hN2 := HN.out
      rw [Nat.succ_mul] at hN2
      have HN2 := hid hN2
      clear hN2 HN
      go_loopw [7] (fun k wr => ∃ (K N2 : Nat) (g : Rst → Int), K ≤ B.size + 1 ∧ k = .int .i64 ((K : Int) - 1) ∧ Hid (N2 + K ≤ N + (B.size + 1)) ∧ Hid (RZ wr b N2 g) ∧ Hid (PartF A.data.toList B.data.toList i K g) ∧ Hid (Below b w wr)) (fun k _ => (intOf k + 1).toNat)
      case atStart => exact ⟨B.size + 1, N, f, Nat.le_refl _, by congr 1; omega, hid (Nat.le_refl _), HM, hid (by have h := PartF.start HF.out; rw [HlB.out] at h; exact h), HB⟩
      case round =>
        obtain ⟨K, N2, g, hK, rfl, HK, HM, HP, HB⟩ := hrel
        rename World => wn
        cases K with
        | zero =>
          have hz : ((0 : Nat) : Int) - 1 = -1 := rfl
          rw [hz]
          go_wp2
          go_roundw
          case rel => exact ⟨i, N2, g, by omega, rfl, hid (by have h1 := HK.out; have h2 := HN2.out; omega), HM, hid HP.out.done, HB⟩
          case measure => simp [intOf]
        | succ k =>
          have hz : ((k + 1 : Nat) : Int) - 1 = (k : Int) := by omega
          rw [hz]
          have hkB : k ≤ B.size := by omega
          have hgk : (0 : Int) ≤ (k : Int) := by omega
          have hNl : N2 < 1000000 := by have h1 := HK.out; have h2 := HN2.out; omega
          clear hz hK
          have hcl := HLe.out i k
          have hok := okRst (i := i) (k := k) (by omega) (by omega)
          by_cases hiA2 : i = A.size
          · have heq : ((i : Int) == (A.size : Int)) = true := by rw [beq_iff_eq]; omega
            have hv : (2 : Int) * ((B.size : Int) - (k : Int)) = (costAt A.data.toList B.data.toList i k : Int) := by rw [hiA2, HTop.out]; omega
            have HP2 := hid (HP.out.put (k := k) rfl)
            obtain ⟨w2, hrun, hz2, hg2⟩ := HM.out.store hNl _ hok (costAt A.data.toList B.data.toList i k : Int) (by unfold Ok64; omega)
            have HZ2 := hid hz2
            have HB2 := hid (HB.out.grown hg2 (by have := HM.out.lt; omega) (fun k hk => by cases hk; exact Nat.le_refl _))
            change (Instr.mapUpdate 56 (.map (some b)) (.agg #[.int .i64 (i : Int), .int .i64 (k : Int)]) (.int .i64 (costAt A.data.toList B.data.toList i k : Int))).run Tryz.prog wn = .ok () w2 at hrun
            clear hcl hiA2
            generalize (costAt A.data.toList B.data.toList i k : Int) = C at *
            go_wp2
            go_roundw
            case rel => exact ⟨k, N2 + 1, _, by omega, rfl, hid (by have := HK.out; omega), HZ2, HP2, HB2⟩
            case measure => simp [intOf]
          · have heq : ((i : Int) == (A.size : Int)) = false := by rw [beq_eq_false_iff_ne]; omega
            by_cases hkB2 : k = B.size
            · have heq2 : ((k : Int) == (B.size : Int)) = true := by rw [beq_iff_eq]; omega
              have hv : (2 : Int) * ((A.size : Int) - (i : Int)) = (costAt A.data.toList B.data.toList i k : Int) := by rw [hkB2, HEnd.out]; omega
              have HP2 := hid (HP.out.put (k := k) rfl)
              obtain ⟨w2, hrun, hz2, hg2⟩ := HM.out.store hNl _ hok (costAt A.data.toList B.data.toList i k : Int) (by unfold Ok64; omega)
              have HZ2 := hid hz2
              have HB2 := hid (HB.out.grown hg2 (by have := HM.out.lt; omega) (fun k hk => by cases hk; exact Nat.le_refl _))
              change (Instr.mapUpdate 56 (.map (some b)) (.agg #[.int .i64 (i : Int), .int .i64 (k : Int)]) (.int .i64 (costAt A.data.toList B.data.toList i k : Int))).run Tryz.prog wn = .ok () w2 at hrun
              clear hcl hkB2
              generalize (costAt A.data.toList B.data.toList i k : Int) = C at *
              go_wp2
              go_roundw
              case rel => exact ⟨k, N2 + 1, _, by omega, rfl, hid (by have := HK.out; omega), HZ2, HP2, HB2⟩
              case measure => simp [intOf]
            · have heq2 : ((k : Int) == (B.size : Int)) = false := by rw [beq_eq_false_iff_ne]; omega
              obtain ⟨a, ha⟩ := HSA.out i (by omega)
              obtain ⟨c, hc⟩ := HSB.out k (by omega)
              have hst := HStep.out i k a c ha hc
              have HDc := hid (fun X => HDf.out i k a c X ha hc)
              have v1 := HP.out.1 (i + 1) k (Nat.le_refl _) (by have := HlA.out; omega) (by have := HlB.out; omega)
              have v2 := HP.out.2 (k + 1) (Nat.le_refl _) (by have := HlB.out; omega)
              have v3 := HP.out.1 (i + 1) (k + 1) (Nat.le_refl _) (by have := HlA.out; omega) (by have := HlB.out; omega)
              have u1 := HLe.out (i + 1) k
              have u2 := HLe.out i (k + 1)
              have u3 := HLe.out (i + 1) (k + 1)
              have u4 := dif8_le a c
              have hP2 := fun (C : Int) h => HP.out.put (k := k) (c := C) h
              generalize costAt A.data.toList B.data.toList (i + 1) k = c1 at *
              generalize costAt A.data.toList B.data.toList i (k + 1) = c2 at *
              generalize costAt A.data.toList B.data.toList (i + 1) (k + 1) = c3 at *
              generalize costAt A.data.toList B.data.toList i k = c0 at *
              generalize dif8 a c = d at *
              have hCv : minZ (minZ (2 + (c1 : Int)) (2 + (c2 : Int))) ((d : Int) + (c3 : Int)) = (c0 : Int) := by rw [hst]; unfold minZ; split <;> split <;> omega
              have HP2 := hid (hP2 (c0 : Int) rfl)
              have HS := hid (fun (X : World) (h : RZ X b N2 g) => (show (Instr.lookup 56 (.map (some b)) (.agg #[.int .i64 ((i : Int) + 1), .int .i64 (k : Int)]) false).run Tryz.prog X = .ok (.int .i64 (c1 : Int)) X ∧ (Instr.lookup 56 (.map (some b)) (.agg #[.int .i64 (i : Int), .int .i64 ((k : Int) + 1)]) false).run Tryz.prog X = .ok (.int .i64 (c2 : Int)) X ∧ (Instr.lookup 56 (.map (some b)) (.agg #[.int .i64 ((i : Int) + 1), .int .i64 ((k : Int) + 1)]) false).run Tryz.prog X = .ok (.int .i64 (c3 : Int)) X from by
                have l1 := h.look _ (okRst (i := i + 1) (k := k) (by omega) (by omega))
                have l2 := h.look _ (okRst (i := i) (k := k + 1) (by omega) (by omega))
                have l3 := h.look _ (okRst (i := i + 1) (k := k + 1) (by omega) (by omega))
                rw [v1] at l1
                rw [v2] at l2
                rw [v3] at l3
                exact ⟨l1, l2, l3⟩))
              have HS6 := hid (fun (X : World) (h : RZ X b (N2 + 1) (fun y => if y = ((i : Int), (k : Int)) then (c0 : Int) else g y)) => (show (Instr.lookup 56 (.map (some b)) (.agg #[.int .i64 ((i : Int) + 1), .int .i64 (k : Int)]) false).run Tryz.prog X = .ok (.int .i64 (c1 : Int)) X ∧ (Instr.lookup 56 (.map (some b)) (.agg #[.int .i64 (i : Int), .int .i64 ((k : Int) + 1)]) false).run Tryz.prog X = .ok (.int .i64 (c2 : Int)) X ∧ (Instr.lookup 56 (.map (some b)) (.agg #[.int .i64 ((i : Int) + 1), .int .i64 ((k : Int) + 1)]) false).run Tryz.prog X = .ok (.int .i64 (c3 : Int)) X from by
                have l1 := h.look _ (okRst (i := i + 1) (k := k) (by omega) (by omega))
                have l2 := h.look _ (okRst (i := i) (k := k + 1) (by omega) (by omega))
                have l3 := h.look _ (okRst (i := i + 1) (k := k + 1) (by omega) (by omega))
                rw [if_neg (fun e => by have := congrArg Prod.fst e; simp only at this; omega), v1] at l1
                rw [if_neg (fun e => by have := congrArg Prod.snd e; simp only at this; omega), v2] at l2
                rw [if_neg (fun e => by have := congrArg Prod.fst e; simp only at this; omega), v3] at l3
                exact ⟨l1, l2, l3⟩))
              have HSn := hid (HS.out wn HM.out)
              have HMd := hid (show RZ wn.drew b N2 g from HM.out.same rfl)
              have HBd := hid (HB.out.trans (below_drewN (Below.refl _ wn) 1))
              have hmin := min3_any (2 + (c1 : Int)) (2 + (c2 : Int)) ((d : Int) + (c3 : Int))
              rw [hCv] at hmin
              have hbn : b ≤ wn.heap.size := by have := HM.out.lt; omega
              have HOk := hid hok
              have HCb := hid (show Ok64 (c0 : Int) by unfold Ok64; omega)
              clear v1 v2 v3 hst hCv hP2 ha hc hcl hiA2 hkB2 hok HM HB HP
              have HSd := hid (HS.out wn.drew HMd.out)
              have hbd : b ≤ wn.drew.heap.size := hbn
              have r1 : IntKind.i64.wrap ((i : Int) + 1) = (i : Int) + 1 := IntWalk.i64_in _ (by omega)
              have r2 : IntKind.i64.wrap ((k : Int) + 1) = (k : Int) + 1 := IntWalk.i64_in _ (by omega)
              have r3 : IntKind.i64.wrap (2 + (c1 : Int)) = 2 + (c1 : Int) := IntWalk.i64_in _ (by omega)
              have r4 : IntKind.i64.wrap (2 + (c2 : Int)) = 2 + (c2 : Int) := IntWalk.i64_in _ (by omega)
              have r5 : IntKind.i64.wrap ((d : Int) + (c3 : Int)) = (d : Int) + (c3 : Int) := IntWalk.i64_in _ (by omega)
              go_upto_region 8 with fail
              refine wp_region_held_drew (S := fun w' => (Instr.lookup 56 (.map (some b)) (.agg #[.int .i64 ((i : Int) + 1), .int .i64 (k : Int)]) false).run Tryz.prog w' = .ok (.int .i64 (c1 : Int)) w' ∧ (Instr.lookup 56 (.map (some b)) (.agg #[.int .i64 (i : Int), .int .i64 ((k : Int) + 1)]) false).run Tryz.prog w' = .ok (.int .i64 (c2 : Int)) w' ∧ (Instr.lookup 56 (.map (some b)) (.agg #[.int .i64 ((i : Int) + 1), .int .i64 ((k : Int) + 1)]) false).run Tryz.prog w' = .ok (.int .i64 (c3 : Int)) w') (by kernel_rfl) HSd.out (fun hHeld => ?_)
              clear hHeld
              refine wpAnyH_take (i := 0) (v := .map (some b)) rfl (by kernel_rfl) (by kernel_rfl) (by kernel_rfl) (fun _ _ _ h => h) (Or.inl ⟨by rfl, fun w hSw => ?_⟩) (by exact HSd.out) ?_
              · (try dsimp only at hSw); obtain ⟨s1, s2, s3⟩ := hSw; go_simp
              try simp only [Act.put, List.setIfInBounds_toArray, List.set_cons_zero, List.set_cons_succ, List.getElem_toArray, List.getElem_cons_zero, List.getElem_cons_succ]
              refine wpAnyH_take (i := 1) (v := .int .i64 (i : Int)) rfl (by kernel_rfl) (by kernel_rfl) (by kernel_rfl) (fun _ _ _ h => h) (Or.inl ⟨by rfl, fun w hSw => ?_⟩) (by exact HSd.out) ?_
              · (try dsimp only at hSw); obtain ⟨s1, s2, s3⟩ := hSw; go_simp
              try simp only [Act.put, List.setIfInBounds_toArray, List.set_cons_zero, List.set_cons_succ, List.getElem_toArray, List.getElem_cons_zero, List.getElem_cons_succ]
              refine wpAnyH_take (i := 2) (v := .int .i64 (k : Int)) rfl (by kernel_rfl) (by kernel_rfl) (by kernel_rfl) (fun _ _ _ h => h) (Or.inl ⟨by rfl, fun w hSw => ?_⟩) (by exact HSd.out) ?_
              · (try dsimp only at hSw); obtain ⟨s1, s2, s3⟩ := hSw; go_simp
              try simp only [Act.put, List.setIfInBounds_toArray, List.set_cons_zero, List.set_cons_succ, List.getElem_toArray, List.getElem_cons_zero, List.getElem_cons_succ]
              refine wpAnyH_take (i := 3) (v := .agg #[.int .i64 (i : Int), .int .i64 (k : Int)]) rfl (by kernel_rfl) (by kernel_rfl) (by kernel_rfl) (fun _ _ _ h => h) (Or.inl ⟨by rfl, fun w hSw => ?_⟩) (by exact HSd.out) ?_
              · (try dsimp only at hSw); obtain ⟨s1, s2, s3⟩ := hSw; go_simp
              try simp only [Act.put, List.setIfInBounds_toArray, List.set_cons_zero, List.set_cons_succ, List.getElem_toArray, List.getElem_cons_zero, List.getElem_cons_succ]
              refine wpAnyH_take (i := 4) (v := .map (some b)) rfl (by kernel_rfl) (by kernel_rfl) (by kernel_rfl) (fun _ _ _ h => h) (Or.inl ⟨by rfl, fun w hSw => ?_⟩) (by exact HSd.out) ?_
              · (try dsimp only at hSw); obtain ⟨s1, s2, s3⟩ := hSw; go_simp
              try simp only [Act.put, List.setIfInBounds_toArray, List.set_cons_zero, List.set_cons_succ, List.getElem_toArray, List.getElem_cons_zero, List.getElem_cons_succ]
              refine wpAnyH_take (i := 5) (v := .int .i64 (i : Int)) rfl (by kernel_rfl) (by kernel_rfl) (by kernel_rfl) (fun _ _ _ h => h) (Or.inl ⟨by rfl, fun w hSw => ?_⟩) (by exact HSd.out) ?_
              · (try dsimp only at hSw); obtain ⟨s1, s2, s3⟩ := hSw; go_simp
              try simp only [Act.put, List.setIfInBounds_toArray, List.set_cons_zero, List.set_cons_succ, List.getElem_toArray, List.getElem_cons_zero, List.getElem_cons_succ]
              refine wpAnyH_take (i := 6) (v := .int .i64 ((i : Int) + 1)) rfl (by kernel_rfl) (by kernel_rfl) (by kernel_rfl) (fun _ _ _ h => h) (Or.inl ⟨by rfl, fun w hSw => ?_⟩) (by exact HSd.out) ?_
              · (try dsimp only at hSw); obtain ⟨s1, s2, s3⟩ := hSw; go_simp
              try simp only [Act.put, List.setIfInBounds_toArray, List.set_cons_zero, List.set_cons_succ, List.getElem_toArray, List.getElem_cons_zero, List.getElem_cons_succ]
              refine wpAnyH_take (i := 7) (v := .int .i64 (k : Int)) rfl (by kernel_rfl) (by kernel_rfl) (by kernel_rfl) (fun _ _ _ h => h) (Or.inl ⟨by rfl, fun w hSw => ?_⟩) (by exact HSd.out) ?_
              · (try dsimp only at hSw); obtain ⟨s1, s2, s3⟩ := hSw; go_simp
              try simp only [Act.put, List.setIfInBounds_toArray, List.set_cons_zero, List.set_cons_succ, List.getElem_toArray, List.getElem_cons_zero, List.getElem_cons_succ]
              refine wpAnyH_take (i := 8) (v := .agg #[.int .i64 ((i : Int) + 1), .int .i64 (k : Int)]) rfl (by kernel_rfl) (by kernel_rfl) (by kernel_rfl) (fun _ _ _ h => h) (Or.inl ⟨by rfl, fun w hSw => ?_⟩) (by exact HSd.out) ?_
              · (try dsimp only at hSw); obtain ⟨s1, s2, s3⟩ := hSw; go_simp
              try simp only [Act.put, List.setIfInBounds_toArray, List.set_cons_zero, List.set_cons_succ, List.getElem_toArray, List.getElem_cons_zero, List.getElem_cons_succ]
              refine wpAnyH_take (i := 9) (v := .int .i64 (c1 : Int)) rfl (by kernel_rfl) (by kernel_rfl) (by kernel_rfl) (fun _ _ _ h => h) (Or.inl ⟨by rfl, fun w hSw => ?_⟩) (by exact HSd.out) ?_
              · (try dsimp only at hSw); obtain ⟨s1, s2, s3⟩ := hSw; go_simp
              try simp only [Act.put, List.setIfInBounds_toArray, List.set_cons_zero, List.set_cons_succ, List.getElem_toArray, List.getElem_cons_zero, List.getElem_cons_succ]
              refine wpAnyH_take (i := 10) (v := .int .i64 (2 + (c1 : Int))) rfl (by kernel_rfl) (by kernel_rfl) (by kernel_rfl) (fun _ _ _ h => h) (Or.inl ⟨by rfl, fun w hSw => ?_⟩) (by exact HSd.out) ?_
              · (try dsimp only at hSw); obtain ⟨s1, s2, s3⟩ := hSw; go_simp
              try simp only [Act.put, List.setIfInBounds_toArray, List.set_cons_zero, List.set_cons_succ, List.getElem_toArray, List.getElem_cons_zero, List.getElem_cons_succ]
              refine wpAnyH_take (i := 11) (v := .map (some b)) rfl (by kernel_rfl) (by kernel_rfl) (by kernel_rfl) (fun _ _ _ h => h) (Or.inl ⟨by rfl, fun w hSw => ?_⟩) (by exact HSd.out) ?_
              · (try dsimp only at hSw); obtain ⟨s1, s2, s3⟩ := hSw; go_simp
              try simp only [Act.put, List.setIfInBounds_toArray, List.set_cons_zero, List.set_cons_succ, List.getElem_toArray, List.getElem_cons_zero, List.getElem_cons_succ]
              refine wpAnyH_take (i := 12) (v := .int .i64 (i : Int)) rfl (by kernel_rfl) (by kernel_rfl) (by kernel_rfl) (fun _ _ _ h => h) (Or.inl ⟨by rfl, fun w hSw => ?_⟩) (by exact HSd.out) ?_
              · (try dsimp only at hSw); obtain ⟨s1, s2, s3⟩ := hSw; go_simp
              try simp only [Act.put, List.setIfInBounds_toArray, List.set_cons_zero, List.set_cons_succ, List.getElem_toArray, List.getElem_cons_zero, List.getElem_cons_succ]
              refine wpAnyH_take (i := 13) (v := .int .i64 (k : Int)) rfl (by kernel_rfl) (by kernel_rfl) (by kernel_rfl) (fun _ _ _ h => h) (Or.inl ⟨by rfl, fun w hSw => ?_⟩) (by exact HSd.out) ?_
              · (try dsimp only at hSw); obtain ⟨s1, s2, s3⟩ := hSw; go_simp
              try simp only [Act.put, List.setIfInBounds_toArray, List.set_cons_zero, List.set_cons_succ, List.getElem_toArray, List.getElem_cons_zero, List.getElem_cons_succ]
              refine wpAnyH_take (i := 14) (v := .int .i64 ((k : Int) + 1)) rfl (by kernel_rfl) (by kernel_rfl) (by kernel_rfl) (fun _ _ _ h => h) (Or.inl ⟨by rfl, fun w hSw => ?_⟩) (by exact HSd.out) ?_
              · (try dsimp only at hSw); obtain ⟨s1, s2, s3⟩ := hSw; go_simp
              try simp only [Act.put, List.setIfInBounds_toArray, List.set_cons_zero, List.set_cons_succ, List.getElem_toArray, List.getElem_cons_zero, List.getElem_cons_succ]
              refine wpAnyH_take (i := 15) (v := .agg #[.int .i64 (i : Int), .int .i64 ((k : Int) + 1)]) rfl (by kernel_rfl) (by kernel_rfl) (by kernel_rfl) (fun _ _ _ h => h) (Or.inl ⟨by rfl, fun w hSw => ?_⟩) (by exact HSd.out) ?_
              · (try dsimp only at hSw); obtain ⟨s1, s2, s3⟩ := hSw; go_simp
              try simp only [Act.put, List.setIfInBounds_toArray, List.set_cons_zero, List.set_cons_succ, List.getElem_toArray, List.getElem_cons_zero, List.getElem_cons_succ]
              refine wpAnyH_take (i := 16) (v := .int .i64 (c2 : Int)) rfl (by kernel_rfl) (by kernel_rfl) (by kernel_rfl) (fun _ _ _ h => h) (Or.inl ⟨by rfl, fun w hSw => ?_⟩) (by exact HSd.out) ?_
              · (try dsimp only at hSw); obtain ⟨s1, s2, s3⟩ := hSw; go_simp
              try simp only [Act.put, List.setIfInBounds_toArray, List.set_cons_zero, List.set_cons_succ, List.getElem_toArray, List.getElem_cons_zero, List.getElem_cons_succ]
              refine wpAnyH_take (i := 17) (v := .int .i64 (2 + (c2 : Int))) rfl (by kernel_rfl) (by kernel_rfl) (by kernel_rfl) (fun _ _ _ h => h) (Or.inl ⟨by rfl, fun w hSw => ?_⟩) (by exact HSd.out) ?_
              · (try dsimp only at hSw); obtain ⟨s1, s2, s3⟩ := hSw; go_simp
              try simp only [Act.put, List.setIfInBounds_toArray, List.set_cons_zero, List.set_cons_succ, List.getElem_toArray, List.getElem_cons_zero, List.getElem_cons_succ]
              refine wpAnyH_take (i := 18) (v := .string A) rfl (by kernel_rfl) (by kernel_rfl) (by kernel_rfl) (fun _ _ _ h => h) (Or.inl ⟨by rfl, fun w hSw => ?_⟩) (by exact HSd.out) ?_
              · (try dsimp only at hSw); obtain ⟨s1, s2, s3⟩ := hSw; go_simp
              try simp only [Act.put, List.setIfInBounds_toArray, List.set_cons_zero, List.set_cons_succ, List.getElem_toArray, List.getElem_cons_zero, List.getElem_cons_succ]
              refine wpAnyH_take (i := 19) (v := .string B) rfl (by kernel_rfl) (by kernel_rfl) (by kernel_rfl) (fun _ _ _ h => h) (Or.inl ⟨by rfl, fun w hSw => ?_⟩) (by exact HSd.out) ?_
              · (try dsimp only at hSw); obtain ⟨s1, s2, s3⟩ := hSw; go_simp
              try simp only [Act.put, List.setIfInBounds_toArray, List.set_cons_zero, List.set_cons_succ, List.getElem_toArray, List.getElem_cons_zero, List.getElem_cons_succ]
              refine wpAnyH_take (i := 20) (v := .int .i64 (i : Int)) rfl (by kernel_rfl) (by kernel_rfl) (by kernel_rfl) (fun _ _ _ h => h) (Or.inl ⟨by rfl, fun w hSw => ?_⟩) (by exact HSd.out) ?_
              · (try dsimp only at hSw); obtain ⟨s1, s2, s3⟩ := hSw; go_simp
              try simp only [Act.put, List.setIfInBounds_toArray, List.set_cons_zero, List.set_cons_succ, List.getElem_toArray, List.getElem_cons_zero, List.getElem_cons_succ]
              refine wpAnyH_take (i := 21) (v := .int .i64 (k : Int)) rfl (by kernel_rfl) (by kernel_rfl) (by kernel_rfl) (fun _ _ _ h => h) (Or.inl ⟨by rfl, fun w hSw => ?_⟩) (by exact HSd.out) ?_
              · (try dsimp only at hSw); obtain ⟨s1, s2, s3⟩ := hSw; go_simp
              try simp only [Act.put, List.setIfInBounds_toArray, List.set_cons_zero, List.set_cons_succ, List.getElem_toArray, List.getElem_cons_zero, List.getElem_cons_succ]
              refine wpAnyH_take (i := 23) (v := .map (some b)) rfl (by kernel_rfl) (by kernel_rfl) (by kernel_rfl) (fun _ _ _ h => h) (Or.inl ⟨by rfl, fun w hSw => ?_⟩) (by exact HSd.out) ?_
              · (try dsimp only at hSw); obtain ⟨s1, s2, s3⟩ := hSw; go_simp
              try simp only [Act.put, List.setIfInBounds_toArray, List.set_cons_zero, List.set_cons_succ, List.getElem_toArray, List.getElem_cons_zero, List.getElem_cons_succ]
              refine wpAnyH_take (i := 24) (v := .int .i64 (i : Int)) rfl (by kernel_rfl) (by kernel_rfl) (by kernel_rfl) (fun _ _ _ h => h) (Or.inl ⟨by rfl, fun w hSw => ?_⟩) (by exact HSd.out) ?_
              · (try dsimp only at hSw); obtain ⟨s1, s2, s3⟩ := hSw; go_simp
              try simp only [Act.put, List.setIfInBounds_toArray, List.set_cons_zero, List.set_cons_succ, List.getElem_toArray, List.getElem_cons_zero, List.getElem_cons_succ]
              refine wpAnyH_take (i := 25) (v := .int .i64 ((i : Int) + 1)) rfl (by kernel_rfl) (by kernel_rfl) (by kernel_rfl) (fun _ _ _ h => h) (Or.inl ⟨by rfl, fun w hSw => ?_⟩) (by exact HSd.out) ?_
              · (try dsimp only at hSw); obtain ⟨s1, s2, s3⟩ := hSw; go_simp
              try simp only [Act.put, List.setIfInBounds_toArray, List.set_cons_zero, List.set_cons_succ, List.getElem_toArray, List.getElem_cons_zero, List.getElem_cons_succ]
              refine wpAnyH_take (i := 26) (v := .int .i64 (k : Int)) rfl (by kernel_rfl) (by kernel_rfl) (by kernel_rfl) (fun _ _ _ h => h) (Or.inl ⟨by rfl, fun w hSw => ?_⟩) (by exact HSd.out) ?_
              · (try dsimp only at hSw); obtain ⟨s1, s2, s3⟩ := hSw; go_simp
              try simp only [Act.put, List.setIfInBounds_toArray, List.set_cons_zero, List.set_cons_succ, List.getElem_toArray, List.getElem_cons_zero, List.getElem_cons_succ]
              refine wpAnyH_take (i := 27) (v := .int .i64 ((k : Int) + 1)) rfl (by kernel_rfl) (by kernel_rfl) (by kernel_rfl) (fun _ _ _ h => h) (Or.inl ⟨by rfl, fun w hSw => ?_⟩) (by exact HSd.out) ?_
              · (try dsimp only at hSw); obtain ⟨s1, s2, s3⟩ := hSw; go_simp
              try simp only [Act.put, List.setIfInBounds_toArray, List.set_cons_zero, List.set_cons_succ, List.getElem_toArray, List.getElem_cons_zero, List.getElem_cons_succ]
              refine wpAnyH_take (i := 28) (v := .agg #[.int .i64 ((i : Int) + 1), .int .i64 ((k : Int) + 1)]) rfl (by kernel_rfl) (by kernel_rfl) (by kernel_rfl) (fun _ _ _ h => h) (Or.inl ⟨by rfl, fun w hSw => ?_⟩) (by exact HSd.out) ?_
              · (try dsimp only at hSw); obtain ⟨s1, s2, s3⟩ := hSw; go_simp
              try simp only [Act.put, List.setIfInBounds_toArray, List.set_cons_zero, List.set_cons_succ, List.getElem_toArray, List.getElem_cons_zero, List.getElem_cons_succ]
              refine wpAnyH_take (i := 29) (v := .int .i64 (c3 : Int)) rfl (by kernel_rfl) (by kernel_rfl) (by kernel_rfl) (fun _ _ _ h => h) (Or.inl ⟨by rfl, fun w hSw => ?_⟩) (by exact HSd.out) ?_
              · (try dsimp only at hSw); obtain ⟨s1, s2, s3⟩ := hSw; go_simp
              try simp only [Act.put, List.setIfInBounds_toArray, List.set_cons_zero, List.set_cons_succ, List.getElem_toArray, List.getElem_cons_zero, List.getElem_cons_succ]
              refine wpAnyH_ready (rs := [22]) (by kernel_rfl) (by simp) (AllReadyH.cons rfl (fun K hK => ?_) AllReadyH.nil)
              go_simp
              (go_at_call 25; refine (HDc.out _).mono ?_; rintro e w5 ⟨rfl, hb5⟩; have HM5 := hid (HMd.out.below hb5); have HS5 := hid (HS.out w5 HM5.out); obtain ⟨w6, hrun, hz6, hg6⟩ := HM5.out.store hNl _ HOk.out (c0 : Int) HCb.out; have hrun : (Instr.mapUpdate 56 (.map (some b)) (.agg #[.int .i64 (i : Int), .int .i64 (k : Int)]) (.int .i64 (c0 : Int))).run Tryz.prog w5 = .ok () w6 := hrun; have HZ6 := hid hz6; have HB6 := hid ((HBd.out.trans (hb5.mono hbd)).grown hg6 (by have := HM5.out.lt; omega) (fun k hk => by cases hk; exact Nat.le_refl _)); clear hb5 hz6 hg6)
              try go_wp2_with fail
              refine hK.out _ _ HS5.out (fun hHeld2 => ?_)
              clear hK K hHeld2
              try simp only [Act.put, List.setIfInBounds_toArray, List.set_cons_zero, List.set_cons_succ, List.getElem_toArray, List.getElem_cons_zero, List.getElem_cons_succ]
              refine wpAnyH_take (i := 30) (v := .int .i64 ((d : Int) + (c3 : Int))) rfl (by kernel_rfl) (by kernel_rfl) (by kernel_rfl) (fun _ _ _ h => h) (Or.inl ⟨by rfl, fun w hSw => ?_⟩) (by exact HS5.out) ?_
              · (try dsimp only at hSw); obtain ⟨s1, s2, s3⟩ := hSw; go_simp
              try simp only [Act.put, List.setIfInBounds_toArray, List.set_cons_zero, List.set_cons_succ, List.getElem_toArray, List.getElem_cons_zero, List.getElem_cons_succ]
              refine wpAnyH_take (i := 31) (v := .int .i64 (c0 : Int)) rfl (by kernel_rfl) (by kernel_rfl) (by kernel_rfl) (fun _ _ _ h => h) (Or.inl ⟨by rfl, fun w hSw => ?_⟩) (by exact HS5.out) ?_
              · (try dsimp only at hSw); obtain ⟨s1, s2, s3⟩ := hSw; go_simp
              try simp only [Act.put, List.setIfInBounds_toArray, List.set_cons_zero, List.set_cons_succ, List.getElem_toArray, List.getElem_cons_zero, List.getElem_cons_succ]
              refine wpAnyH_ready (rs := [32]) (by kernel_rfl) (by simp) (AllReadyH.cons rfl (fun K hK => ?_) AllReadyH.nil)
              go_simp
              refine hK.out _ _ (HS6.out w6 HZ6.out) (fun hHeld3 => ?_)
              clear hK K hHeld3
              try simp only [Act.put, List.setIfInBounds_toArray, List.set_cons_zero, List.set_cons_succ, List.getElem_toArray, List.getElem_cons_zero, List.getElem_cons_succ]
              refine wpAnyH_done (by kernel_rfl) ?_ _
              go_wp2
              go_roundw
              case rel => exact ⟨k, N2 + 1, _, by omega, rfl, hid (by have := HK.out; omega), HZ6, HP2, HB6⟩
              case measure => simp [intOf]
end Go.Proofs.YtcobdmenigpipaaGreatDoor
