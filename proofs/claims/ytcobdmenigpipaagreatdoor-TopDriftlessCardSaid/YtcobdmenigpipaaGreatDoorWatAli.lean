/-
  watermark.align at words of one length that differ at three places at most: each letter lies at its own place.
  Words of at most 256 letters.
-/
import Derived.Test.YtcobdmenigpipaaGreatDoorWatCost
import Derived.RangeFuncBox
namespace Go.Proofs.YtcobdmenigpipaaGreatDoor
open Go.RowKit Go.Deep
set_option linter.unusedVariables false
set_option linter.unusedSimpArgs false

def diagL (n : Nat) : List Int := (List.range n).map fun j : Nat => (j : Int)
theorem diagL_succ (n : Nat) : ints (diagL (n + 1)) = ints (diagL n) ++ [.int .i64 (n : Int)] := by simp [diagL, ints, List.range_succ]
theorem diagL_len (n : Nat) : (diagL n).length = n := by simp [diagL]
def fromV (Bm Br Bc Bo Bf : Nat) : Value := .func (.func 53) #[] #[.pointer (some ⟨Bm, 0, none⟩), .pointer (some ⟨Br, 0, none⟩), .pointer (some ⟨Bc, 0, none⟩), .pointer (some ⟨Bo, 0, none⟩), .pointer (some ⟨Bf, 0, none⟩)]
/-- What the closure reads: the words, the costs, itself. -/
structure AH (w : World) (Bm Br Bc Bo Bf b : Nat) (A B : ByteArray) (f : Rst → Int) : Prop where
  m : w.cell? ⟨Bm, 0, none⟩ = some (.string A)
  r : w.cell? ⟨Br, 0, none⟩ = some (.string B)
  c : w.cell? ⟨Bc, 0, none⟩ = some (.map (some b))
  fn : w.cell? ⟨Bf, 0, none⟩ = some (fromV Bm Br Bc Bo Bf)
  rz : RZ w b 70000 f
  fz : w.frozen? ⟨Bo, 0, none⟩ = false
  lt : Bo < w.heap.size
theorem AH.below {w w' : World} {Bm Br Bc Bo Bf b : Nat} {A B : ByteArray} {f : Rst → Int} (h : AH w Bm Br Bc Bo Bf b A B f) (hb : Below w.heap.size w w') : AH w' Bm Br Bc Bo Bf b A B f := by
  obtain ⟨h1, h2, h3, h4, h5, h6, h7⟩ := h
  refine ⟨keeps hb h1, keeps hb h2, keeps hb h3, keeps hb h4, h5.below hb, ?_, Nat.lt_of_lt_of_le h7 hb.size⟩
  exact (World.frozen?_of_block (a := ⟨Bo, 0, none⟩) (hb.block Bo h7)).trans h6
theorem AH.belB {w w' : World} {Bm Br Bc Bo Bf b S : Nat} {A B : ByteArray} {f : Rst → Int} (h : AH w Bm Br Bc Bo Bf b A B f) (hb : BelB S Bo w w') (h1 : Bm < S ∧ Bm ≠ Bo) (h2 : Br < S ∧ Br ≠ Bo) (h3 : Bc < S ∧ Bc ≠ Bo) (h4 : Bf < S ∧ Bf ≠ Bo) (h5 : b < S ∧ b ≠ Bo) (hz : w'.frozen? ⟨Bo, 0, none⟩ = false) : AH w' Bm Br Bc Bo Bf b A B f :=
  ⟨hb.cell h.m h1.1 h1.2, hb.cell h.r h2.1 h2.2, hb.cell h.c h3.1 h3.2, hb.cell h.fn h4.1 h4.2, h.rz.same (hb.2.2.2.2 b h5.1 h5.2), hz, Nat.lt_of_lt_of_le h.lt hb.2.2.2.1⟩
/-- The places of the captured variables. -/
def Places (Bm Br Bc Bo Bf b S : Nat) : Prop := (Bm < S ∧ Bm ≠ Bo) ∧ (Br < S ∧ Br ≠ Bo) ∧ (Bc < S ∧ Bc ≠ Bo) ∧ (Bf < S ∧ Bf ≠ Bo) ∧ (b < S ∧ b ≠ Bo) ∧ Bo < S
set_option maxRecDepth 100000 in
set_option maxHeartbeats 4000000 in
theorem from_any (A B : ByteArray) (Bm Br Bc Bo Bf b S : Nat) (f : Rst → Int) (hA : A.size ≤ 256) (hl : A.size = B.size) (hd : distL A.data.toList B.data.toList ≤ 3) (hf : CostF A.data.toList B.data.toList f) (hP : Places Bm Br Bc Bo Bf b S) :
    ∀ (j i : Nat) (u : Value) (w : World), i + j = A.size → AH w Bm Br Bc Bo Bf b A B f → w.cell? ⟨Bo, 0, none⟩ = some u → w.ownsRow S 3 1 u i (ints (diagL i)) → S ≤ w.heap.size →
      Calls Tryz.prog 53 #[.int .i64 (i : Int), .int .i64 (i : Int), .pointer (some ⟨Bm, 0, none⟩), .pointer (some ⟨Br, 0, none⟩), .pointer (some ⟨Bc, 0, none⟩), .pointer (some ⟨Bo, 0, none⟩), .pointer (some ⟨Bf, 0, none⟩)] w fun e w' =>
        e = .returned (.tuple #[]) ∧ ∃ u', w'.cell? ⟨Bo, 0, none⟩ = some u' ∧ w'.ownsRow S 3 1 u' A.size (ints (diagL A.size)) ∧ BelB S Bo w w'
  | 0, i, u, w, hj, hH, ho, hu, hS => by
    obtain rfl : i = A.size := by omega
    have c1 := hH.m
    have HU := hid hu
    clear hf hd hP
    go_enter Tryz.func53, Tryz.ntmps53
    go_wp2
    refine bodyPost_ret (v := .tuple #[]) ?_ rfl ⟨rfl, u, ho, HU.out, BelB.refl _ _ _⟩
    simp [results, Tryz.results53, go_sem]
  | j + 1, i, u, w, hj, hH, ho, hu, hS => by
    have hlA : A.data.toList.length = A.size := by simp
    have hlB : B.data.toList.length = B.size := by simp
    have hll : A.data.toList.length = B.data.toList.length := by omega
    obtain ⟨a, ha⟩ := some_of_lt (show i < A.data.toList.length by omega)
    obtain ⟨c, hc⟩ := some_of_lt (show i < B.data.toList.length by omega)
    have hfit := diag_fits hll hd ha hc
    have v0 := hf i i (by omega) (by omega)
    have v3 := hf (i + 1) (i + 1) (by omega) (by omega)
    have u0 := costAt_le A.data.toList B.data.toList i i
    have u3 := costAt_le A.data.toList B.data.toList (i + 1) (i + 1)
    have u4 := dif8_le a c
    have IH := hid (from_any A B Bm Br Bc Bo Bf b S f hA hl hd hf hP j (i + 1))
    have HDc := hid (fun X => differ_any A B i i a c X ha hc)
    have HP := hid hP
    rw [hlA, hlB] at u0 u3
    have HU := hid hu
    have HH := hid hH
    clear hf hd ha hc hll hlA hlB hP
    generalize costAt A.data.toList B.data.toList i i = c0 at *
    generalize costAt A.data.toList B.data.toList (i + 1) (i + 1) = c3 at *
    generalize dif8 a c = d at *
    have heq : ((d : Int) + (c3 : Int) == (c0 : Int)) = true := by rw [beq_iff_eq]; omega
    have HSf := hid (fun (X : World) (h : AH X Bm Br Bc Bo Bf b A B f) => (show X.cell? ⟨Bm, 0, none⟩ = some (.string A) ∧ X.cell? ⟨Br, 0, none⟩ = some (.string B) ∧ X.cell? ⟨Bc, 0, none⟩ = some (.map (some b)) ∧ (Instr.lookup 56 (.map (some b)) (.agg #[.int .i64 ((i : Int) + 1), .int .i64 ((i : Int) + 1)]) false).run Tryz.prog X = .ok (.int .i64 (c3 : Int)) X ∧ (Instr.lookup 56 (.map (some b)) (.agg #[.int .i64 (i : Int), .int .i64 (i : Int)]) false).run Tryz.prog X = .ok (.int .i64 (c0 : Int)) X from by
      have l3 := h.rz.look _ (okRst (i := i + 1) (k := i + 1) (by omega) (by omega))
      have l0 := h.rz.look _ (okRst (i := i) (k := i) (by omega) (by omega))
      rw [v3] at l3
      rw [v0] at l0
      exact ⟨h.m, h.r, h.c, l3, l0⟩))
    have hiA : (i : Int) < (A.size : Int) := by omega
    have hiB : (i : Int) < (B.size : Int) := by omega
    have hne : ((i : Int) == (A.size : Int)) = false := by rw [beq_eq_false_iff_ne]; omega
    have c1 := hH.m
    have c2 := hH.r
    have r1 : IntKind.i64.wrap ((i : Int) + 1) = (i : Int) + 1 := IntWalk.i64_in _ (by omega)
    have r5 : IntKind.i64.wrap ((d : Int) + (c3 : Int)) = (d : Int) + (c3 : Int) := IntWalk.i64_in _ (by omega)
    have hi256 : i ≤ 256 := by omega
    have r0 : IntKind.i64.wrap 0 = 0 := rfl
    have r6 : IntKind.i64.wrap (d : Int) = (d : Int) := IntWalk.i64_in _ (by omega)
    obtain ⟨au, cu, rfl⟩ := own_slice hu
    clear v0 v3 hfit
    go_enter Tryz.func53, Tryz.ntmps53
    go_wp2_with fail
    go_loopw [9] (fun x wr => x = .int .i64 (i : Int) ∧ w = wr) (fun _ _ => 1)
    case atStart => exact ⟨rfl, rfl⟩
    case round =>
      rename World => wq
      obtain ⟨rfl, hw⟩ := hrel
      subst hw
      go_upto_region 4 with fail
      have HHd := hid (show AH w.drew Bm Br Bc Bo Bf b A B f from HH.out.below (below_drewN (Below.refl _ w) 1))
      have HSd := hid (HSf.out w.drew HHd.out)
      refine wp_region_held_drew (S := fun w' => w'.cell? ⟨Bm, 0, none⟩ = some (.string A) ∧ w'.cell? ⟨Br, 0, none⟩ = some (.string B) ∧ w'.cell? ⟨Bc, 0, none⟩ = some (.map (some b)) ∧ (Instr.lookup 56 (.map (some b)) (.agg #[.int .i64 ((i : Int) + 1), .int .i64 ((i : Int) + 1)]) false).run Tryz.prog w' = .ok (.int .i64 (c3 : Int)) w' ∧ (Instr.lookup 56 (.map (some b)) (.agg #[.int .i64 (i : Int), .int .i64 (i : Int)]) false).run Tryz.prog w' = .ok (.int .i64 (c0 : Int)) w') (by kernel_rfl) HSd.out (fun hHeld => ?_)
      clear hHeld
      refine wpAnyH_take (i := 0) (v := .int .i64 (i : Int)) rfl (by kernel_rfl) (by kernel_rfl) (by kernel_rfl) (fun _ _ _ h => h) (Or.inl ⟨by rfl, fun w hSw => ?_⟩) (by exact HSd.out) ?_
      · (try dsimp only at hSw); obtain ⟨s1, s2, s3, s4, s5⟩ := hSw; go_simp
      try simp only [Act.put, List.setIfInBounds_toArray, List.set_cons_zero, List.set_cons_succ, List.getElem_toArray, List.getElem_cons_zero, List.getElem_cons_succ]
      refine wpAnyH_take (i := 1) (v := .int .i64 (i : Int)) rfl (by kernel_rfl) (by kernel_rfl) (by kernel_rfl) (fun _ _ _ h => h) (Or.inl ⟨by rfl, fun w hSw => ?_⟩) (by exact HSd.out) ?_
      · (try dsimp only at hSw); obtain ⟨s1, s2, s3, s4, s5⟩ := hSw; go_simp
      try simp only [Act.put, List.setIfInBounds_toArray, List.set_cons_zero, List.set_cons_succ, List.getElem_toArray, List.getElem_cons_zero, List.getElem_cons_succ]
      refine wpAnyH_take (i := 2) (v := .int .i64 0) rfl (by kernel_rfl) (by kernel_rfl) (by kernel_rfl) (fun _ _ _ h => h) (Or.inl ⟨by rfl, fun w hSw => ?_⟩) (by exact HSd.out) ?_
      · (try dsimp only at hSw); obtain ⟨s1, s2, s3, s4, s5⟩ := hSw; go_simp
      try simp only [Act.put, List.setIfInBounds_toArray, List.set_cons_zero, List.set_cons_succ, List.getElem_toArray, List.getElem_cons_zero, List.getElem_cons_succ]
      refine wpAnyH_take (i := 3) (v := .int .i64 0) rfl (by kernel_rfl) (by kernel_rfl) (by kernel_rfl) (fun _ _ _ h => h) (Or.inl ⟨by rfl, fun w hSw => ?_⟩) (by exact HSd.out) ?_
      · (try dsimp only at hSw); obtain ⟨s1, s2, s3, s4, s5⟩ := hSw; go_simp
      try simp only [Act.put, List.setIfInBounds_toArray, List.set_cons_zero, List.set_cons_succ, List.getElem_toArray, List.getElem_cons_zero, List.getElem_cons_succ]
      refine wpAnyH_take (i := 4) (v := .string A) rfl (by kernel_rfl) (by kernel_rfl) (by kernel_rfl) (fun _ _ _ h => h) (Or.inl ⟨by rfl, fun w hSw => ?_⟩) (by exact HSd.out) ?_
      · (try dsimp only at hSw); obtain ⟨s1, s2, s3, s4, s5⟩ := hSw; go_simp
      try simp only [Act.put, List.setIfInBounds_toArray, List.set_cons_zero, List.set_cons_succ, List.getElem_toArray, List.getElem_cons_zero, List.getElem_cons_succ]
      refine wpAnyH_take (i := 5) (v := .string B) rfl (by kernel_rfl) (by kernel_rfl) (by kernel_rfl) (fun _ _ _ h => h) (Or.inl ⟨by rfl, fun w hSw => ?_⟩) (by exact HSd.out) ?_
      · (try dsimp only at hSw); obtain ⟨s1, s2, s3, s4, s5⟩ := hSw; go_simp
      try simp only [Act.put, List.setIfInBounds_toArray, List.set_cons_zero, List.set_cons_succ, List.getElem_toArray, List.getElem_cons_zero, List.getElem_cons_succ]
      refine wpAnyH_take (i := 6) (v := .int .i64 (i : Int)) rfl (by kernel_rfl) (by kernel_rfl) (by kernel_rfl) (fun _ _ _ h => h) (Or.inl ⟨by rfl, fun w hSw => ?_⟩) (by exact HSd.out) ?_
      · (try dsimp only at hSw); obtain ⟨s1, s2, s3, s4, s5⟩ := hSw; go_simp
      try simp only [Act.put, List.setIfInBounds_toArray, List.set_cons_zero, List.set_cons_succ, List.getElem_toArray, List.getElem_cons_zero, List.getElem_cons_succ]
      refine wpAnyH_take (i := 7) (v := .int .i64 (i : Int)) rfl (by kernel_rfl) (by kernel_rfl) (by kernel_rfl) (fun _ _ _ h => h) (Or.inl ⟨by rfl, fun w hSw => ?_⟩) (by exact HSd.out) ?_
      · (try dsimp only at hSw); obtain ⟨s1, s2, s3, s4, s5⟩ := hSw; go_simp
      try simp only [Act.put, List.setIfInBounds_toArray, List.set_cons_zero, List.set_cons_succ, List.getElem_toArray, List.getElem_cons_zero, List.getElem_cons_succ]
      refine wpAnyH_take (i := 10) (v := .map (some b)) rfl (by kernel_rfl) (by kernel_rfl) (by kernel_rfl) (fun _ _ _ h => h) (Or.inl ⟨by rfl, fun w hSw => ?_⟩) (by exact HSd.out) ?_
      · (try dsimp only at hSw); obtain ⟨s1, s2, s3, s4, s5⟩ := hSw; go_simp
      try simp only [Act.put, List.setIfInBounds_toArray, List.set_cons_zero, List.set_cons_succ, List.getElem_toArray, List.getElem_cons_zero, List.getElem_cons_succ]
      refine wpAnyH_take (i := 11) (v := .int .i64 (i : Int)) rfl (by kernel_rfl) (by kernel_rfl) (by kernel_rfl) (fun _ _ _ h => h) (Or.inl ⟨by rfl, fun w hSw => ?_⟩) (by exact HSd.out) ?_
      · (try dsimp only at hSw); obtain ⟨s1, s2, s3, s4, s5⟩ := hSw; go_simp
      try simp only [Act.put, List.setIfInBounds_toArray, List.set_cons_zero, List.set_cons_succ, List.getElem_toArray, List.getElem_cons_zero, List.getElem_cons_succ]
      refine wpAnyH_take (i := 12) (v := .int .i64 ((i : Int) + 1)) rfl (by kernel_rfl) (by kernel_rfl) (by kernel_rfl) (fun _ _ _ h => h) (Or.inl ⟨by rfl, fun w hSw => ?_⟩) (by exact HSd.out) ?_
      · (try dsimp only at hSw); obtain ⟨s1, s2, s3, s4, s5⟩ := hSw; go_simp
      try simp only [Act.put, List.setIfInBounds_toArray, List.set_cons_zero, List.set_cons_succ, List.getElem_toArray, List.getElem_cons_zero, List.getElem_cons_succ]
      refine wpAnyH_take (i := 13) (v := .int .i64 (i : Int)) rfl (by kernel_rfl) (by kernel_rfl) (by kernel_rfl) (fun _ _ _ h => h) (Or.inl ⟨by rfl, fun w hSw => ?_⟩) (by exact HSd.out) ?_
      · (try dsimp only at hSw); obtain ⟨s1, s2, s3, s4, s5⟩ := hSw; go_simp
      try simp only [Act.put, List.setIfInBounds_toArray, List.set_cons_zero, List.set_cons_succ, List.getElem_toArray, List.getElem_cons_zero, List.getElem_cons_succ]
      refine wpAnyH_take (i := 14) (v := .int .i64 ((i : Int) + 1)) rfl (by kernel_rfl) (by kernel_rfl) (by kernel_rfl) (fun _ _ _ h => h) (Or.inl ⟨by rfl, fun w hSw => ?_⟩) (by exact HSd.out) ?_
      · (try dsimp only at hSw); obtain ⟨s1, s2, s3, s4, s5⟩ := hSw; go_simp
      try simp only [Act.put, List.setIfInBounds_toArray, List.set_cons_zero, List.set_cons_succ, List.getElem_toArray, List.getElem_cons_zero, List.getElem_cons_succ]
      refine wpAnyH_take (i := 15) (v := .agg #[.int .i64 ((i : Int) + 1), .int .i64 ((i : Int) + 1)]) rfl (by kernel_rfl) (by kernel_rfl) (by kernel_rfl) (fun _ _ _ h => h) (Or.inl ⟨by rfl, fun w hSw => ?_⟩) (by exact HSd.out) ?_
      · (try dsimp only at hSw); obtain ⟨s1, s2, s3, s4, s5⟩ := hSw; go_simp
      try simp only [Act.put, List.setIfInBounds_toArray, List.set_cons_zero, List.set_cons_succ, List.getElem_toArray, List.getElem_cons_zero, List.getElem_cons_succ]
      refine wpAnyH_take (i := 16) (v := .int .i64 (c3 : Int)) rfl (by kernel_rfl) (by kernel_rfl) (by kernel_rfl) (fun _ _ _ h => h) (Or.inl ⟨by rfl, fun w hSw => ?_⟩) (by exact HSd.out) ?_
      · (try dsimp only at hSw); obtain ⟨s1, s2, s3, s4, s5⟩ := hSw; go_simp
      try simp only [Act.put, List.setIfInBounds_toArray, List.set_cons_zero, List.set_cons_succ, List.getElem_toArray, List.getElem_cons_zero, List.getElem_cons_succ]
      refine wpAnyH_take (i := 18) (v := .map (some b)) rfl (by kernel_rfl) (by kernel_rfl) (by kernel_rfl) (fun _ _ _ h => h) (Or.inl ⟨by rfl, fun w hSw => ?_⟩) (by exact HSd.out) ?_
      · (try dsimp only at hSw); obtain ⟨s1, s2, s3, s4, s5⟩ := hSw; go_simp
      try simp only [Act.put, List.setIfInBounds_toArray, List.set_cons_zero, List.set_cons_succ, List.getElem_toArray, List.getElem_cons_zero, List.getElem_cons_succ]
      refine wpAnyH_take (i := 19) (v := .int .i64 (i : Int)) rfl (by kernel_rfl) (by kernel_rfl) (by kernel_rfl) (fun _ _ _ h => h) (Or.inl ⟨by rfl, fun w hSw => ?_⟩) (by exact HSd.out) ?_
      · (try dsimp only at hSw); obtain ⟨s1, s2, s3, s4, s5⟩ := hSw; go_simp
      try simp only [Act.put, List.setIfInBounds_toArray, List.set_cons_zero, List.set_cons_succ, List.getElem_toArray, List.getElem_cons_zero, List.getElem_cons_succ]
      refine wpAnyH_take (i := 20) (v := .int .i64 (i : Int)) rfl (by kernel_rfl) (by kernel_rfl) (by kernel_rfl) (fun _ _ _ h => h) (Or.inl ⟨by rfl, fun w hSw => ?_⟩) (by exact HSd.out) ?_
      · (try dsimp only at hSw); obtain ⟨s1, s2, s3, s4, s5⟩ := hSw; go_simp
      try simp only [Act.put, List.setIfInBounds_toArray, List.set_cons_zero, List.set_cons_succ, List.getElem_toArray, List.getElem_cons_zero, List.getElem_cons_succ]
      refine wpAnyH_take (i := 21) (v := .agg #[.int .i64 (i : Int), .int .i64 (i : Int)]) rfl (by kernel_rfl) (by kernel_rfl) (by kernel_rfl) (fun _ _ _ h => h) (Or.inl ⟨by rfl, fun w hSw => ?_⟩) (by exact HSd.out) ?_
      · (try dsimp only at hSw); obtain ⟨s1, s2, s3, s4, s5⟩ := hSw; go_simp
      try simp only [Act.put, List.setIfInBounds_toArray, List.set_cons_zero, List.set_cons_succ, List.getElem_toArray, List.getElem_cons_zero, List.getElem_cons_succ]
      refine wpAnyH_take (i := 22) (v := .int .i64 (c0 : Int)) rfl (by kernel_rfl) (by kernel_rfl) (by kernel_rfl) (fun _ _ _ h => h) (Or.inl ⟨by rfl, fun w hSw => ?_⟩) (by exact HSd.out) ?_
      · (try dsimp only at hSw); obtain ⟨s1, s2, s3, s4, s5⟩ := hSw; go_simp
      try simp only [Act.put, List.setIfInBounds_toArray, List.set_cons_zero, List.set_cons_succ, List.getElem_toArray, List.getElem_cons_zero, List.getElem_cons_succ]
      refine wpAnyH_ready (rs := [8]) (by kernel_rfl) (by simp) (AllReadyH.cons rfl (fun K hK => ?_) AllReadyH.nil)
      go_simp
      (go_at_call 25; refine (HDc.out _).mono ?_; rintro e w5 ⟨rfl, hb5⟩; have HH5 := hid (HHd.out.below hb5); have HS5 := hid (HSf.out w5 HH5.out); have HB5 := hid hb5; clear hb5)
      try go_wp2_with fail
      refine hK.out _ _ HS5.out (fun hHeld2 => ?_)
      clear hK K hHeld2
      try simp only [Act.put, List.setIfInBounds_toArray, List.set_cons_zero, List.set_cons_succ, List.getElem_toArray, List.getElem_cons_zero, List.getElem_cons_succ]
      refine wpAnyH_take (i := 9) (v := .int .i64 (d : Int)) rfl (by kernel_rfl) (by kernel_rfl) (by kernel_rfl) (fun _ _ _ h => h) (Or.inl ⟨by rfl, fun w hSw => ?_⟩) (by exact HS5.out) ?_
      · (try dsimp only at hSw); obtain ⟨s1, s2, s3, s4, s5⟩ := hSw; go_simp
      try simp only [Act.put, List.setIfInBounds_toArray, List.set_cons_zero, List.set_cons_succ, List.getElem_toArray, List.getElem_cons_zero, List.getElem_cons_succ]
      refine wpAnyH_take (i := 17) (v := .int .i64 ((d : Int) + (c3 : Int))) rfl (by kernel_rfl) (by kernel_rfl) (by kernel_rfl) (fun _ _ _ h => h) (Or.inl ⟨by rfl, fun w hSw => ?_⟩) (by exact HS5.out) ?_
      · (try dsimp only at hSw); obtain ⟨s1, s2, s3, s4, s5⟩ := hSw; go_simp
      try simp only [Act.put, List.setIfInBounds_toArray, List.set_cons_zero, List.set_cons_succ, List.getElem_toArray, List.getElem_cons_zero, List.getElem_cons_succ]
      refine wpAnyH_take (i := 23) (v := .bool true) rfl (by kernel_rfl) (by kernel_rfl) (by kernel_rfl) (fun _ _ _ h => h) (Or.inl ⟨by rfl, fun w hSw => ?_⟩) (by exact HS5.out) ?_
      · (try dsimp only at hSw); obtain ⟨s1, s2, s3, s4, s5⟩ := hSw; go_simp
      try simp only [Act.put, List.setIfInBounds_toArray, List.set_cons_zero, List.set_cons_succ, List.getElem_toArray, List.getElem_cons_zero, List.getElem_cons_succ]
      refine wpAnyH_done (by kernel_rfl) ?_ _
      clear r0 r1 r5 r6
      have HB5w := hid (show Below w.heap.size w w5 from (below_drewN (Below.refl w.heap.size w) 1).trans HB5.out)
      have ho5 := keeps HB5w.out ho
      have HU5 := hid (own_below HU.out HB5w.out)
      have hS5 : S ≤ w5.heap.size := Nat.le_trans hS HB5w.out.size
      have fz5 := HH5.out.fz
      have HPl := hid (show Bo < S from HP.out.2.2.2.2.2)
      go_upto_region 6 with (at_builtin; refine wpList_push w5 rfl _ _ 26 rfl S 3 (.int .i64 0) 1 8 Tryz.underlying26 Tryz.infoInt rfl (by decide) (.slice au i cu) i (ints (diagL i)) rfl HU5.out #[.int .i64 (i : Int)] rfl (oneCell_int _ _) rfl (by unfold maxLen; omega) (by omega) hS5 ?_; intro g7 gc7 w7 hown7 hg7 hb7; have HO7 := hid hown7; have HB7 := hid hb7; have ho7 := (HB7.out.cell (p := ⟨Bo, 0, none⟩) HPl.out).trans ho5; have fz7 := (World.frozen?_of_block (a := ⟨Bo, 0, none⟩) (HB7.out.block Bo HPl.out)).trans fz5; clear hown7 hg7 hb7)
      obtain ⟨w8, hw8⟩ : ∃ w8, w7.setCell ⟨Bo, 0, none⟩ (.slice (some ⟨g7, 0, none⟩) (i + 1) gc7) = w8 := ⟨_, rfl⟩
      have hz8 : w8.heap.size = w7.heap.size := by rw [← hw8]; simp
      have HBB := hid (show BelB S Bo w w8 by
        rw [← hw8]
        exact ((BelB.of (HB5w.out.mono hS)).trans (BelB.of HB7.out)).trans ⟨rfl, rfl, rfl, by simp, fun k _ hne => blk_setCell_other _ _ _ _ hne⟩)
      have c8 : w8.cell? ⟨Bo, 0, none⟩ = some (.slice (some ⟨g7, 0, none⟩) (i + 1) gc7) := by rw [← hw8]; exact World.cell?_setCell_same _ _ _ ho7
      have HU8 := hid (show w8.ownsRow S 3 1 (.slice (some ⟨g7, 0, none⟩) (i + 1) gc7) (i + 1) (ints (diagL (i + 1))) by rw [← hw8, diagL_succ]; exact ownsRow_setCell_below HO7.out HPl.out _)
      have fz8 : w8.frozen? ⟨Bo, 0, none⟩ = false := by rw [← hw8]; simpa using fz7
      have HH8 := hid (HH.out.belB HBB.out HP.out.1 HP.out.2.1 HP.out.2.2.1 HP.out.2.2.2.1 HP.out.2.2.2.2.1 fz8)
      have hS8 : S ≤ w8.heap.size := by rw [hz8]; exact Nat.le_trans hS5 HB7.out.size
      have hfn := HH8.out.fn
      unfold fromV at hfn
      rw [hw8]
      clear hw8 hz8 ho5 ho7 fz5 fz7 c1 c2
      go_wp2_with (go_at_call 53; refine (IH.out _ _ (by omega) HH8.out c8 HU8.out hS8).mono ?_; rintro e w9 ⟨rfl, u9, h9, ho9, hb9⟩)
      refine bodyPost_ret (v := .tuple #[]) ?_ rfl ⟨rfl, u9, h9, ho9, HBB.out.trans hb9⟩
      simp [results, Tryz.results53, go_sem]
end Go.Proofs.YtcobdmenigpipaaGreatDoor
