/-
  groovelaw45.apart and other: do two words lead to different states; a word with another letter at a place.
  The parser's rows lie in memory; the words are words over its letters.
-/
import Derived.Test.YtalklhjmnoodeaaParRun
import Derived.Test.YtalklhjmnoodeaaAgreeLaw
import Derived.Test.YtalklhjmnoodeaaDelay
namespace Go.Proofs.Ytalklhjmnoodeaa
open Go.RowKit Go.Deep
set_option linter.unusedVariables false

set_option maxRecDepth 100000 in
set_option maxHeartbeats 2000000 in
theorem apart_any (q : Nat) (ws : List ByteArray) (vS vN vE : Value) (x y : ByteArray) (w : World) (hP : PVal w vS vN vE (sizeW ws) q (stW ws) (nxI ws) (emI ws)) (hA : aErr q ws = 0) (hn : sizeW ws ≤ 1000) (hx : wordErr q x = 0) (hy : wordErr q y = 0) :
    Calls Try.prog 29 #[.agg #[.int .i64 (q : Int), vS, vN, vE], .string x, .string y] w fun e w' => e = .returned (.bool (!(runN (nxN ws) 0 x.data.toList == runN (nxN ws) 0 y.data.toList))) ∧ Below w.heap.size w w' := by
  have hm := mach_of hA
  have HR := hid (fun (z : ByteArray) (X : World) h hz => parRun_any q ws vS vN vE 0 z X h hA hm.pos hn hz)
  have HZ := hid (And.intro hx hy)
  have HP := hid hP
  obtain ⟨aS, cS, rfl, _⟩ := id hP.s
  obtain ⟨aN, cN, rfl, _, _⟩ := hP.nx.slice
  obtain ⟨aE, cE, rfl, _, _⟩ := hP.em.slice
  have hb : (((runN (nxN ws) 0 x.data.toList : Nat) : Int) != ((runN (nxN ws) 0 y.data.toList : Nat) : Int)) = (!(runN (nxN ws) 0 x.data.toList == runN (nxN ws) 0 y.data.toList)) := by
    rw [bne, Bool.not_inj_iff, Bool.eq_iff_iff, beq_iff_eq, beq_iff_eq]; omega
  clear hP hA hm hx hy
  go_enter Try.func29, Try.ntmps29
  go_upto_region 1 with fail
  obtain ⟨w0, hw0⟩ : ∃ w0, w.alloc (.cells #[.int .i64 (q : Int), .slice aS (sizeW ws) cS, .slice aN (sizeW ws) cN, .slice aE (sizeW ws) cE] 36) = w0 := ⟨_, rfl⟩
  obtain ⟨hb0, p0, p1, p2, p3⟩ := boxP hw0
  rw [hw0]
  have HB0 := hid hb0
  clear hw0 hb0
  go_upto_region 2 with (go_at_call 30; refine (HR.out x _ (HP.out.below HB0.out) HZ.out.1).mono ?_; rintro e w1 ⟨u, rfl, ho1, hb1⟩; obtain ⟨a1, c1, rfl⟩ := own_slice ho1; have HB1 := hid (bel_step HB0.out hb1); have p0 := keeps hb1 p0; have p1 := keeps hb1 p1; have p2 := keeps hb1 p2; have p3 := keeps hb1 p3; clear ho1)
  go_wp2_with (go_at_call 30; refine (HR.out y _ (HP.out.below HB1.out) HZ.out.2).mono ?_; rintro e w2 ⟨u, rfl, ho2, hb2⟩; obtain ⟨a2, c2, rfl⟩ := own_slice ho2; have HB2 := hid (bel_step HB1.out hb2); clear ho2)
  go_ret
  exact ⟨rfl, HB2.out⟩
def otherW (x : ByteArray) (i a : Nat) : ByteArray := x.extract 0 i ++ letW a ++ x.extract (i + 1) x.size
theorem otherW_list (x : ByteArray) {i a : Nat} (hi : i < x.size) : (otherW x i a).data.toList = (x.data.toList.take i ++ [lettersL.getD a 0]) ++ x.data.toList.drop (i + 1) := by
  unfold otherW
  rw [app_list, app_list, pre_list, suf_list]
  rfl
set_option maxHeartbeats 1000000 in
theorem other_any (x : ByteArray) (i a : Nat) (w : World) (hi : i < x.size) (ha : a < 16) (hx : x.size ≤ 100000) :
    Calls Try.prog 28 #[.string x, .int .i64 (i : Int), .int .i64 (a : Int)] w fun e w' => e = .returned (.string (otherW x i a)) ∧ Dr w w' := by
  have hla := letter_at ha
  have hls := letW_size a
  obtain ⟨z, hz⟩ : ∃ z, otherW x i a = z := ⟨_, rfl⟩
  obtain ⟨y1, hy1⟩ : ∃ y, x.extract 0 i = y := ⟨_, rfl⟩
  obtain ⟨y2, hy2⟩ : ∃ y, x.extract (i + 1) x.size = y := ⟨_, rfl⟩
  obtain ⟨y3, hy3⟩ : ∃ y, y1 ++ letW a = y := ⟨_, rfl⟩
  have hz1 : y1.size = i := by rw [← hy1, ByteArray.size_extract]; omega
  have hz2 : y2.size = x.size - (i + 1) := by rw [← hy2, ByteArray.size_extract]; omega
  have hz3 : y3.size = i + 1 := by rw [← hy3, ByteArray.size_append, hls, hz1]
  have hc1 := run_cat y1 (letW a) y3 hy3 (by omega)
  have hc2 := run_cat y3 y2 z (by rw [← hz, otherW, hy1, hy2, hy3]) (by omega)
  have hw1 : IntKind.i64.wrap ((a : Int) + 1) = (a : Int) + 1 := by rw [IntKind.wrap_i64]; omega
  have hw2 : (0 : Int) ≤ (a : Int) + 1 := by omega
  have hw3 : (a : Int) + 1 ≤ 16 := by omega
  have hw4 : (0 : Int) ≤ (a : Int) := by omega
  have hw5 : (a : Int) ≤ (a : Int) + 1 := by omega
  have hw6 : ((a : Int) + 1).toNat = a + 1 := by omega
  have hi1 : IntKind.i64.wrap ((i : Int) + 1) = (i : Int) + 1 := by rw [IntKind.wrap_i64]; omega
  have hi2 : (0 : Int) ≤ (i : Int) + 1 := by omega
  have hi3 : (i : Int) + 1 ≤ (x.size : Int) := by omega
  have hi4 : (0 : Int) ≤ (i : Int) := by omega
  have hi5 : (i : Int) ≤ (x.size : Int) := by omega
  have hi6 : ((i : Int) + 1).toNat = i + 1 := by omega
  have HZ := hid hz
  clear hz hz1 hz2 hz3 hy3
  generalize letW a = la at *
  go_enter Try.func28, Try.ntmps28
  go_wp2_with fail
  go_quiet (fail)
  go_wp2
  go_ret
  exact ⟨by rw [HZ.out]; rfl, (Dr.refl _).drewN _⟩
theorem otherW_size (x : ByteArray) {i a : Nat} (hi : i < x.size) : (otherW x i a).size = x.size := by
  have h := ba_len (otherW x i a)
  rw [otherW_list x hi, List.length_append, List.length_append, List.length_take, List.length_drop, ba_len] at h
  simp at h
  omega
theorem ok_other {Q : Nat} {x : ByteArray} {i a : Nat} (hx : okWord Q x = true) (hi : i < x.size) (ha : a < Q) (hQ : Q ≤ 16) : okWord Q (otherW x i a) = true := by
  unfold okWord
  rw [otherW_list x hi, List.all_eq_true]
  intro c hc
  have hd := (digit_letW (a := a) (by omega)).1
  rcases List.mem_append.1 hc with hc | hc
  · rcases List.mem_append.1 hc with hc | hc
    · have := okWord_at hx (List.mem_of_mem_take hc); simpa using this
    · simp only [List.mem_singleton] at hc
      rw [hc, hd]
      simp
      omega
  · have := okWord_at hx (List.mem_of_mem_drop hc); simpa using this
theorem err_pre {Q : Nat} {x : ByteArray} (h1 : 1 ≤ Q) (h2 : Q ≤ 16) (hx : okWord Q x = true) (hz : x.size ≤ 65536) (k : Nat) : wordErr Q (x.extract 0 k) = 0 := by
  refine wordErr_zero.2 ⟨by omega, by omega, ?_, okWord_sub hx fun c hc => ?_⟩
  · rw [ByteArray.size_extract]; omega
  · rw [pre_list] at hc; exact List.mem_of_mem_take hc
end Go.Proofs.Ytalklhjmnoodeaa
