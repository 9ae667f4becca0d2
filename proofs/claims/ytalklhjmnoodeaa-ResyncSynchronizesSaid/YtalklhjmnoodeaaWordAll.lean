/-
  word.All at an alphabet of two letters or more: words over it, of the length that is asked for, or the error of a limit.
  From 2 to 16 letters, up to 4 letters long.
-/
import Derived.Test.YtalklhjmnoodeaaIndexW
import Derived.Test.YtalklhjmnoodeaaAid
namespace Go.Proofs.Ytalklhjmnoodeaa
open Go.RowKit
set_option linter.unusedVariables false

def AllW (q : Nat) (m : Nat) (L : List ByteArray) : Prop := ∀ x ∈ L, okWord q x = true ∧ x.size = m
theorem allW_nil (q m : Nat) : AllW q m [] := fun x hx => by cases hx
theorem allW_snoc {q m : Nat} {L : List ByteArray} {x : ByteArray} (h : AllW q m L) (h1 : okWord q x = true) (h2 : x.size = m) : AllW q m (L ++ [x]) := by
  intro y hy
  rcases List.mem_append.1 hy with hy | hy
  · exact h y hy
  · simp only [List.mem_singleton] at hy; subst hy; exact ⟨h1, h2⟩
theorem allW_start (q : Nat) : AllW q 0 [⟨#[]⟩] := by
  intro x hx
  simp only [List.mem_singleton] at hx
  subst hx
  exact ⟨rfl, rfl⟩
theorem okWord_snoc {q : Nat} {x : ByteArray} {a : Nat} (h : okWord q x = true) (ha : a < q) (hq : q ≤ 16) : okWord q (x ++ letW a) = true := by
  have hd := digit_letW (a := a) (by omega)
  unfold okWord at *
  rw [ByteArray.data_append, Array.toList_append, List.all_append, h, hd.2]
  rw [Bool.true_and, List.all_cons, List.all_nil, Bool.and_true, hd.1, decide_eq_true_iff]
  omega
theorem lit_words2 (w : World) (x : ByteArray) : Sl 1 (w.alloc (.cells #[.string x] 9)) (.slice (some ⟨w.heap.size, 0, none⟩) 1 1) [x].length (strs [x]) := by
  refine ⟨_, _, rfl, rfl, Nat.le_refl _, by omega, .inr ⟨w.heap.size, 0, rfl, fun j y hj => ?_⟩⟩
  have hl := lt_of_some hj
  simp only [strs, List.map_cons, List.map_nil, List.length_cons, List.length_nil] at hl
  have : j = 0 := by omega
  subst this
  simp only [strs, List.map_cons, List.map_nil, List.getElem?_cons_zero, Option.some.injEq] at hj
  subst hj
  simp
def WAPost (q n : Nat) (w : World) (e : Ending) (w' : World) : Prop :=
  Below w.heap.size w w' ∧ (e = .returned (.tuple #[.slice none 0 0, .int .i64 4]) ∨ ∃ (u : Value) (L : List ByteArray), e = .returned (.tuple #[u, .int .i64 0]) ∧ Sl 1 w' u L.length (strs L) ∧ AllW q n L)

set_option maxRecDepth 100000 in
set_option maxHeartbeats 2000000 in
theorem wall_any (q n : Nat) (w : World) (h2 : 2 ≤ q) (h16 : q ≤ 16) (hn : n ≤ 4) :
    Calls Try.prog 34 #[.int .i64 (q : Int), .int .i64 (n : Int)] w (WAPost q n w) := by
  have HK := hid (fun X => wknown_yes (q : Int) X (by omega) (by omega))
  have hq1 : ((q : Int) == 1) = false := by rw [beq_eq_false_iff_ne]; omega
  go_enter Try.func34, Try.ntmps34
  go_wp2_with (go_at_call 49; refine (HK.out _).mono ?_; rintro e w' ⟨rfl, rfl⟩)
  have hs0 := lit_words2 w ⟨#[]⟩
  have HS0 := hid hs0
  clear hs0 hq1
  obtain ⟨w0, hw0⟩ : ∃ w0, w.alloc (.cells #[.string ⟨#[]⟩] 9) = w0 := ⟨_, rfl⟩
  have HB0 := hid (show Below w.heap.size w w0 by rw [← hw0]; exact bel_alloc _ _)
  rw [hw0] at HS0 ⊢
  clear hw0
  go_loopw [28, 6] (fun i u wr => ∃ m : Nat, m ≤ n ∧ i = .int .i64 m ∧ Below w0.heap.size w0 wr ∧ ∃ L : List ByteArray, L.length ≤ 70000 ∧ AllW q m L ∧ Sl 1 wr u L.length (strs L)) (fun i _ _ => n - (intOf i).toNat)
  case atStart => exact ⟨0, Nat.zero_le _, rfl, Below.refl _ _, [⟨#[]⟩], by simp, allW_start q, HS0.out⟩
  case round =>
    obtain ⟨m, hm, rfl, hb, L, hL, hA, hS⟩ := hrel
    rename World => wm
    have HB := hid hb
    have HA := hid hA
    have HS := hid hS
    obtain ⟨ao, cap, rfl, _, hc1, hc2, _⟩ := id hS
    clear hb hA hS
    by_cases hlt : m < n
    · obtain ⟨K, hK⟩ : ∃ K, L.length * q = K := ⟨_, rfl⟩
      have hKi : (L.length : Int) * (q : Int) = (K : Int) := by rw [← hK]; simp
      have hK16 : K ≤ 1200000 := by have := Nat.mul_le_mul hL h16; omega
      have hK2 : L.length * 2 ≤ K := by rw [← hK]; exact Nat.mul_le_mul_left _ h2
      have hKw : IntKind.i64.wrap (K : Int) = (K : Int) := by rw [IntKind.wrap_i64]; omega
      clear hK
      by_cases hKl : 4096 < K
      · have hg : decide ((4096 : Int) < (K : Int)) = true := by simp; omega
        go_wp2
        go_ret2
        exact ⟨HB0.out.trans (HB.out.mono HB0.out.size), .inl rfl⟩
      · have hg : decide ((4096 : Int) < (K : Int)) = false := by simp; omega
        go_wp2_with (at_make; refine wpList_room0 _ rfl _ _ 22 rfl wm.heap.size 9 (.string ⟨#[]⟩) 1 16 Try.underlying22 Try.infoString _ _ _ K rfl rfl rfl (by omega) (by unfold maxLen; omega) (Nat.le_refl _) ?_; intro w1 hown1 hb1)
        have HO1 := hid hown1
        have HB1 := hid hb1
        have HS2 := hid HS.out
        clear hown1 hb1 hKi hKw hg HS
        go_loopw [42, 7] (fun i v w2 => ∃ j : Nat, j ≤ L.length ∧ i = .int .i64 j ∧ Below wm.heap.size wm w2 ∧ ∃ N : List ByteArray, N.length ≤ j * 16 ∧ AllW q (m + 1) N ∧ w2.ownsRow wm.heap.size 9 1 v N.length (strs N)) (fun i _ _ => L.length - (intOf i).toNat)
        case atStart => exact ⟨0, Nat.zero_le _, rfl, HB1.out, [], by simp, allW_nil _ _, HO1.out⟩
        case round =>
          obtain ⟨j, hj, rfl, hb2, N, hN, hAN, ho2⟩ := hrel
          have HB2 := hid hb2
          have HAN := hid hAN
          have HO2 := hid ho2
          obtain ⟨a2, c2, rfl⟩ := own_slice ho2
          clear hb2 hAN ho2 HO1
          by_cases hjl : j < L.length
          · obtain ⟨x, hx⟩ := some_of_lt hjl
            obtain ⟨b, o, rfl, cx⟩ := (HS2.out.below HB2.out).cell (strs_get hx)
            obtain ⟨hxo, hxs⟩ := HA.out x (List.mem_of_getElem? hx)
            have HXo := hid hxo
            clear hx hxo
            go_wp2_with fail
            clear cx
            go_loopw [47, 7] (fun i v w3 => ∃ a : Nat, a ≤ q ∧ i = .int .i64 a ∧ Below wm.heap.size wm w3 ∧ ∃ N : List ByteArray, N.length ≤ j * 16 + a ∧ AllW q (m + 1) N ∧ w3.ownsRow wm.heap.size 9 1 v N.length (strs N)) (fun i _ _ => q - (intOf i).toNat)
            case atStart => exact ⟨0, Nat.zero_le _, rfl, HB2.out, N, by omega, HAN.out, HO2.out⟩
            case round =>
              obtain ⟨a, ha, rfl, hb3, M, hM, hAM, ho3⟩ := hrel
              have HB3 := hid hb3
              have HAM := hid hAM
              have HO3 := hid ho3
              have hsz3 := hb3.size
              clear hb3 hAM
              by_cases hla : a < q
              · have hlt2 := letter_at (a := a) (by omega)
                have hls := letW_size a
                obtain ⟨z, hz⟩ : ∃ z, x ++ letW a = z := ⟨_, rfl⟩
                have HZ := hid (show okWord q z = true ∧ z.size = m + 1 by rw [← hz]; exact ⟨okWord_snoc HXo.out hla h16, by rw [ByteArray.size_append, hls, hxs]⟩)
                generalize letW a = la at *
                obtain ⟨a3, c3, hv⟩ := own_slice ho3
                clear hv
                go_wp2_with (at_builtin; refine wpList_push _ rfl _ _ 22 rfl wm.heap.size 9 (.string ⟨#[]⟩) 1 16 Try.underlying22 Try.infoString rfl (by decide) _ _ _ rfl ho3 #[.string z] rfl (oneCell_string _) rfl (by unfold maxLen; omega) (by omega) hsz3 ?_; intro g gc w4 hown4 hg4 hb4)
                go_roundw
                case rel => exact ⟨a + 1, by omega, by go_num, HB3.out.trans hb4, M ++ [z], by rw [List.length_append, List.length_singleton]; omega, allW_snoc HAM.out HZ.out.1 HZ.out.2, by rw [List.length_append, strs_snoc]; exact hown4⟩
                case measure => simp [intOf]; omega
              · clear ho3
                go_wp2
                go_roundw
                case rel => exact ⟨j + 1, by omega, by go_num, HB3.out, M, by omega, HAM.out, HO3.out⟩
                case measure => simp [intOf]; omega
          · go_wp2
            go_roundw
            case rel => exact ⟨m + 1, by omega, by go_num, HB.out.trans (HB2.out.mono HB.out.size), N, by omega, HAN.out, Sl.of_owns HO2.out⟩
            case measure => simp [intOf]; omega
    · obtain rfl : m = n := by omega
      go_wp2
      go_ret2
      exact ⟨HB0.out.trans (HB.out.mono HB0.out.size), .inr ⟨_, L, rfl, HS.out, HA.out⟩⟩
end Go.Proofs.Ytalklhjmnoodeaa
