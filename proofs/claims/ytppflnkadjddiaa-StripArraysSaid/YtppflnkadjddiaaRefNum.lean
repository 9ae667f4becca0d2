/-
  The reference's numbers: small, mag, Canonical, value, Of and Add, for numbers that are not negative.
  No condition beyond sizes.
-/
import Derived.Test.YtppflnkadjddiaaRefMag
import Derived.Test.YtppflnkadjddiaaTable
import Derived.Laws.BitsLemmas
import Derived.Deep.RegionHeld3
namespace Go.Proofs.Ytppflnkadjddiaa
open Go.RowKit
set_option linter.unusedVariables false

theorem valBE_lt (l : List UInt8) : valBE l < 256 ^ l.length := by
  have key : ∀ (n : Nat) (l : List UInt8), l.length = n → valBE l < 256 ^ n := by
    intro n
    induction n with
    | zero => intro l hl; rw [List.eq_nil_of_length_eq_zero hl]; simp [valBE]
    | succ n ih =>
      intro l hl
      have hne : l ≠ [] := by rintro rfl; simp at hl
      obtain ⟨m, b, rfl⟩ : ∃ m b, l = m ++ [b] := ⟨l.dropLast, l.getLast hne, (List.dropLast_concat_getLast hne).symm⟩
      have h1 := ih m (by simpa using hl)
      have hb : b.toNat < 256 := b.toNat_lt
      rw [valBE_snoc, Nat.pow_succ]
      omega
  exact key _ l rfl
theorem or_low (v c : Nat) (hv : v < 281474976710656) (hc : c < 256) : bits .or .i64 ((v : Int) * 256) (c : Int) = ((256 * v + c : Nat) : Int) := by
  have h := bits_join .i64 62 (by decide) (fun n h1 h2 => by rw [IntKind.wrap_i64]; omega) 8 ((v : Int) * 256) (c : Int) (by omega) (by omega) (by omega) (by omega) (by omega) (by omega)
  rw [h]
  omega

set_option maxRecDepth 100000 in
set_option maxHeartbeats 1000000 in
theorem refSmall_any (s : ByteArray) (w : World) (hs : s.size ≤ 7) :
    Calls Try.prog 96 #[.string s] w fun e w' => e = .returned (.int .i64 (valBE s.data.toList : Nat)) ∧ w = w' := by
  go_enter Try.func96, Try.ntmps96
  go_wp2
  go_loop [3, 4] (fun n i => ∃ k : Nat, k ≤ s.size ∧ i = .int .i64 k ∧ n = .int .i64 (valBE (s.data.toList.take k) : Nat)) (fun _ i => s.size - (intOf i).toNat)
  case atStart => exact ⟨0, by omega, rfl, rfl⟩
  case round =>
    obtain ⟨k, hk, rfl, rfl⟩ := hrel
    by_cases hlt : k < s.size
    · have hv : valBE (s.data.toList.take k) < 281474976710656 := by
        have h1 := valBE_lt (s.data.toList.take k)
        have h2 : (s.data.toList.take k).length ≤ 6 := by rw [List.length_take]; omega
        have h3 : 256 ^ (s.data.toList.take k).length ≤ 256 ^ 6 := Nat.pow_le_pow_right (by decide) h2
        omega
      have hget : s.data.toList[k]? = some s[k] := by
        rw [List.getElem?_eq_getElem (by simpa using hlt)]; rfl
      have HV := hid (show valBE (s.data.toList.take (k + 1)) = 256 * valBE (s.data.toList.take k) + s[k].toNat by rw [take_snoc hget, valBE_snoc])
      have hc : s[k].toNat < 256 := s[k].toNat_lt
      have hor := or_low _ _ hv hc
      clear hget
      generalize valBE (s.data.toList.take k) = v at *
      go_wp2
      go_round
      case rel => exact ⟨k + 1, by omega, by go_num, by rw [HV.out]; exact int_eq (by omega)⟩
      case measure => simp [intOf]; omega
    · go_wp2
      go_ret
      exact ⟨ret_int (by rw [take_all (by simp; omega)]), rfl⟩

theorem rangeAt_set {w : World} {b o m : Nat} {cs : List Value} {v : Value} (h : w.rangeAt b o cs) (hm : m < cs.length) : (w.setCell ⟨b, o + m, none⟩ v).rangeAt b o (cs.set m v) := by
  intro j x hj
  by_cases e : m = j
  · subst e
    have h1 : cs[m]? = some cs[m] := List.getElem?_eq_getElem hm
    have h2 := h m _ h1
    rw [World.cell?_setCell_same _ _ _ h2]
    rw [List.getElem?_set_self hm] at hj
    exact hj
  · rw [List.getElem?_set_ne e] at hj
    rw [World.cell?_setCell_other _ _ _ _ (fun e' => e (by injection e' with e1 e2; omega))]
    exact h j x hj
theorem partN_drop {n k : Nat} (hk : k = (bytesBE n).length) (h8 : k ≤ 8) : (partN 8 n k).drop (8 - k) = bytesBE n := by
  apply List.ext_getElem?
  intro j
  rw [List.getElem?_drop]
  by_cases hj : j < k
  · have h1 := bytesBE_digit (k - 1 - j) n (by omega)
    rw [← hk, show k - 1 - (k - 1 - j) = j from by omega] at h1
    rw [h1, partN, List.getElem?_map, List.getElem?_range (by omega), Option.map_some, if_pos (by omega), show 8 - 1 - (8 - k + j) = k - 1 - j from by omega]
  · rw [List.getElem?_eq_none (by rw [partN_len]; omega), List.getElem?_eq_none (by omega)]
theorem pos_len {n k : Nat} (h : 0 < n / 256 ^ k) : k < (bytesBE n).length := by
  have h1 := lt_pow_len n
  rcases Nat.lt_or_ge k (bytesBE n).length with h2 | h2
  · exact h2
  · have h3 : 256 ^ (bytesBE n).length ≤ 256 ^ k := Nat.pow_le_pow_right (by decide) h2
    rw [Nat.div_eq_of_lt (by omega)] at h
    omega
theorem one_byte {n : Nat} (h0 : n ≠ 0) (h : n < 256) : bytesBE n = [n.toUInt8] := by
  rw [bytesBE_pos h0, Nat.div_eq_of_lt h, bytesBE_zero, Nat.mod_eq_of_lt h]; rfl

theorem slice8 (w : World) (g k : Nat) (h1 : 1 ≤ k) (h8 : k ≤ 8) : (Instr.sliceAt 127 (.pointer (some ⟨g, 0, none⟩)) (some (.int .i64 (8 - (k : Int)))) none none).run Try.prog w = .ok (.slice (some ⟨g, 8 - k, none⟩) k k) w := by
  have hal : Try.prog.arrayLen 127 = 8 := by kernel_rfl
  have hsz : ∀ w, (sizeOf (Try.prog.elem 127)).run Try.prog w = .ok 1 w := fun _ => by kernel_rfl
  rw [run_sliceAt_array_l w 127 _ (by kernel_rfl) .i64 _ (by omega) (by rw [hal]; omega), hsz]
  have e1 : (8 - (k : Int)).toNat = 8 - k := by omega
  have e2 : ¬ 8 = 8 - k := by omega
  have e3 : 8 - (8 - k) = k := by omega
  have e4 : (⟨g, 0, none⟩ : Addr).add (8 - k) = ⟨g, 8 - k, none⟩ := by unfold Addr.add; split <;> simp_all
  simp [slicedAt, hal, e1, e2, e3, e4, Result.andThen]

set_option maxRecDepth 100000 in
set_option maxHeartbeats 2000000 in
theorem refMag_any (n : Nat) (w : World) (hn : n ≤ 9223372036854775807) :
    Calls Try.prog 71 #[.int .i64 (n : Int)] w fun e w' => e = .returned (.string (nmg n)) ∧ Below w.heap.size w w' := by
  by_cases h256 : n < 256
  · by_cases h0 : n = 0
    · subst h0
      go_enter Try.func71, Try.ntmps71
      go_wp2
      go_ret
      exact ⟨by simp [nmg, bytesBE_zero], Below.refl _ _⟩
    · have hb : ((n : Int) == 0) = false := beq_eq_false_iff_ne.2 (by omega)
      have HB := hid (one_byte h0 h256)
      have hconv := run_convert_bytes_back (P := Try.prog) (w.alloc (.cells #[.int .u8 (n : Int)] 5)) 22 9 5 ⟨w.heap.size, 0, none⟩ 1 [n.toUInt8] Try.underlying22 Try.underlying5 Try.underlying9 (fun j hj => by
        have hj0 : j = 0 := by simpa using hj
        subst hj0
        have : n.toUInt8.toNat = n := by simp; omega
        exact World.news_of_block (heap_alloc_new w (.cells #[.int .u8 (n : Int)] 5)) 0 _ (by simp; omega))
      go_enter Try.func71, Try.ntmps71
      rw [List.length_singleton] at hconv
      go_wp2
      go_ret
      exact ⟨str_eq HB.out.symm, (Below.refl _ _).alloc (Nat.le_refl _) _⟩
  · go_enter Try.func71, Try.ntmps71
    go_upto_region 7 with fail
    have hrow : (w.alloc (.cells (Array.replicate 8 (.int .u8 0)) 127)).rangeAt w.heap.size 0 (Lib.byteCells (partN 8 n 0)) := by
      intro j v hj
      rw [partN_zero] at hj
      rw [List.getElem?_replicate] at hj
      rw [Nat.zero_add, cell_of_row _ _ j _ _ _ (heap_alloc_new w _), Array.getElem?_replicate]
      exact hj
    have hmay : (w.alloc (.cells (Array.replicate 8 (.int .u8 0)) 127)).there w.heap.size 0 8 := by
      intro j hj
      have hb := heap_alloc_new w (.cells (Array.replicate 8 (.int .u8 0)) 127)
      rw [Nat.zero_add, cell_of_row _ _ j _ _ _ hb]
      refine ⟨by simp; omega, ?_⟩
      simp only [World.frozen?, hb]
      simp
    go_loopw [0, 4] (fun u i wr => ∃ k : Nat, k ≤ (bytesBE n).length ∧ i = .int .i64 (8 - (k : Int)) ∧ u = .int .i64 (n / 256 ^ k : Nat) ∧ wr.rangeAt w.heap.size 0 (Lib.byteCells (partN 8 n k)) ∧ wr.there w.heap.size 0 8 ∧ Below w.heap.size w wr) (fun _ i _ => (intOf i).toNat)
    case atStart => exact ⟨0, by omega, rfl, by simp, hrow, hmay, (Below.refl _ _).alloc (Nat.le_refl _) _⟩
    case round =>
      obtain ⟨k, hk, rfl, rfl, hr, hm, hbel⟩ := hrel
      clear hrow hmay
      have h8 := bytesBE_len n 8 (by omega)
      have hq : n / 256 ^ k ≤ 9223372036854775807 := Nat.le_trans (Nat.div_le_self _ _) hn
      have HQ := hid (show n / 256 ^ (k + 1) = n / 256 ^ k / 256 by rw [Nat.div_div_eq_div_mul, Nat.pow_succ])
      by_cases hpos : 0 < n / 256 ^ k
      · have hkl := pos_len hpos
        have hkl8 : k < 8 := by omega
        have hc := (hm (8 - k - 1) (by omega)).1
        have hf := (hm (8 - k - 1) (by omega)).2
        obtain ⟨u0, hu⟩ := Option.isSome_iff_exists.1 hc
        rw [Nat.zero_add] at hu hf
        have HSet := hid (rangeAt_set hr (m := 8 - k - 1) (v := .int .u8 ((n / 256 ^ k % 256 : Nat) : Int)) (by simp [Lib.byteCells, partN_len]; omega))
        have HPs := hid (show (Lib.byteCells (partN 8 n k)).set (8 - k - 1) (.int .u8 ((n / 256 ^ k % 256 : Nat) : Int)) = Lib.byteCells (partN 8 n (k + 1)) by rw [show 8 - k - 1 = 8 - 1 - k from by omega]; exact partN_set (v := n) hkl8)
        have HM := hid (there_set hm ⟨w.heap.size, 8 - k - 1, none⟩ (.int .u8 ((n / 256 ^ k % 256 : Nat) : Int)))
        clear hr hm hc
        generalize n / 256 ^ k = N at *
        go_wp2
        go_roundw
        case rel => exact ⟨k + 1, by omega, int_eq (by omega), int_eq (by rw [HQ.out]; omega), by rw [← HPs.out]; have := HSet.out; rw [Nat.zero_add] at this; exact this, HM.out, hbel.setCell (p := ⟨w.heap.size, 8 - k - 1, none⟩) (Nat.le_refl _) _⟩
        case measure => simp [intOf]; omega
      · have hkl : k = (bytesBE n).length := by
          rcases Nat.lt_or_ge k (bytesBE n).length with h | h
          · exfalso
            have h1 : n < 256 ^ k := by
              have h2 : 0 < 256 ^ k := Nat.pow_pos (by decide)
              have h3 : n / 256 ^ k = 0 := Nat.le_zero.1 (Nat.not_lt.1 hpos)
              rcases Nat.lt_or_ge n (256 ^ k) with h4 | h4
              · exact h4
              · have := Nat.div_pos h4 h2; omega
            have := bytesBE_len n k h1
            omega
          · omega
        have HD := hid (partN_drop hkl (by omega))
        have HLen := hid hkl
        have h0 : n / 256 ^ k = 0 := Nat.le_zero.1 (Nat.not_lt.1 hpos)
        have hk1 : 1 ≤ k := by
          rcases Nat.eq_zero_or_pos k with h | h
          · subst h; simp at h0; omega
          · exact h
        have hconv := run_convert_bytes_back (P := Try.prog) wr 22 9 5 ⟨w.heap.size, 8 - k, none⟩ k (bytesBE n) Try.underlying22 Try.underlying5 Try.underlying9 (fun j hj => by
          have h1 := hr (8 - k + j) (.int .u8 ((bytesBE n)[j].toNat : Int)) (by
            have h2 : (partN 8 n k)[8 - k + j]? = some (bytesBE n)[j] := by
              have := congrArg (fun l => l[j]?) HD.out
              simp only [List.getElem?_drop] at this
              rw [this, List.getElem?_eq_getElem hj]
            simp [Lib.byteCells, h2])
          rw [Nat.zero_add] at h1
          have e : (⟨w.heap.size, 8 - k, none⟩ : Addr).add j = ⟨w.heap.size, 8 - k + j, none⟩ := by unfold Addr.add; split <;> simp_all
          rw [e]
          exact h1)
        rw [← HLen.out] at hconv
        have hsl := slice8 wr w.heap.size k hk1 (by omega)
        clear hkl hr hm
        rw [h0]
        go_wp2
        go_ret
        exact ⟨rfl, hbel⟩

theorem trimL_len (l : List UInt8) : (trimL l).length ≤ l.length := by
  induction l with
  | nil => simp [trimL]
  | cons c r ih => rw [trimL]; split <;> simp <;> omega
theorem nmg_first {n : Nat} (h0 : 0 < (nmg n).size) : (nmg n)[0] ≠ 0 := by
  intro hz
  have h1 := list_head (nmg n) h0
  have h2 := trimL_val (nmg n).data.toList
  have h3 : (nmg n).data.toList = bytesBE n := by simp [nmg]
  rw [h3, valBE_bytes] at h2
  rw [h3, hz] at h1
  have h4 := congrArg List.length h2
  have h5 := trimL_len (bytesBE n).tail
  rw [h1, trimL, if_pos rfl, List.length_cons] at h4
  omega
theorem nmg_zero_size {n : Nat} (h : ¬ 0 < (nmg n).size) : n = 0 := by
  rw [nmg_size] at h
  by_cases h0 : n = 0
  · exact h0
  · have := bytesBE_ne h0
    have : (bytesBE n).length ≠ 0 := by intro e; exact this (List.eq_nil_of_length_eq_zero e)
    omega

set_option maxRecDepth 100000 in
set_option maxHeartbeats 2000000 in
theorem refCanonical_any (n : Nat) (w : World) :
    Calls Try.prog 72 #[.agg #[.bool false, .string (nmg n)]] w fun e w' => e = .returned (.agg #[.bool false, .string (nmg n)]) ∧ Below w.heap.size w w' := by
  by_cases h0 : 0 < (nmg n).size
  · have hz := nmg_first h0
    have hz2 : (((nmg n)[0].toNat : Int) == 0) = false := by
      rw [beq_eq_false_iff_ne]
      intro h
      exact hz (UInt8.toNat_inj.1 (by simpa using h))
    have HZ := hid hz
    clear hz
    go_enter Try.func72, Try.ntmps72
    go_wp2
    refine bodyPost_ret (v := .agg #[.bool false, .string (nmg n)]) ?_ rfl ⟨rfl, ?_⟩
    · simp [results, Try.results72, go_sem]
    · exact ((Below.refl _ _).alloc (Nat.le_refl _) _).alloc (by simp) _
  · have hn := nmg_zero_size h0
    subst hn
    have e0 : nmg 0 = ⟨#[]⟩ := by simp [nmg, bytesBE_zero]
    rw [e0]
    clear h0
    go_enter Try.func72, Try.ntmps72
    go_wp2_with (go_at_call 95; refine (refTrim_any _ _ (by decide)).mono ?_; rintro e w2 ⟨rfl, rfl⟩)
    refine bodyPost_ret (v := .agg #[.bool false, .string ⟨#[]⟩]) ?_ rfl ⟨rfl, ?_⟩
    · simp [results, Try.results72, go_sem, trimL]
    · exact ((Below.refl _ _).alloc (Nat.le_refl _) _).alloc (by simp) _

set_option maxRecDepth 100000 in
set_option maxHeartbeats 2000000 in
theorem refValue_any (n : Nat) (w : World) (hn : (nmg n).size ≤ 7) :
    Calls Try.prog 73 #[.agg #[.bool false, .string (nmg n)]] w fun e w' => e = .returned (.int .i64 n) ∧ Below w.heap.size w w' := by
  have hv : valBE (nmg n).data.toList = n := by simp [nmg, valBE_bytes]
  have HV := hid hv
  clear hv
  go_enter Try.func73, Try.ntmps73
  go_wp2_with (go_at_call 96; refine (refSmall_any _ _ hn).mono ?_; rintro e w2 ⟨rfl, rfl⟩; rw [HV.out])
  go_ret
  exact ⟨rfl, (Below.refl _ _).alloc (Nat.le_refl _) _⟩

set_option maxRecDepth 100000 in
set_option maxHeartbeats 2000000 in
theorem refOf_any (n : Nat) (w : World) (hn : n ≤ 9223372036854775807) :
    Calls Try.prog 48 #[.int .i64 n] w fun e w' => e = .returned (.agg #[.bool false, .string (nmg n)]) ∧ Below w.heap.size w w' := by
  go_enter Try.func48, Try.ntmps48
  go_wp2_with (go_at_call 71; refine (refMag_any n _ hn).mono ?_; rintro e w1 ⟨rfl, hb⟩; rw [World.size_alloc] at hb; obtain ⟨n1, n2, n3, n4⟩ := numW_cells hb)
  refine bodyPost_ret (v := .agg #[.bool false, .string (nmg n)]) ?_ rfl ⟨rfl, ?_⟩
  · simp [results, Try.results48, go_sem, n1, n2]
  · exact ((below_laid hb).setCell (p := ⟨w.heap.size, 0, none⟩) (Nat.le_refl _) _).setCell (p := ⟨w.heap.size, 1, none⟩) (Nat.le_refl _) _
end Go.Proofs.Ytppflnkadjddiaa
