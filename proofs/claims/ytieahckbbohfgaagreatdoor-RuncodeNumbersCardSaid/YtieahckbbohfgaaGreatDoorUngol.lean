/-
  runcode.Ungolomb at words over the letters 0 and 1.
  The word is not longer than 65536.
-/
import Derived.Test.YtieahckbbohfgaaGreatDoorGolomb
import Derived.Test.YtieahckbbohfgaaGreatDoorWordCk
namespace Go.Proofs.YtieahckbbohfgaaGreatDoor
open Go.RowKit
set_option linter.unusedVariables false

theorem digit_two : ∀ c : UInt8, 0 ≤ digit c ∧ digit c < 2 → isBit c = true := by
  intro c
  have h : ∀ n : Fin 256, 0 ≤ digit (UInt8.ofNat n.val) ∧ digit (UInt8.ofNat n.val) < 2 → isBit (UInt8.ofNat n.val) = true := by decide +kernel
  have := h ⟨c.toNat, c.toNat_lt⟩
  simpa using this
theorem bits_of {s : ByteArray} (h : wordErr 2 s = 0) : (∀ c ∈ s.data.toList, isBit c = true) ∧ s.size ≤ 65536 := by
  obtain ⟨_, _, h1, h2⟩ := wordErr_zero.1 h
  exact ⟨fun c hc => digit_two c (okWord_at h2 hc), h1⟩
theorem index_ones : ∀ (l : List UInt8), (∀ c ∈ l, isBit c = true) → Lib.indexByte l 48 = if onesN l = l.length then -1 else (onesN l : Int)
  | [], _ => rfl
  | c :: l, h => by
    have ih := index_ones l (fun c hc => h c (List.mem_cons_of_mem _ hc))
    have h1 := h c (List.mem_cons_self ..)
    have hle := onesN_le l
    unfold isBit at h1
    simp only [Bool.or_eq_true, beq_iff_eq] at h1
    rcases h1 with rfl | rfl
    · have e : onesN (48 :: l) = 0 := by rw [onesN]; exact if_neg (by decide)
      rw [Lib.indexByte, if_pos (by decide), e]
      simp
    · rw [Lib.indexByte, if_neg (by decide), ih, onesN, if_pos rfl]
      by_cases h2 : onesN l = l.length
      · rw [if_pos h2, if_pos (by decide), if_pos (by simp [h2])]
      · rw [if_neg h2, if_neg (by simp), if_neg (by simp [h2])]
        simp
/-- What Ungolomb answers. -/
def ungV (m : Nat) (l : List UInt8) : Value := match ungol m l with
  | none => .tuple #[.int .i64 0, .int .i64 0, .int .i64 13]
  | some (n, k) => .tuple #[.int .i64 (n : Int), .int .i64 (k : Int), .int .i64 0]
theorem ungV_ones {m : Nat} {l : List UInt8} (h : onesN l = l.length) : ungV m l = .tuple #[.int .i64 0, .int .i64 0, .int .i64 13] := by
  rw [ungV, ungol, if_pos h]
theorem ungV_none {m : Nat} {l : List UInt8} (h : ¬ onesN l = l.length) (h2 : readT m (l.drop (onesN l + 1)) = none) : ungV m l = .tuple #[.int .i64 0, .int .i64 0, .int .i64 13] := by
  rw [ungV, ungol, if_neg h, h2]
theorem ungV_some {m r k : Nat} {l : List UInt8} (h : ¬ onesN l = l.length) (h2 : readT m (l.drop (onesN l + 1)) = some (r, k)) : ungV m l = .tuple #[.int .i64 ((onesN l * m + r : Nat) : Int), .int .i64 ((onesN l + 1 + k : Nat) : Int), .int .i64 0] := by
  rw [ungV, ungol, if_neg h, h2]
theorem readT_short {m k : Nat} {t : List UInt8} (h : k + 1 = gB m) (hk : k ≤ t.length) (h2 : valW (t.take k) < gH m) : readT m t = some (valW (t.take k), k) := by
  have e : gB m - 1 = k := by omega
  rw [readT, if_neg (by omega), e, if_neg (by omega), if_pos h2]
theorem readT_miss {m k : Nat} {t : List UInt8} (h : k < gB m) (hk : k = t.length) (h2 : ¬ (k + 1 = gB m ∧ valW (t.take k) < gH m)) : readT m t = none := by
  rw [readT, if_neg (by omega)]
  by_cases h3 : t.length < gB m - 1
  · rw [if_pos h3]
  · rw [if_neg h3]
    have e : gB m - 1 = k := by omega
    rw [e, if_neg (fun h4 => h2 ⟨by omega, h4⟩), if_pos (by omega)]
theorem readT_full {m : Nat} {t : List UInt8} (hk : gB m ≤ t.length) (h1 : 1 ≤ m) (h2 : gB m = 0 ∨ gH m ≤ valW (t.take (gB m - 1))) (hb : ∀ c ∈ t, isBit c = true) :
    ∃ r, readT m t = some (r, gB m) ∧ (r : Int) = (valW (t.take (gB m)) : Int) - (gH m : Int) := by
  by_cases h0 : gB m = 0
  · refine ⟨0, by rw [readT, if_pos h0, h0], ?_⟩
    have hH : gH m = 0 := by unfold gH; rw [h0]; simp; omega
    rw [h0, hH]; rfl
  · have h3 : gH m ≤ valW (t.take (gB m - 1)) := by rcases h2 with h2 | h2 <;> omega
    refine ⟨valW (t.take (gB m)) - gH m, by rw [readT, if_neg h0, if_neg (by omega), if_neg (by omega), if_neg (by omega)], ?_⟩
    have := (take_half t (gB m - 1) (by omega) hb).1
    rw [show gB m - 1 + 1 = gB m by omega] at this
    omega
set_option maxRecDepth 100000 in
set_option maxHeartbeats 1000000 in
theorem ungol_any (m : Nat) (s : ByteArray) (w : World) (h1 : 1 ≤ m) (h2 : m ≤ 65536) (hE : wordErr 2 s = 0) :
    Calls Tryz.prog 11 #[.int .i64 (m : Int), .string s] w fun e w' => e = .returned (ungV m s.data.toList) ∧ Below w.heap.size w w' := by
  obtain ⟨hbits, hsz⟩ := bits_of hE
  have HCk := hid (fun X => wcheck_any 2 s X)
  rw [hE] at HCk
  have HIx := hid (fun X => Tryz.strings_IndexByte s 48 X)
  rw [show (48 : Int).toNat.toUInt8 = 48 from rfl, index_ones _ hbits] at HIx
  have HTr := hid (fun X => trunc_any m X h1 h2)
  have hln : s.size = s.data.toList.length := (ba_len s).symm
  by_cases ho : onesN s.data.toList = s.data.toList.length
  · have HV := hid (ungV_ones (m := m) ho)
    rw [if_pos ho] at HIx
    clear hbits hE ho
    go_enter Tryz.func11, Tryz.ntmps11
    go_wp2_with (first
      | (go_at_call 10; refine (HCk.out _).mono ?_; rintro e w1 ⟨rfl, hD⟩; have HB1 := hid (hD.below w.heap.size); clear hD)
      | (go_at_call 33; refine (HIx.out _).mono ?_; rintro e w2 ⟨rfl, rfl⟩))
    go_ret3
    exact ⟨by rw [HV.out]; rfl, HB1.out⟩
  · have HVn := hid (fun h => ungV_none (m := m) ho h)
    have HVs := hid (fun r k h => ungV_some (m := m) (r := r) (k := k) ho h)
    have hle := onesN_le s.data.toList
    rw [if_neg ho] at HIx
    have hq0 : ¬ ((onesN s.data.toList : Int) < 0) := by omega
    obtain ⟨t, ht⟩ : ∃ t, s.data.toList.drop (onesN s.data.toList + 1) = t := ⟨_, rfl⟩
    have htl : onesN s.data.toList + 1 + t.length = s.size := by rw [← ht, List.length_drop, hln]; omega
    have htb : ∀ c ∈ t, isBit c = true := fun c hc => hbits c (by rw [← ht] at hc; exact List.mem_of_mem_drop hc)
    have HAt := hid (fun (k : Nat) (hk : k < t.length) (h : onesN s.data.toList + 1 + k < s.size) => (show s[onesN s.data.toList + 1 + k] = t[k] by
      subst ht
      simp
      rfl))
    rw [ht] at HVn HVs
    have HTb := hid htb
    have HTL := hid htl
    have hq64 : onesN s.data.toList + 1 + t.length ≤ 65536 := by omega
    clear hbits hE ho ht htb hln htl
    generalize onesN s.data.toList = q at *
    have hg := gB_le m h2
    have hh2 := (gH_eq m h1 h2).2
    generalize hB : gB m = B at *
    generalize hH : gH m = H at *
    have HB0 := hid hB
    have HH0 := hid hH
    clear hB hH
    have hZ : q * m ≤ 65536 * 65536 := Nat.mul_le_mul (by omega) h2
    have hqm : (q : Int) * (m : Int) = ((q * m : Nat) : Int) := by push_cast; rfl
    generalize q * m = Z at *
    go_enter Tryz.func11, Tryz.ntmps11
    go_wp2_with (first
      | (go_at_call 10; refine (HCk.out _).mono ?_; rintro e w1 ⟨rfl, hD⟩; have HB1 := hid (hD.below w.heap.size); clear hD)
      | (go_at_call 33; refine (HIx.out _).mono ?_; rintro e w2 ⟨rfl, rfl⟩)
      | (go_at_call 26; refine (HTr.out _).mono ?_; rintro e w3 ⟨rfl, hb3⟩; have HB3 := hid (bel_step HB1.out hb3); clear hb3))
    go_loopw [13, 11, 12] (fun i r a wr => ∃ k : Nat, k ≤ B ∧ k ≤ t.length ∧ i = .int .i64 ((k + 1 : Nat) : Int) ∧ r = .int .i64 (valW (t.take k) : Int) ∧ a = .int .i64 ((q + 1 + k : Nat) : Int) ∧ Hid (k < B ∨ B = 0 ∨ H ≤ valW (t.take (B - 1))) ∧ Hid (Below w.heap.size w wr)) (fun i _ _ _ => B + 1 - (intOf i).toNat)
    case atStart => exact ⟨0, Nat.zero_le _, Nat.zero_le _, rfl, rfl, rfl, hid (by omega), HB3⟩
    case round =>
      obtain ⟨k, hkB, hkt, rfl, rfl, rfl, HC, HB⟩ := hrel
      rename World => wk
      have hv : valW (t.take k) < 2 ^ k := by
        have := valW_lt (t.take k) (fun c hc => HTb.out c (List.mem_of_mem_take hc))
        rwa [List.length_take, Nat.min_eq_left hkt] at this
      have hp := Nat.pow_le_pow_right (n := 2) (by decide) (show k ≤ 16 by omega)
      have hv2 : valW (t.take k) < 65536 := by omega
      clear hv hp
      by_cases hk : k < B
      · by_cases hs1 : k + 1 = B ∧ valW (t.take k) < H
        · obtain ⟨a1, a2⟩ := hs1
          have HV := hid (HVs.out _ _ (readT_short (m := m) (by rw [HB0.out]; exact a1) hkt (by rw [HH0.out]; exact a2)))
          subst a1
          have b1 : (valW (t.take k) : Int) < (H : Int) := by omega
          generalize valW (t.take k) = R at *
          go_wp2
          go_ret3
          exact ⟨by rw [HV.out]; simp, HB.out⟩
        · by_cases hend : k = t.length
          · have HV := hid (HVn.out (readT_miss (m := m) (by rw [HB0.out]; exact hk) hend (by rw [HB0.out, HH0.out]; exact hs1)))
            have b1 : s.size = q + 1 + k := by have := HTL.out; omega
            by_cases hb : k + 1 = B
            · have b3 : ¬ (valW (t.take k) : Int) < (H : Int) := by
                intro h
                exact hs1 ⟨hb, by omega⟩
              subst hb
              generalize valW (t.take k) = R at *
              go_wp2
              go_ret3
              exact ⟨by rw [HV.out]; rfl, HB.out⟩
            · have b3 : (((k + 1 : Nat) : Int) == (B : Int)) = false := by rw [beq_eq_false_iff_ne]; omega
              have b4 : ((k + 1 : Nat) : Int) ≤ (B : Int) := by omega
              generalize valW (t.take k) = R at *
              go_wp2
              go_ret3
              exact ⟨by rw [HV.out]; rfl, HB.out⟩
          · have hkl : k < t.length := by omega
            have hTL := HTL.out
            have b1 : q + 1 + k < s.size := by omega
            have b2 : ((q + 1 + k : Nat) : Int) < (s.size : Int) := by omega
            have b5 : (((q + 1 + k : Nat) : Int) == (s.size : Int)) = false := by rw [beq_eq_false_iff_ne]; omega
            clear hTL
            have hget := HAt.out k hkl b1
            obtain ⟨hc1, hc2, -⟩ := isBit_val (HTb.out t[k] (List.getElem_mem hkl))
            have hsnoc := valW_snoc (t.take k) t[k]
            rw [← List.take_succ_eq_append_getElem hkl] at hsnoc
            have hcw : IntKind.u8.wrap ((t[k].toNat : Int) - 48) = ((t[k].toNat - 48 : Nat) : Int) := by
              rw [IntKind.wrap_u8]; omega
            have HV1 := hid hsnoc
            clear hsnoc
            have hcw2 : ((t[k].toNat : Int) - 48) % 256 = ((t[k].toNat - 48 : Nat) : Int) := by omega
            generalize t[k].toNat - 48 = D at *
            by_cases hb : k + 1 = B
            · have b3 : ¬ (valW (t.take k) : Int) < (H : Int) := by
                intro h
                exact hs1 ⟨hb, by omega⟩
              have HC1 := hid (show k + 1 < B ∨ B = 0 ∨ H ≤ valW (t.take (B - 1)) by rw [← hb, Nat.add_sub_cancel]; omega)
              have b6 : (((k + 1 : Nat) : Int) == (B : Int)) = true := by rw [beq_iff_eq]; omega
              have b4 : ((k + 1 : Nat) : Int) ≤ (B : Int) := by omega
              clear hs1
              generalize valW (t.take k) = R at *
              go_wp2
              go_roundw
              case rel => exact ⟨k + 1, by omega, by omega, by go_num, by rw [HV1.out]; simp, by go_num, HC1, HB⟩
              case measure => simp [intOf]; omega
            · have b3 : (((k + 1 : Nat) : Int) == (B : Int)) = false := by rw [beq_eq_false_iff_ne]; omega
              have b4 : ((k + 1 : Nat) : Int) ≤ (B : Int) := by omega
              have HC1 := hid (show k + 1 < B ∨ B = 0 ∨ H ≤ valW (t.take (B - 1)) by omega)
              clear hs1
              generalize valW (t.take k) = R at *
              go_wp2
              go_roundw
              case rel => exact ⟨k + 1, by omega, by omega, by go_num, by rw [HV1.out]; simp, by go_num, HC1, HB⟩
              case measure => simp [intOf]; omega
      · obtain rfl : k = B := by omega
        obtain ⟨r, hr, hr2⟩ := readT_full (m := m) (t := t) (by rw [HB0.out]; exact hkt) h1 (by rw [HB0.out, HH0.out]; have := HC.out; omega) HTb.out
        rw [HB0.out] at hr
        have HV := hid (HVs.out _ _ hr)
        rw [HB0.out, HH0.out] at hr2
        have b1 : ¬ ((k + 1 : Nat) : Int) ≤ (k : Int) := by omega
        clear hr
        generalize valW (t.take k) = R at *
        go_wp2
        go_ret3
        exact ⟨by rw [HV.out]; simp; omega, HB.out⟩
end Go.Proofs.YtieahckbbohfgaaGreatDoor
