/-
  The reference's Rows and Transpose: the same answers as the program's.
  No condition.
-/
import Derived.Test.YtppflnkadjddiaaRefValid
import Derived.Test.YtppflnkadjddiaaTurned
import Derived.Test.YtppflnkadjddiaaTranspose
namespace Go.Proofs.Ytppflnkadjddiaa
open Go.RowKit
set_option linter.unusedVariables false

theorem quietE {P : Program} {f : FuncId} {args : Array Value} {w : World} {n : Nat} {k : IntKind} {a b : Int} (he : a = b) (h : Calls P f args (w.drewN n) fun e w' => e = .returned (.int k a) ∧ w.drewN n = w') : Calls P f args (w.drewN n) fun e w'' => e = .returned (.int k b) ∧ ∃ m, w'' = w.drewN m := by
  subst he
  exact h.mono fun e w' ⟨h1, h2⟩ => ⟨h1, n, h2.symm⟩
theorem trs_hasB (l : List Int) {n : Nat} (h : n < 16) : (trs l).contains (n : Int) = hasB l (tr n : Int) := by
  rw [Bool.eq_iff_iff, hasB, List.contains_iff_mem, List.contains_iff_mem, mem_trs l h]

set_option maxRecDepth 100000 in
set_option maxHeartbeats 2000000 in
theorem refTranspose_any (v : Value) (l : List Int) (w : World) (hl : Sl 1 w v l.length (ints l)) :
    Calls Try.prog 35 #[v] w fun e w' => ∃ v', e = .returned v' ∧ w'.ownsRow w.heap.size 3 1 v' (trL l).length (ints (trL l)) ∧ Below w.heap.size w w' := by
  have HL := hid hl
  clear hl
  go_enter Try.func35, Try.ntmps35
  go_wp2_with fail
  go_loopw [3, 4] (fun u i wr => ∃ n : Nat, n ≤ 16 ∧ i = .int .i64 n ∧ wr.ownsRow w.heap.size 3 1 u (trK l n).length (ints (trK l n)) ∧ Below w.heap.size w wr) (fun _ i _ => 16 - (intOf i).toNat)
  case atStart => exact ⟨0, by omega, rfl, own_empty _ _ _, (Below.refl _ _).alloc (Nat.le_refl _) _⟩
  case round =>
    obtain ⟨n, hn, rfl, hown, hbel⟩ := hrel
    by_cases hn16 : n < 16
    · have hlen := trK_len l n
      have HI := hid (show ((n : Int) / 8 * 8 + (n : Int) / 2 % 2 * 4 + (n : Int) / 4 % 2 * 2 + (n : Int) % 2) = (tr n : Int) by unfold tr; omega)
      have HH := hid (trs_hasB l hn16)
      cases hP : (trs l).contains (n : Int)
      · have HN := hid (trK_no hP)
        have HQ := hid (HH.out.symm.trans hP)
        clear hP
        go_wp2_with (go_at_call 58; rw [HI.out]; refine (refHas_any v l _ _ ?_).mono ?_; (exact HL.out.below hbel); rintro e w1 ⟨rfl, rfl⟩; rw [HQ.out])
        go_roundw
        case rel => exact ⟨n + 1, by omega, by go_num, by rw [HN.out]; exact hown, hbel⟩
        case measure => simp [intOf]; omega
      · have HN := hid (trK_yes hP)
        have HQ := hid (HH.out.symm.trans hP)
        clear hP
        go_wp2_with (first
          | (go_at_call 58; rw [HI.out]; refine (refHas_any v l _ _ ?_).mono ?_; (exact HL.out.below hbel); rintro e w1 ⟨rfl, rfl⟩; rw [HQ.out])
          | (at_builtin; refine wpList_push _ rfl _ _ 24 rfl w.heap.size 3 (.int .i64 0) 1 8 Try.underlying24 Try.info3 rfl (by decide) _ _ _ rfl hown #[.int .i64 (n : Int)] rfl (oneCell_int _ _) rfl (by unfold maxLen; omega) (by omega) hbel.size ?_; intro g gc w2 hown2 hg2 hb2))
        go_roundw
        case rel => exact ⟨n + 1, by omega, by go_num, by rw [HN.out, ints_snoc, List.length_append]; exact hown2, hbel.trans hb2⟩
        case measure => simp [intOf]; omega
    · go_wp2
      go_ret
      obtain rfl : n = 16 := by omega
      exact ⟨_, rfl, hown, hbel⟩
/-- The bit as the digit's weight. -/
theorem dig_bt (i : Nat) (c : Int) : ((dig i c).toNat : Int) = 48 + bt c i := by
  have := bt_bound c i
  unfold dig bt at *
  split
  · rename_i h; rw [h]; rfl
  · rename_i h; rw [show c / 2 ^ i % 2 = 1 by omega]; rfl

set_option maxRecDepth 100000 in
set_option maxHeartbeats 2000000 in
theorem refRows_bad (h : Int) (v : Value) (l : List Int) (w : World) (hl : Sl 1 w v l.length (ints l)) (hE : rowsErr h l ≠ 0) :
    Calls Try.prog 31 #[.int .i64 h, v] w fun e w' => e = .returned (.tuple #[.slice none 0 0, .int .i64 (rowsErr h l)]) ∧ Dr w w' := by
  have HL := hid hl
  obtain ⟨ao, cap, rfl, _, hl1, hl2, hl3⟩ := hl
  clear hl3
  by_cases hh : 1 ≤ h ∧ h ≤ 4
  · obtain ⟨ha, hb⟩ := hh
    by_cases hn : 65536 < l.length
    · have e0 : rowsErr h l = 4 := by rw [rowsErr, if_pos ⟨ha, hb⟩, if_pos hn]
      rw [e0]
      clear hE e0
      go_enter Try.func31, Try.ntmps31
      go_wp2
      go_ret2
      exact ⟨rfl, Dr.refl _⟩
    · have e0 : rowsErr h l = 2 ∧ l.all (okCol h) = false := by
        rw [rowsErr, if_pos ⟨ha, hb⟩, if_neg hn] at hE ⊢
        cases hq : l.all (okCol h) <;> simp_all
      have HA := hid e0.2
      rw [e0.1]
      clear hE e0
      go_enter Try.func31, Try.ntmps31
      go_wp2
      go_loopw [6] (fun i wr => ∃ k : Nat, k ≤ l.length ∧ i = .int .i64 k ∧ Dr w wr ∧ Hid ((l.drop k).all (okCol h) = false)) (fun i _ => l.length - (intOf i).toNat)
      case atStart => exact ⟨0, Nat.zero_le _, rfl, Dr.refl _, HA⟩
      case round =>
        obtain ⟨k, hk, rfl, hD, HK⟩ := hrel
        have HD := hid hD
        clear hD
        by_cases hlt : k < l.length
        · obtain ⟨x, hx⟩ := some_of_lt hlt
          obtain ⟨b, o, rfl, c1⟩ := (HL.out.dr HD.out).cell (ints_get hx)
          have HX := hid hx
          clear hx
          have HS := hid (show (2 : Int) ^ h.toNat = side h from rfl)
          by_cases h0 : 0 ≤ x
          · have hx0 : decide (x < 0) = false := by simp; omega
            by_cases h9 : x < side h
            · have hx9 : decide (side h ≤ x) = false := by simp; omega
              have HN := hid (by have := HK.out; rw [drop_cons HX.out, List.all_cons] at this; simpa [okCol, h0, h9] using this : (l.drop (k + 1)).all (okCol h) = false)
              clear h9
              generalize side h = S at *
              go_upto_region 8 with fail
              go_quiet ((go_at_call 49; exact quietE HS.out (refSize_any h _ (by omega) (by omega))))
              go_wp2
              go_roundw
              case rel => exact ⟨k + 1, by omega, by go_num, HD.out.drewN _, HN⟩
              case measure => simp [intOf]; omega
            · have hx9 : decide (side h ≤ x) = true := by simp; omega
              clear h9
              generalize side h = S at *
              go_upto_region 8 with fail
              go_quiet ((go_at_call 49; exact quietE HS.out (refSize_any h _ (by omega) (by omega))))
              go_wp2
              go_ret2
              exact ⟨rfl, HD.out.drewN _⟩
          · have hx0 : decide (x < 0) = true := by simp; omega
            go_upto_region 8 with fail
            go_quiet ((go_at_call 49; exact quietE HS.out (refSize_any h _ (by omega) (by omega))))
            go_wp2
            go_ret2
            exact ⟨rfl, HD.out.drewN _⟩
        · exfalso
          have := HK.out
          rw [drop_all (by omega)] at this
          simp at this
  · have e0 : rowsErr h l = 2 := by rw [rowsErr, if_neg hh]
    rw [e0]
    clear hE e0
    by_cases h1 : h < 1
    · go_enter Try.func31, Try.ntmps31
      go_wp2
      go_ret2
      exact ⟨rfl, Dr.refl _⟩
    · have h4 : 4 < h := by omega
      go_enter Try.func31, Try.ntmps31
      go_wp2
      go_ret2
      exact ⟨rfl, Dr.refl _⟩
set_option maxRecDepth 100000 in
set_option maxHeartbeats 4000000 in
theorem refRows_good (h : Int) (v : Value) (l : List Int) (w : World) (hl : Sl 1 w v l.length (ints l)) (h1 : 1 ≤ h) (h4 : h ≤ 4) (hn : l.length ≤ 65536) (ha : l.all (okCol h) = true) :
    Calls Try.prog 31 #[.int .i64 h, v] w fun e w' => ∃ v', e = .returned (.tuple #[v', .int .i64 0]) ∧ w'.ownsRow w.heap.size 9 1 v' h.toNat (strs (rowsGo h l h.toNat)) ∧ Below w.heap.size w w' := by
  have HS := hid hl
  obtain ⟨ao, cap, rfl, _, hl1, hl2, hl3⟩ := hl
  have HA := hid ha
  have HSd := hid (show (2 : Int) ^ h.toNat = side h from rfl)
  obtain ⟨H, hH⟩ : ∃ H : Nat, h = (H : Int) := ⟨h.toNat, by omega⟩
  subst hH
  have HH := hid (Int.toNat_natCast H)
  clear ha hl3
  go_enter Try.func31, Try.ntmps31
  go_wp2
  go_loopw [6] (fun i wr => ∃ k : Nat, k ≤ l.length ∧ i = .int .i64 k ∧ Dr w wr) (fun i _ => l.length - (intOf i).toNat)
  case atStart => exact ⟨0, Nat.zero_le _, rfl, Dr.refl _⟩
  case round =>
    obtain ⟨k, hk, rfl, hD⟩ := hrel
    have HD := hid hD
    clear hD
    by_cases hlt : k < l.length
    · obtain ⟨x, hx⟩ := some_of_lt hlt
      obtain ⟨b, o, rfl, c1⟩ := (HS.out.dr HD.out).cell (ints_get hx)
      obtain ⟨h0, h9⟩ := all_get HA.out hx
      have hx0 : decide (x < 0) = false := by simp; omega
      have hx9 : decide (side H ≤ x) = false := by simp; omega
      clear hx h9
      generalize side (H : Int) = S at *
      go_upto_region 8 with fail
      go_quiet ((go_at_call 49; exact quietE HSd.out (refSize_any (H : Int) _ (by omega) (by omega))))
      go_wp2
      go_roundw
      case rel => exact ⟨k + 1, by omega, by go_num, HD.out.drewN _⟩
      case measure => simp [intOf]; omega
    · obtain ⟨w1, hw1⟩ : ∃ w1 : World, w1 = wr := ⟨_, rfl⟩
      have hsz := (HD.out.below w.heap.size).size
      have HS1 := hid (HS.out.dr HD.out)
      have HDb := hid (HD.out.below w.heap.size)
      clear HD HS
      go_wp2_with fail
      clear hlt hk
      go_loopw [7, 8] (fun u i wr => ∃ j : Nat, j ≤ H ∧ i = .int .i64 j ∧ wr.ownsRow w1.heap.size 9 1 u j (strs (rowsGo H l j)) ∧ Below w1.heap.size w1 wr) (fun _ i _ => H - (intOf i).toNat)
      case atStart => subst hw1; exact ⟨0, by omega, rfl, own_empty _ _ _, (Below.refl _ _).alloc (Nat.le_refl _) _⟩
      case round =>
        obtain ⟨j, hj, rfl, hown, hbel⟩ := hrel
        by_cases hlt2 : j < H
        · have hS2 := HS1.out
          rw [← hw1] at hS2
          have HS2 := hid (hS2.below hbel)
          clear hS2
          have HP := hid (show (H : Int).toNat - 1 - j = H - 1 - j by omega)
          obtain ⟨p, hp⟩ : ∃ p, p = H - 1 - j := ⟨_, rfl⟩
          have HPp := hid hp
          clear hp
          go_wp2_with fail
          obtain ⟨wo, rfl⟩ : ∃ wo : World, wo = wr := ⟨_, rfl⟩
          have HBel := hid hbel
          have HOwn := hid hown
          clear hbel hown
          go_loopw [9, 10] (fun u i wr => ∃ q : Nat, q ≤ l.length ∧ i = .int .i64 q ∧ (∃ g gc, u = .slice (some ⟨g, 0, none⟩) (rowStr p (l.take q)).length gc) ∧ wr.ownsRow wo.heap.size 5 1 u (rowStr p (l.take q)).length (Lib.byteCells (rowStr p (l.take q))) ∧ Below wo.heap.size wo wr) (fun _ i _ => l.length - (intOf i).toNat)
          case atStart => exact ⟨0, by omega, rfl, ⟨_, _, rfl⟩, own_empty _ _ _, (Below.refl _ _).alloc (Nat.le_refl _) _⟩
          case round =>
            obtain ⟨q, hq, rfl, ⟨g, gc, rfl⟩, hown, hbel⟩ := hrel
            by_cases hlt4 : q < l.length
            · obtain ⟨x, hx⟩ := some_of_lt hlt4
              obtain ⟨b, o, hbo, c1⟩ := (HS2.out.below hbel).cell (ints_get hx)
              obtain ⟨h0, h9⟩ := all_get HA.out hx
              have hx15 : x ≤ 15 := Int.le_of_lt_add_one (Int.lt_of_lt_of_le h9 (side_wrap (H : Int) h1 h4).2.2)
              have HX := hid hx
              have hlen : (rowStr p (l.take q)).length ≤ 65536 := by rw [rowStr_len, List.length_take]; omega
              have HB := hid (refBit_any H x (j : Int))
              have HBB := hid (show bt x (H - 1 - (j : Int).toNat) = bt x p by rw [HPp.out, Int.toNat_natCast])
              have HD := hid (dig_bt p x)
              have hbb := bt_bound x p
              clear hx h9
              generalize bt x p = B at *
              go_wp2_with (first
                | (go_at_call 56; refine (HB.out _ (by omega) h0 hx15 (by omega) (by omega)).mono ?_; rintro e w' ⟨rfl, rfl⟩; rw [HBB.out])
                | (at_builtin; refine wpList_push _ rfl _ _ 22 rfl wo.heap.size 5 (.int .u8 0) 1 1 Try.underlying22 Try.infoU8 rfl (by decide) _ _ _ rfl hown #[.int .u8 (48 + B)] rfl (oneCell_int _ _) rfl (by unfold maxLen; omega) (by omega) hbel.size ?_; intro g2 gc2 w2 hown2 hg2 hb2))
              go_roundw
              case rel => exact ⟨q + 1, by omega, by go_num, by rw [take_snoc HX.out, rowStr_snoc, List.length_append]; rfl, by rw [take_snoc HX.out, byteCells_dig, HD.out, rowStr_snoc, List.length_append]; exact hown2, hbel.trans hb2⟩
              case measure => simp [intOf]; omega
            · have e : l.take q = l := take_all (by omega)
              rw [e] at hown
              rw [e]
              have HT2 := hid (rowsGo_succ (H : Int) l j)
              rw [HP.out, ← HPp.out] at HT2
              clear e
              generalize rowStr p l = S at *
              have hconv := run_convert_bytes_back (P := Try.prog) wr 22 9 5 ⟨g, 0, none⟩ gc S Try.underlying22 Try.underlying5 Try.underlying9 (fun j hj => by
                have := hown.cells (g := g) rfl j (.int .u8 (S[j].toNat : Int)) (by simp [Lib.byteCells, hj])
                exact this)
              have hown0 := own_below HOwn.out hbel
              have hbs := hbel.size
              have hbs0 := HBel.out.size
              clear hown
              go_wp2_with (at_builtin; refine wpList_push _ rfl _ _ 26 rfl w1.heap.size 9 (.string ⟨#[]⟩) 1 16 Try.underlying26 Try.info9 rfl (by decide) _ _ _ rfl hown0 #[.string ⟨S.toArray⟩] rfl (oneCell_string _) rfl (by unfold maxLen; omega) (by omega) (by omega) ?_; intro g3 gc3 w3 hown3 hg3 hb3)
              go_roundw
              case rel => exact ⟨j + 1, by omega, by go_num, by rw [HT2.out, strs_snoc]; exact hown3, (HBel.out.trans (hbel.mono hbs0)).trans hb3⟩
              case measure => simp [intOf]; omega
        · go_wp2
          go_ret2
          obtain rfl : j = H := by omega
          rw [HH.out]
          subst hw1
          exact ⟨_, rfl, own_base hown hsz, bel_step HDb.out hbel⟩

theorem refRows_any (h : Int) (v : Value) (l : List Int) (w : World) (hl : Sl 1 w v l.length (ints l)) :
    Calls Try.prog 31 #[.int .i64 h, v] w fun e w' => ∃ v', e = .returned (.tuple #[v', .int .i64 (rowsErr h l)]) ∧ w'.ownsRow w.heap.size 9 1 v' (rowsL h l).length (strs (rowsL h l)) ∧ Below w.heap.size w w' := by
  by_cases hE : rowsErr h l = 0
  · have hh : 1 ≤ h ∧ h ≤ 4 := by
      apply Classical.byContradiction
      intro hn
      rw [rowsErr, if_neg hn] at hE
      cases hE
    have hn : ¬ 65536 < l.length := by
      intro hn
      rw [rowsErr, if_pos hh, if_pos hn] at hE
      cases hE
    have ha : l.all (okCol h) = true := by
      rw [rowsErr, if_pos hh, if_neg hn] at hE
      cases hq : l.all (okCol h) <;> simp_all
    refine (refRows_good h v l w hl hh.1 hh.2 (by omega) ha).mono ?_
    rintro e w' ⟨v', rfl, ho, hb⟩
    exact ⟨v', by rw [hE], by rw [rowsL, if_pos hE, rowsGo_len]; exact ho, hb⟩
  · refine (refRows_bad h v l w hl hE).mono ?_
    rintro e w' ⟨rfl, hd⟩
    exact ⟨_, rfl, by rw [rowsL, if_neg hE]; exact World.ownsRow_nil _ _ _ _, hd.below _⟩
end Go.Proofs.Ytppflnkadjddiaa
