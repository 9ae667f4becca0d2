/-
  code.before, code.Check, code.Prefix and parser.prefix: the order of words, why a code is not valid, whether it is a prefix code.
  No condition beyond the words lying in a slice.
-/
import Derived.Test.YtjcdddccnfiemaaDoorWordCk
namespace Go.Proofs.YtjcdddccnfiemaaDoor
open Go.RowKit
set_option linter.unusedVariables false

/-- The first of two numbers that is not 0. -/
def orI (x y : Int) : Int := if x = 0 then y else x
theorem orI_ne {x : Int} (y : Int) (h : ¬ x = 0) : orI x y = x := by rw [orI, if_neg h]
theorem orI_zero (y : Int) : orI 0 y = y := by rw [orI, if_pos rfl]
theorem or2 (x y : Int) (b : Nat) (w : World) (hx : w.cell? ⟨b, 0, none⟩ = some (.int .i64 x)) (hy : w.cell? ⟨b, 1, none⟩ = some (.int .i64 y)) :
    Calls Tryd.prog 51 #[.slice (some ⟨b, 0, none⟩) 2 2] w fun e w' => e = .returned (.int .i64 (orI x y)) ∧ w = w' := by
  go_enter Tryd.func51, Tryd.ntmps51
  go_wp2
  go_loop [8] (fun i => i = .int .i64 0 ∨ (i = .int .i64 1 ∧ x = 0) ∨ (i = .int .i64 2 ∧ x = 0 ∧ y = 0)) (fun i => 2 - (intOf i).toNat)
  case atStart => exact .inl rfl
  case round =>
    rcases hrel with rfl | ⟨rfl, h0⟩ | ⟨rfl, h0, h1⟩
    · by_cases hx0 : x = 0
      · have hb : (x != 0) = false := by simp [hx0]
        have HX := hid hx0
        clear hx0
        go_wp2
        go_round
        case rel => exact .inr (.inl ⟨rfl, HX.out⟩)
        case measure => simp [intOf]
      · have hb : (x != 0) = true := by simp [hx0]
        have HX := hid hx0
        clear hx0
        go_wp2
        go_ret
        exact ⟨ret_int (orI_ne _ HX.out).symm, rfl⟩
    · subst h0
      by_cases hx0 : y = 0
      · have hb : (y != 0) = false := by simp [hx0]
        have HX := hid hx0
        clear hx0
        go_wp2
        go_round
        case rel => exact .inr (.inr ⟨rfl, trivial, HX.out⟩)
        case measure => simp [intOf]
      · have hb : (y != 0) = true := by simp [hx0]
        have HX := hid hx0
        clear hx0
        go_wp2
        go_ret
        exact ⟨ret_int (orI_zero _).symm, rfl⟩
    · subst h0 h1
      go_wp2
      go_ret
      exact ⟨ret_int (orI_zero _).symm, rfl⟩

theorem cmpW_or (a b : ByteArray) : orI (Lib.compareInt a.size b.size) (Lib.compareBytes a.data.toList b.data.toList) = cmpW a b := by
  unfold orI Lib.compareInt cmpW
  by_cases h1 : a.size < b.size
  · rw [if_pos (show (a.size : Int) < b.size by omega), if_pos h1]; rfl
  · by_cases h2 : b.size < a.size
    · rw [if_neg (show ¬ (a.size : Int) < b.size by omega), if_pos (show (a.size : Int) > b.size by omega), if_neg h1, if_pos h2]; rfl
    · rw [if_neg (show ¬ (a.size : Int) < b.size by omega), if_neg (show ¬ (a.size : Int) > b.size by omega), if_neg h1, if_neg h2]; rfl

set_option maxHeartbeats 1000000 in
theorem before_any (a b : ByteArray) (w : World) :
    Calls Tryd.prog 47 #[.string a, .string b] w fun e w' => e = .returned (.int .i64 (cmpW a b)) ∧ Below w.heap.size w w' := by
  have HE := hid (cmpW_or a b)
  go_enter Tryd.func47, Tryd.ntmps47
  go_wp2_with (first
    | (go_at_call 52; refine (Tryd.cmp_Compare_int _ _ _).mono ?_; rintro e w' ⟨rfl, rfl⟩)
    | (go_at_call 65; refine (Tryd.strings_Compare _ _ _).mono ?_; rintro e w' ⟨rfl, rfl⟩)
    | (go_at_call 51; refine (or2 (Lib.compareInt a.size b.size) (Lib.compareBytes a.data.toList b.data.toList) _ _ ?_ ?_).mono ?_; (simp [go_sem]); (simp [go_sem]); rintro e w3 ⟨rfl, rfl⟩))
  go_ret
  exact ⟨ret_int HE.out, (Below.refl _ _).alloc (Nat.le_refl _) _⟩

/-- A code among the arguments: its words lie in a slice. -/
theorem empty_eq (s : ByteArray) : s.toList.isEmpty = decide (s.size = 0) := by
  rw [Bool.eq_iff_iff, List.isEmpty_iff, decide_eq_true_iff, Lib.toList_data]
  rw [← ba_len s]
  exact List.length_eq_zero_iff.symm
def prevW (l : List ByteArray) (k : Nat) : Option ByteArray := if k = 0 then none else l[k-1]?
theorem prevW_succ {l : List ByteArray} {k : Nat} {x : ByteArray} (h : l[k]? = some x) : prevW l (k + 1) = some x := by simp [prevW, h]
theorem codeGo_empty {q : Int} {p : Option ByteArray} {x : ByteArray} {r : List ByteArray} (h : x.size = 0) : codeGo q p (x :: r) = 5 := by rw [codeGo, if_pos h]
theorem codeGo_long {q : Int} {p : Option ByteArray} {x : ByteArray} {r : List ByteArray} (h : ¬ x.size = 0) (h1 : 32 < x.size) : codeGo q p (x :: r) = 4 := by rw [codeGo, if_neg h, if_pos h1]
theorem codeGo_word {q : Int} {p : Option ByteArray} {x : ByteArray} {r : List ByteArray} (h : ¬ x.size = 0) (h1 : ¬ 32 < x.size) (h2 : wordErr q x ≠ 0) : codeGo q p (x :: r) = 13 := by rw [codeGo, if_neg h, if_neg h1, if_pos h2]
theorem codeGo_order {q : Int} {y x : ByteArray} {r : List ByteArray} (h : ¬ x.size = 0) (h1 : ¬ 32 < x.size) (h2 : wordErr q x = 0) (h3 : 0 ≤ cmpW y x) : codeGo q (some y) (x :: r) = 10 := by
  rw [codeGo, if_neg h, if_neg h1, if_neg (by simp [h2]), if_pos (by simp [lessW]; omega)]
theorem codeGo_next {q : Int} {y x : ByteArray} {r : List ByteArray} (h : ¬ x.size = 0) (h1 : ¬ 32 < x.size) (h2 : wordErr q x = 0) (h3 : ¬ 0 ≤ cmpW y x) : codeGo q (some y) (x :: r) = codeGo q (some x) r := by
  rw [codeGo, if_neg h, if_neg h1, if_neg (by simp [h2]), if_neg (by simp [lessW]; omega)]
theorem codeGo_first {q : Int} {x : ByteArray} {r : List ByteArray} (h : ¬ x.size = 0) (h1 : ¬ 32 < x.size) (h2 : wordErr q x = 0) : codeGo q none (x :: r) = codeGo q (some x) r := by
  rw [codeGo, if_neg h, if_neg h1, if_neg (by simp [h2]), if_neg (by simp)]

set_option maxRecDepth 100000 in
set_option maxHeartbeats 2000000 in
theorem ccheck_any (q : Int) (v : Value) (ws : List ByteArray) (w : World) (hl : Sl 1 w v ws.length (strs ws)) :
    Calls Tryd.prog 31 #[.agg #[.int .i64 q, v]] w fun e w' => e = .returned (.int .i64 (codeErr q ws)) ∧ Below w.heap.size w w' := by
  have HL := hid hl
  obtain ⟨ao, cap, rfl, _, hl1, hl2, hl3⟩ := hl
  by_cases hq : q < 2 ∨ 16 < q
  · have e : codeErr q ws = 12 := by rw [codeErr, if_pos hq]
    rw [e]
    rcases hq with hq | hq
    · go_enter Tryd.func31, Tryd.ntmps31
      go_wp2
      go_ret
      exact ⟨rfl, (Below.refl _ _).alloc (Nat.le_refl _) _⟩
    · by_cases hq2 : q < 2
      · omega
      · go_enter Tryd.func31, Tryd.ntmps31
        go_wp2
        go_ret
        exact ⟨rfl, (Below.refl _ _).alloc (Nat.le_refl _) _⟩
  · have hq0 : ¬ q < 2 := by omega
    have hq1 : ¬ 16 < q := by omega
    by_cases hn0 : ws.length = 0
    · have e : codeErr q ws = 5 := by rw [codeErr, if_neg hq, if_pos hn0]
      rw [e]
      clear e hq
      go_enter Tryd.func31, Tryd.ntmps31
      go_wp2
      go_ret
      exact ⟨rfl, (Below.refl _ _).alloc (Nat.le_refl _) _⟩
    · by_cases hn6 : 64 < ws.length
      · have e : codeErr q ws = 4 := by rw [codeErr, if_neg hq, if_neg hn0, if_pos hn6]
        rw [e]
        clear e hq
        go_enter Tryd.func31, Tryd.ntmps31
        go_wp2
        go_ret
        exact ⟨rfl, (Below.refl _ _).alloc (Nat.le_refl _) _⟩
      · have HE := hid (show codeErr q ws = codeGo q none ws by rw [codeErr, if_neg hq, if_neg hn0, if_neg hn6])
        clear hq
        go_enter Tryd.func31, Tryd.ntmps31
        go_wp2
        obtain ⟨w0, hw0⟩ : ∃ w0, w.alloc (.cells #[.int .i64 q, .slice ao ws.length cap] 24) = w0 := ⟨_, rfl⟩
        have hb0 : Below w.heap.size w w0 := by rw [← hw0]; exact (Below.refl _ _).alloc (Nat.le_refl _) _
        have c0 : w0.cell? ⟨w.heap.size, 0, none⟩ = some (.int .i64 q) := by rw [← hw0]; simp
        have c1 : w0.cell? ⟨w.heap.size, 1, none⟩ = some (.slice ao ws.length cap) := by rw [← hw0]; simp
        rw [hw0]
        have HB0 := hid hb0
        have HC := hid (And.intro c0 c1)
        clear hw0 hb0 c0 c1 hl3
        go_loopw [27] (fun i wr => ∃ k : Nat, k ≤ ws.length ∧ i = .int .i64 k ∧ Below w0.heap.size w0 wr ∧ Hid (codeErr q ws = codeGo q (prevW ws k) (ws.drop k))) (fun i _ => ws.length - (intOf i).toNat)
        case atStart => exact ⟨0, Nat.zero_le _, rfl, Below.refl _ _, HE⟩
        case round =>
          obtain ⟨k, hk, rfl, hb, HK⟩ := hrel
          have c0 := keeps hb HC.out.1
          have c1 := keeps hb HC.out.2
          have HBr := hid (bel_step HB0.out hb)
          have HBl := hid hb
          by_cases hlt : k < ws.length
          · obtain ⟨x, hx⟩ := some_of_lt hlt
            obtain ⟨b, o, rfl, cx⟩ := (HL.out.below HBr.out).cell (strs_get hx)
            have HX := hid hx
            have HS := hid (empty_eq x)
            clear hx hb
            by_cases hx0 : x.size = 0
            · have HR := hid (codeGo_empty (q := q) (p := prevW ws k) (r := ws.drop (k + 1)) hx0)
              have he : x.toList.isEmpty = true := by rw [HS.out]; simpa using hx0
              clear hx0
              go_wp2
              go_ret
              exact ⟨ret_int (by rw [HK.out, drop_cons HX.out, HR.out]), HBr.out⟩
            · have he : x.toList.isEmpty = false := by rw [HS.out]; simpa using hx0
              by_cases hx1 : 32 < x.size
              · have HR := hid (codeGo_long (q := q) (p := prevW ws k) (r := ws.drop (k + 1)) hx0 hx1)
                clear hx0
                go_wp2
                go_ret
                exact ⟨ret_int (by rw [HK.out, drop_cons HX.out, HR.out]), HBr.out⟩
              · by_cases hx2 : wordErr q x = 0
                · have HR := hid (And.intro hx0 (And.intro hx1 hx2))
                  have hn0 : (wordErr q x != 0) = false := by simp [hx2]
                  generalize hE : wordErr q x = E at *
                  clear hx2 hx0
                  by_cases hk0 : k = 0
                  · subst hk0
                    simp only [Nat.add_zero] at cx
                    go_wp2_with (go_at_call 5; refine (wcheck_any _ _ _).mono ?_; rintro e w' ⟨rfl, hD⟩; rw [hE])
                    go_roundw
                    case rel => exact ⟨1, by omega, rfl, bel_step HBl.out (hD.below _), hid (by rw [HK.out, drop_cons HX.out, prevW_succ HX.out]; exact codeGo_first HR.out.1 HR.out.2.1 (hE ▸ HR.out.2.2))⟩
                    case measure => simp [intOf]; omega
                  · obtain ⟨y, hy⟩ := some_of_lt (l := ws) (k := k - 1) (by omega)
                    obtain ⟨b2, o2, e2, cy⟩ := (HL.out.below HBr.out).cell (strs_get hy)
                    simp only [Option.some.injEq, Addr.mk.injEq, and_true] at e2
                    obtain ⟨rfl, rfl⟩ := e2
                    have HP := hid (show prevW ws k = some y by rw [prevW, if_neg hk0, hy])
                    have hk1 : 1 ≤ k := by omega
                    have hkg : (decide (0 < (k : Int))) = true := by simp; omega
                    clear hy
                    by_cases hc : 0 ≤ cmpW y x
                    · have HO := hid (codeGo_order (r := ws.drop (k + 1)) HR.out.1 HR.out.2.1 (hE ▸ HR.out.2.2) hc)
                      go_wp2_with (first
                        | (go_at_call 5; refine (wcheck_any _ _ _).mono ?_; rintro e w' ⟨rfl, hD⟩; rw [hE]; have cy := keeps (hD.below _) cy; have c1 := keeps (hD.below _) c1)
                        | (go_at_call 47; refine (before_any _ _ _).mono ?_; rintro e w3 ⟨rfl, hb3⟩))
                      go_ret
                      exact ⟨ret_int (by rw [HK.out, drop_cons HX.out, HP.out, HO.out]), bel_step (bel_step HBr.out (hD.below _)) hb3⟩
                    · have HO := hid (codeGo_next (q := q) (r := ws.drop (k + 1)) HR.out.1 HR.out.2.1 (hE ▸ HR.out.2.2) hc)
                      go_wp2_with (first
                        | (go_at_call 5; refine (wcheck_any _ _ _).mono ?_; rintro e w' ⟨rfl, hD⟩; rw [hE]; have cy := keeps (hD.below _) cy; have c1 := keeps (hD.below _) c1)
                        | (go_at_call 47; refine (before_any _ _ _).mono ?_; rintro e w3 ⟨rfl, hb3⟩))
                      go_roundw
                      case rel => exact ⟨k + 1, by omega, by go_num, bel_step (bel_step HBl.out (hD.below _)) hb3, hid (by rw [HK.out, drop_cons HX.out, prevW_succ HX.out, HP.out, HO.out])⟩
                      case measure => simp [intOf]; omega
                · have HR := hid (codeGo_word (q := q) (p := prevW ws k) (r := ws.drop (k + 1)) hx0 hx1 hx2)
                  have hn0 : (wordErr q x != 0) = true := by simp [hx2]
                  clear hx2 hx0
                  generalize hE : wordErr q x = E at *
                  go_wp2_with (go_at_call 5; refine (wcheck_any _ _ _).mono ?_; rintro e w' ⟨rfl, hD⟩; rw [hE])
                  go_ret
                  exact ⟨ret_int (by rw [HK.out, drop_cons HX.out, HR.out]), bel_step HBr.out (hD.below _)⟩
          · go_wp2
            go_ret
            exact ⟨ret_int (by rw [HK.out, drop_all (by omega)]; rfl), HBr.out⟩
end Go.Proofs.YtjcdddccnfiemaaDoor
