/-
  The reference's words and codes: the number of a letter, why a word or a code is not valid, the order of words, whether a code is a prefix code.
  No condition beyond the words lying in a slice.
-/
import Derived.Test.YtalklhjmnoodeaaPrefixCk
import Derived.Test.YtalklhjmnoodeaaIndexW
import Derived.Deep.QuietTactic
namespace Go.Proofs.Ytalklhjmnoodeaa
open Go.RowKit
set_option linter.unusedVariables false

def dig0 (c : UInt8) : Nat := (digit c).toNat
theorem letter_dig0 {c : UInt8} (h : 0 ≤ digit c) : lettersL.getD (dig0 c) 0 = c := by
  have key : ∀ (l : List UInt8) (c : UInt8), 0 ≤ Lib.indexByte l c → l.getD (Lib.indexByte l c).toNat 0 = c := by
    intro l
    induction l with
    | nil => intro c h; simp [Lib.indexByte] at h
    | cons b l ih =>
      intro c h
      rw [Lib.indexByte] at h ⊢
      by_cases hb : (b == c) = true
      · rw [if_pos hb]; simpa using hb
      · rw [if_neg hb] at h ⊢
        by_cases hi : (Lib.indexByte l c == -1) = true
        · rw [if_pos hi] at h; omega
        · rw [if_neg hi] at h ⊢
          have hlow := (ib_low l c).1
          have hne : Lib.indexByte l c ≠ -1 := by simpa using hi
          have := ih c (by omega)
          rw [show (Lib.indexByte l c + 1).toNat = (Lib.indexByte l c).toNat + 1 by omega]
          simpa using this
  exact key lettersL c h
theorem next_digit {c : UInt8} {k : Nat} (h : ∀ j < k, lettersL.getD j 0 ≠ c) (hc : ¬ lettersL.getD k 0 = c) : ∀ j < k + 1, lettersL.getD j 0 ≠ c := fun j hj => by
  by_cases e : j = k
  · subst e; exact hc
  · exact h j (by omega)
theorem digit_at {c : UInt8} {k : Nat} (hk : k < 16) (h : ∀ j < k, lettersL.getD j 0 ≠ c) (he : lettersL.getD k 0 = c) : digit c = k := by
  have h1 := (digit_letW hk).1
  rw [he] at h1
  exact h1
theorem digit_none {c : UInt8} (h : ∀ j < 16, lettersL.getD j 0 ≠ c) : digit c = -1 := by
  by_cases g : 0 ≤ digit c
  · have := (digit_low c).2
    exact absurd (letter_dig0 g) (h _ (by unfold dig0; omega))
  · have := (digit_low c).1
    omega
set_option maxRecDepth 100000 in
set_option maxHeartbeats 4000000 in
theorem rdigit_any (c : UInt8) (w : World) : Calls Try.prog 60 #[.int .u8 (c.toNat : Int)] w fun e w' => e = .returned (.int .i64 (digit c)) ∧ w = w' := by
  go_enter Try.func60, Try.ntmps60
  go_wp2
  go_loop [3] (fun i => ∃ k : Nat, k ≤ 16 ∧ i = .int .i64 k ∧ Hid (∀ j < k, lettersL.getD j 0 ≠ c)) (fun i => 16 - (intOf i).toNat)
  case atStart => exact ⟨0, by omega, rfl, hid (fun j h => by omega)⟩
  case round =>
    obtain ⟨k, hk, rfl, HK⟩ := hrel
    by_cases hlt : k < 16
    · have hk16 : k < (⟨#[48, 49, 50, 51, 52, 53, 54, 55, 56, 57, 97, 98, 99, 100, 101, 102]⟩ : ByteArray).size := hlt
      have hbyte : (⟨#[48, 49, 50, 51, 52, 53, 54, 55, 56, 57, 97, 98, 99, 100, 101, 102]⟩ : ByteArray)[k]'hk16 = lettersL.getD k 0 := byte_of _ k hk16
      have HN := hid (fun h => next_digit (k := k) HK.out h)
      have HD := hid (fun h => digit_at hlt HK.out h)
      generalize lettersL.getD k 0 = L at *
      by_cases hc : L = c
      · have HD2 := hid (HD.out hc)
        have hb : ((L.toNat : Int) == (c.toNat : Int)) = true := by rw [hc]; simp
        clear hc
        go_wp2
        go_ret
        exact ⟨by rw [HD2.out]; rfl, rfl⟩
      · have HN2 := hid (HN.out hc)
        have hb : ((L.toNat : Int) == (c.toNat : Int)) = false := by
          rw [beq_eq_false_iff_ne]
          exact fun h => hc (UInt8.toNat_inj.1 (by omega))
        clear hc
        go_wp2
        go_round
        case rel => exact ⟨k + 1, by omega, by go_num, HN2⟩
        case measure => simp [intOf]; omega
    · obtain rfl : k = 16 := by omega
      have HN := hid (digit_none HK.out)
      go_wp2
      go_ret
      exact ⟨by rw [HN.out]; rfl, rfl⟩

set_option maxHeartbeats 2000000 in
theorem rwcheck_any (q : Int) (s : ByteArray) (w : World) :
    Calls Try.prog 43 #[.int .i64 q, .string s] w fun e w' => e = .returned (.int .i64 (wordErr q s)) ∧ w = w' := by
  by_cases hq : q < 1 ∨ 16 < q
  · have e : wordErr q s = 12 := by rw [wordErr, if_pos hq]
    rw [e]
    clear e
    rcases hq with hq | hq
    · go_enter Try.func43, Try.ntmps43
      go_wp2
      go_ret
      exact ⟨rfl, rfl⟩
    · have h1 : ¬ q < 1 := by omega
      go_enter Try.func43, Try.ntmps43
      go_wp2
      go_ret
      exact ⟨rfl, rfl⟩
  · have h1 : ¬ q < 1 := by omega
    have h2 : ¬ 16 < q := by omega
    by_cases hs : 65536 < s.size
    · have e : wordErr q s = 4 := by rw [wordErr, if_neg hq, if_pos hs]
      rw [e]
      clear e hq
      go_enter Try.func43, Try.ntmps43
      go_wp2
      go_ret
      exact ⟨rfl, rfl⟩
    · have HE := hid (fun h4 => wordErr_ok (q := q) (w := s) (by omega) (by omega) (by omega) h4)
      have HB := hid (fun h4 => wordErr_bad (q := q) (w := s) (by omega) (by omega) (by omega) h4)
      clear hq
      go_enter Try.func43, Try.ntmps43
      go_wp2
      go_loop [5] (fun i => ∃ k : Nat, k ≤ s.size ∧ i = .int .i64 k ∧ Hid (∀ j c, j < k → s.data.toList[j]? = some c → 0 ≤ digit c ∧ digit c < q)) (fun i => s.size - (intOf i).toNat)
      case atStart => exact ⟨0, Nat.zero_le _, rfl, hid (fun j c hj => by omega)⟩
      case round =>
        obtain ⟨k, hk, rfl, HK⟩ := hrel
        by_cases hlt : k < s.size
        · have hbyte := byte_of s k hlt
          have HX := hid (show s.data.toList[k]? = some (s.data.toList.getD k 0) by
            have h' : k < s.data.toList.length := by simpa using hlt
            rw [List.getD_eq_getElem?_getD, List.getElem?_eq_getElem h']; rfl)
          generalize s.data.toList.getD k 0 = c at *
          have HDg := hid (fun X => rdigit_any c X)
          have HR := hid (show (∀ j c', j < k + 1 → s.data.toList[j]? = some c' → 0 ≤ digit c' ∧ digit c' < q) ∨ ¬ (0 ≤ digit c ∧ digit c < q) by
            by_cases g : 0 ≤ digit c ∧ digit c < q
            · left
              intro j c' hj hc'
              by_cases e : j = k
              · subst e
                have h2 := HX.out
                rw [hc'] at h2
                rw [Option.some.inj h2]
                exact g
              · exact HK.out j c' (by omega) hc'
            · exact .inr g)
          have HW := hid (fun g : ¬ (0 ≤ digit c ∧ digit c < q) => HB.out (fun h => g (okWord_iff.1 h k c HX.out)))
          generalize hd : digit c = d at *
          have HdE := hid hd
          clear hd
          by_cases g1 : d < 0
          · have HR2 := hid (HW.out (by omega))
            go_wp2_with (go_at_call 60; refine (HDg.out _).mono ?_; rintro e w' ⟨rfl, rfl⟩)
            go_ret
            exact ⟨by rw [HR2.out]; rfl, rfl⟩
          · by_cases g2 : q ≤ d
            · have HR2 := hid (HW.out (by omega))
              go_wp2_with (go_at_call 60; refine (HDg.out _).mono ?_; rintro e w' ⟨rfl, rfl⟩)
              go_ret
              exact ⟨by rw [HR2.out]; rfl, rfl⟩
            · have HR2 := hid (HR.out.resolve_right (by omega))
              go_wp2_with (go_at_call 60; refine (HDg.out _).mono ?_; rintro e w' ⟨rfl, rfl⟩)
              go_round
              case rel => exact ⟨k + 1, by omega, by go_num, HR2⟩
              case measure => simp [intOf]; omega
        · have HR := hid (HE.out (okWord_iff.2 fun j c hc => HK.out j c (by have := lt_of_some hc; simp at this; omega) hc))
          go_wp2
          go_ret
          exact ⟨by rw [HR.out]; rfl, rfl⟩
set_option maxHeartbeats 1000000 in
theorem rless_any (a b : ByteArray) (w : World) : Calls Try.prog 103 #[.string a, .string b] w fun e w' => e = .returned (.bool (lessW a b)) ∧ w = w' := by
  by_cases h : a.size = b.size
  · have e : lessW a b = Op.bytesLess a.toList b.toList := by
      rw [Lib.toList_data, Lib.toList_data, cb_less, lessW, cmpW, if_neg (by omega), if_neg (by omega)]
    rw [e]
    have hb : ((a.size : Int) != (b.size : Int)) = false := by simp [h]
    clear e
    go_enter Try.func103, Try.ntmps103
    go_wp2
    go_ret
    exact ⟨rfl, rfl⟩
  · have e : lessW a b = decide (a.size < b.size) := by
      rw [lessW, cmpW]
      by_cases g : a.size < b.size
      · rw [if_pos g, decide_eq_true g]; rfl
      · rw [if_neg g, if_pos (by omega), decide_eq_false g]; rfl
    rw [e]
    have hb : ((a.size : Int) != (b.size : Int)) = true := by simp; omega
    clear e h
    go_enter Try.func103, Try.ntmps103
    go_wp2
    go_ret
    exact ⟨rfl, rfl⟩
theorem pre_iff (u w : List UInt8) : Lib.hasPrefix w u = decide (w.take u.length = u) := by
  rw [Bool.eq_iff_iff, decide_eq_true_iff]
  show u.isPrefixOf w = true ↔ _
  rw [List.isPrefixOf_iff_prefix, List.prefix_iff_eq_take]
  exact eq_comm
set_option maxHeartbeats 1000000 in
theorem rbegins_any (x u : ByteArray) (w : World) : Calls Try.prog 80 #[.string x, .string u] w fun e w' => e = .returned (.bool (begW x u)) ∧ w = w' := by
  by_cases h : u.size ≤ x.size
  · obtain ⟨z, hz⟩ : ∃ z, x.extract 0 u.size = z := ⟨_, rfl⟩
    have hb : (z.toList == u.toList) = begW x u := by
      rw [begW, pre_iff, Lib.toList_data, Lib.toList_data, ← hz, Lib.extract_data, ba_len]
      simp only [List.drop_zero, Nat.sub_zero]
      rw [Bool.eq_iff_iff, beq_iff_eq, decide_eq_true_iff]
    have hd : decide (u.size ≤ x.size) = true := by simpa using h
    have h1 : (0 : Int) ≤ (u.size : Int) := by omega
    have h2 : (u.size : Int) ≤ (x.size : Int) := by omega
    generalize begW x u = B at *
    clear h
    go_enter Try.func80, Try.ntmps80
    go_wp2
    go_ret
    exact ⟨rfl, rfl⟩
  · have hb : begW x u = false := by
      rw [begW, pre_iff, decide_eq_false_iff_not]
      intro e
      have := congrArg List.length e
      rw [List.length_take, ba_len, ba_len] at this
      omega
    have hd : decide (u.size ≤ x.size) = false := by simpa using h
    rw [hb]
    clear h hb
    go_enter Try.func80, Try.ntmps80
    go_wp2
    go_ret
    exact ⟨rfl, rfl⟩
theorem idxW_skip {ws : List ByteArray} {x : ByteArray} {k : Nat} (h : ∀ j < k, ws[j]? ≠ some x) (hk : ws[k]? = some x) : idxW ws x = k := by
  induction ws generalizing k with
  | nil => simp at hk
  | cons y r ih =>
    cases k with
    | zero =>
      simp only [List.getElem?_cons_zero, Option.some.injEq] at hk
      rw [idxW, if_pos hk]; rfl
    | succ k =>
      rw [List.getElem?_cons_succ] at hk
      have hy : ¬ y = x := fun e => h 0 (by omega) (by rw [e]; rfl)
      have := ih (fun j hj => by have := h (j + 1) (by omega); rwa [List.getElem?_cons_succ] at this) hk
      rw [idxW, if_neg hy, this, if_neg (by omega)]
      omega
theorem idxW_miss {ws : List ByteArray} {x : ByteArray} (h : ∀ j < ws.length, ws[j]? ≠ some x) : idxW ws x = -1 := by
  by_cases g : 0 ≤ idxW ws x
  · exact absurd (idxW_get g) (h _ (by have := (idxW_low ws x).2; omega))
  · have := (idxW_low ws x).1; omega
set_option maxHeartbeats 1000000 in
theorem rindex_any (v : Value) (ws : List ByteArray) (x : ByteArray) (w : World) (hl : Sl 1 w v ws.length (strs ws)) :
    Calls Try.prog 59 #[v, .string x] w fun e w' => e = .returned (.int .i64 (idxW ws x)) ∧ w = w' := by
  have HL := hid hl
  obtain ⟨ao, cap, rfl, _, hl1, hl2, hl3⟩ := hl
  clear hl3
  go_enter Try.func59, Try.ntmps59
  go_wp2
  go_loop [5] (fun i => ∃ k : Nat, k ≤ ws.length ∧ i = .int .i64 k ∧ Hid (∀ j < k, ws[j]? ≠ some x)) (fun i => ws.length - (intOf i).toNat)
  case atStart => exact ⟨0, Nat.zero_le _, rfl, hid (fun j h => by omega)⟩
  case round =>
    obtain ⟨k, hk, rfl, HK⟩ := hrel
    by_cases hlt : k < ws.length
    · obtain ⟨y, hy⟩ := some_of_lt hlt
      obtain ⟨b, o, rfl, cy⟩ := HL.out.cell (strs_get hy)
      by_cases e : y = x
      · have HI := hid (idxW_skip HK.out (by rw [hy, e]))
        have hb : (y.toList == x.toList) = true := by rw [e]; simp
        clear hy e
        go_wp2
        go_ret
        exact ⟨by rw [HI.out]; rfl, rfl⟩
      · have HN := hid (show ∀ j < k + 1, ws[j]? ≠ some x from fun j hj => by
          by_cases e2 : j = k
          · rw [e2, hy]; exact fun h => e (Option.some.inj h)
          · exact HK.out j (by omega))
        have hb : (y.toList == x.toList) = false := by
          rw [beq_eq_false_iff_ne, Lib.toList_data, Lib.toList_data]
          exact fun h => e (ba_ext h)
        clear hy e
        go_wp2
        go_round
        case rel => exact ⟨k + 1, by omega, by go_num, HN⟩
        case measure => simp [intOf]; omega
    · obtain rfl : k = ws.length := by omega
      have HI := hid (idxW_miss HK.out)
      go_wp2
      go_ret
      exact ⟨by rw [HI.out]; rfl, rfl⟩

theorem bel_alloc0 (w : World) (o : Obj) : Below w.heap.size w (w.alloc o) := (Below.refl _ _).alloc (Nat.le_refl _) _
theorem less_not {a b : ByteArray} (h : lessW a b = false) : 0 ≤ cmpW a b := by simp only [lessW, decide_eq_false_iff_not] at h; omega
theorem less_yes {a b : ByteArray} (h : lessW a b = true) : ¬ 0 ≤ cmpW a b := by simp only [lessW, decide_eq_true_eq] at h; omega
set_option maxRecDepth 100000 in
set_option maxHeartbeats 2000000 in
theorem rccheck_any (q : Int) (v : Value) (ws : List ByteArray) (w : World) (hl : Sl 1 w v ws.length (strs ws)) :
    Calls Try.prog 79 #[.agg #[.int .i64 q, v]] w fun e w' => e = .returned (.int .i64 (codeErr q ws)) ∧ Below w.heap.size w w' := by
  have HL := hid hl
  obtain ⟨ao, cap, rfl, _, hl1, hl2, hl3⟩ := hl
  clear hl3
  by_cases hq : q < 2 ∨ 16 < q
  · have e : codeErr q ws = 12 := by rw [codeErr, if_pos hq]
    rw [e]
    by_cases hq2 : q < 2
    · clear hq e
      go_enter Try.func79, Try.ntmps79
      go_wp2
      go_ret
      exact ⟨rfl, bel_alloc0 _ _⟩
    · have hq3 : 16 < q := by omega
      clear hq e
      go_enter Try.func79, Try.ntmps79
      go_wp2
      go_ret
      exact ⟨rfl, bel_alloc0 _ _⟩
  · have hq0 : ¬ q < 2 := by omega
    have hq1 : ¬ 16 < q := by omega
    by_cases hn0 : ws.length = 0
    · have e : codeErr q ws = 5 := by rw [codeErr, if_neg hq, if_pos hn0]
      rw [e]
      clear e hq
      go_enter Try.func79, Try.ntmps79
      go_wp2
      go_ret
      exact ⟨rfl, bel_alloc0 _ _⟩
    · by_cases hn6 : 64 < ws.length
      · have e : codeErr q ws = 4 := by rw [codeErr, if_neg hq, if_neg hn0, if_pos hn6]
        rw [e]
        clear e hq
        go_enter Try.func79, Try.ntmps79
        go_wp2
        go_ret
        exact ⟨rfl, bel_alloc0 _ _⟩
      · have HE := hid (show codeErr q ws = codeGo q none ws by rw [codeErr, if_neg hq, if_neg hn0, if_neg hn6])
        clear hq
        go_enter Try.func79, Try.ntmps79
        go_wp2
        obtain ⟨w0, hw0⟩ : ∃ w0, w.alloc (.cells #[.int .i64 q, .slice ao ws.length cap] 24) = w0 := ⟨_, rfl⟩
        have hb0 : Below w.heap.size w w0 := by rw [← hw0]; exact bel_alloc0 _ _
        have c0 : w0.cell? ⟨w.heap.size, 0, none⟩ = some (.int .i64 q) := by rw [← hw0]; simp
        have c1 : w0.cell? ⟨w.heap.size, 1, none⟩ = some (.slice ao ws.length cap) := by rw [← hw0]; simp
        rw [hw0]
        have HB0 := hid hb0
        have HL0 := hid (HL.out.below hb0)
        clear hw0 hb0
        go_loop [3] (fun i => ∃ k : Nat, k ≤ ws.length ∧ i = .int .i64 k ∧ Hid (codeErr q ws = codeGo q (prevW ws k) (ws.drop k))) (fun i => ws.length - (intOf i).toNat)
        case atStart => exact ⟨0, Nat.zero_le _, rfl, HE⟩
        case round =>
          obtain ⟨k, hk, rfl, HK⟩ := hrel
          by_cases hlt : k < ws.length
          · obtain ⟨x, hx⟩ := some_of_lt hlt
            obtain ⟨b, o, rfl, cx⟩ := HL0.out.cell (strs_get hx)
            have HX := hid hx
            have HS := hid (empty_eq x)
            clear hx
            by_cases hx0 : x.size = 0
            · have HR := hid (codeGo_empty (q := q) (p := prevW ws k) (r := ws.drop (k + 1)) hx0)
              have he : x.toList.isEmpty = true := by rw [HS.out]; simpa using hx0
              clear hx0
              go_wp2
              go_ret
              exact ⟨ret_int (by rw [HK.out, drop_cons HX.out, HR.out]), HB0.out⟩
            · have he : x.toList.isEmpty = false := by rw [HS.out]; simpa using hx0
              by_cases hx1 : 32 < x.size
              · have HR := hid (codeGo_long (q := q) (p := prevW ws k) (r := ws.drop (k + 1)) hx0 hx1)
                clear hx0
                go_wp2
                go_ret
                exact ⟨ret_int (by rw [HK.out, drop_cons HX.out, HR.out]), HB0.out⟩
              · have HCw := hid (fun X => rwcheck_any q x X)
                by_cases hx2 : wordErr q x = 0
                · have HR := hid (And.intro hx0 (And.intro hx1 hx2))
                  rw [hx2] at HCw
                  clear hx2 hx0
                  by_cases hk0 : k = 0
                  · subst hk0
                    simp only [Nat.add_zero] at cx
                    go_wp2_with (go_at_call 43; refine (HCw.out _).mono ?_; rintro e w' ⟨rfl, rfl⟩)
                    go_round
                    case rel => exact ⟨1, by omega, rfl, hid (by rw [HK.out, drop_cons HX.out, prevW_succ HX.out]; exact codeGo_first HR.out.1 HR.out.2.1 HR.out.2.2)⟩
                    case measure => simp [intOf]; omega
                  · obtain ⟨y, hy⟩ := some_of_lt (l := ws) (k := k - 1) (by omega)
                    obtain ⟨b2, o2, e2, cy⟩ := HL0.out.cell (strs_get hy)
                    simp only [Option.some.injEq, Addr.mk.injEq, and_true] at e2
                    obtain ⟨rfl, rfl⟩ := e2
                    have HP := hid (show prevW ws k = some y by rw [prevW, if_neg hk0, hy])
                    have hk1 : 1 ≤ k := by omega
                    have hkg : (decide (0 < (k : Int))) = true := by simp; omega
                    have HLs := hid (fun X => rless_any y x X)
                    clear hy
                    cases hc : lessW y x
                    · have HO := hid (codeGo_order (r := ws.drop (k + 1)) HR.out.1 HR.out.2.1 HR.out.2.2 (less_not hc))
                      rw [hc] at HLs
                      clear hc
                      go_wp2_with (first
                        | (go_at_call 43; refine (HCw.out _).mono ?_; rintro e w' ⟨rfl, rfl⟩)
                        | (go_at_call 103; refine (HLs.out _).mono ?_; rintro e w3 ⟨rfl, rfl⟩))
                      go_ret
                      exact ⟨ret_int (by rw [HK.out, drop_cons HX.out, HP.out, HO.out]), HB0.out⟩
                    · have HO := hid (codeGo_next (q := q) (r := ws.drop (k + 1)) HR.out.1 HR.out.2.1 HR.out.2.2 (less_yes hc))
                      rw [hc] at HLs
                      clear hc
                      go_wp2_with (first
                        | (go_at_call 43; refine (HCw.out _).mono ?_; rintro e w' ⟨rfl, rfl⟩)
                        | (go_at_call 103; refine (HLs.out _).mono ?_; rintro e w3 ⟨rfl, rfl⟩))
                      go_round
                      case rel => exact ⟨k + 1, by omega, by go_num, hid (by rw [HK.out, drop_cons HX.out, prevW_succ HX.out, HP.out, HO.out])⟩
                      case measure => simp [intOf]; omega
                · have HR := hid (codeGo_word (q := q) (p := prevW ws k) (r := ws.drop (k + 1)) hx0 hx1 hx2)
                  have hn0 : (wordErr q x != 0) = true := by simp [hx2]
                  clear hx2 hx0
                  generalize hE : wordErr q x = E at *
                  clear hE
                  go_wp2_with (go_at_call 43; refine (HCw.out _).mono ?_; rintro e w' ⟨rfl, rfl⟩)
                  go_ret
                  exact ⟨ret_int (by rw [HK.out, drop_cons HX.out, HR.out]), HB0.out⟩
          · go_wp2
            go_ret
            exact ⟨ret_int (by rw [HK.out, drop_all (by omega)]; rfl), HB0.out⟩
end Go.Proofs.Ytalklhjmnoodeaa
