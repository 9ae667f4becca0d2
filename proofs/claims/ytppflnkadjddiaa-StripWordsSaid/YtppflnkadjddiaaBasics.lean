/-
  groovelaw19.numbers and blocks: the columns and the blocks that the statements of layer 19 draw.
  strip.Check and the reference's Check: the same error number for any height and list.
  strip.Hard: the blocks without two neighbouring bits 1.
  groovelaw19.blocks: the blocks that the statements of layer 19 draw.
  Conditions: No condition beyond the height being from 1 to 4. No condition. No condition. No condition.
-/
import Derived.Test.YtppflnkadjddiaaProg
import Derived.Test.YtppflnkadjddiaaLib
import Derived.Laws.BitsAllLaws
namespace Go.Proofs.Ytppflnkadjddiaa
open Go.RowKit
theorem Try.info3 : (Try.prog.info? 3).map (fun i => (i.zero, i.size, i.bytes)) = some (some (.int .i64 0), 1, 8) := by kernel_rfl

/-- The number of the columns of a height. -/
def side (h : Int) : Int := 2 ^ h.toNat
theorem side_wrap (h : Int) (h1 : 1 ≤ h) (h4 : h ≤ 4) : wrap64 (2 ^ h.toNat) = side h ∧ 2 ≤ side h ∧ side h ≤ 16 := by
  have : h = 1 ∨ h = 2 ∨ h = 3 ∨ h = 4 := by omega
  rcases this with rfl | rfl | rfl | rfl <;> decide +kernel

def colsOf (h : Int) (l : List Int) : List Int := l.map (· % side h)
theorem colsOf_snoc (h : Int) (l : List Int) (x : Int) : colsOf h (l ++ [x]) = colsOf h l ++ [x % side h] := by simp [colsOf]

set_option maxRecDepth 100000 in
set_option maxHeartbeats 400000 in
theorem numbers_any (h : Int) (v : Value) (l : List Int) (w : World) (h1 : 1 ≤ h) (h4 : h ≤ 4) (hl : Sl 1 w v l.length (l.map (.int .u8))) (hb : ∀ x ∈ l, 0 ≤ x ∧ x ≤ 255) (hn : l.length ≤ 1000) :
    Calls Try.prog 11 #[.int .i64 h, v] w fun e w' => ∃ v', e = .returned v' ∧ w'.ownsRow w.heap.size 3 1 v' l.length (ints (colsOf h l)) ∧ Below w.heap.size w w' := by
  obtain ⟨ao, cap, rfl, _, hc1, hm1, hs⟩ := hl
  obtain ⟨hm, hm2, hm16⟩ := side_wrap h h1 h4
  go_enter Try.func11, Try.ntmps11
  go_wp2
  go_loopw [5, 10] (fun u i wr => ∃ k : Nat, k ≤ l.length ∧ i = .int .i64 k ∧ wr.ownsRow w.heap.size 3 1 u k (ints (colsOf h (l.take k))) ∧ Below w.heap.size w wr) (fun _ i _ => l.length - (intOf i).toNat)
  case atStart => exact ⟨0, Nat.zero_le _, rfl, World.ownsRow_nil _ _ _ _, Below.refl _ _⟩
  case round =>
    obtain ⟨k, hk, rfl, hown, hbel⟩ := hrel
    by_cases hlt : k < l.length
    · obtain ⟨b, o, rfl, hc⟩ := Sl.pos hs (by omega)
      obtain ⟨x, hx⟩ := some_of_lt hlt
      obtain ⟨hx0, hx1⟩ := hb x (List.mem_of_getElem? hx)
      have c0 := hc k (.int .u8 x) (by simp [hx])
      have c1 := (hbel.cell (p := ⟨b, o + k, none⟩) (World.block_lt_of_cell? w _ c0)).trans c0
      have HX := hid hx
      clear hx hc c0
      go_wp2_with (at_builtin; refine wpList_push _ rfl _ _ 24 rfl w.heap.size 3 (.int .i64 0) 1 8 Try.underlying24 Try.info3 rfl (by decide) _ _ _ rfl hown #[.int .i64 (x % side h)] rfl (oneCell_int _ _) rfl (by unfold maxLen; omega) (by omega) hbel.size ?_; intro g gc w1 hown1 hg hb1)
      go_roundw
      case rel => exact ⟨k + 1, by omega, by go_num, by rw [take_snoc HX.out, colsOf_snoc, ints_snoc]; exact hown1, hbel.trans hb1⟩
      case measure => simp [intOf]; omega
    · go_wp2
      go_ret
      have e : k = l.length := by omega
      subst e
      rw [take_all (Nat.le_refl _)] at hown
      exact ⟨_, rfl, hown, hbel⟩
end Go.Proofs.Ytppflnkadjddiaa

namespace Go.Proofs.Ytppflnkadjddiaa
open Go.RowKit

theorem height_yes (h : Int) (w : World) (h1 : 1 ≤ h) (h2 : h ≤ 4) :
    Calls Try.prog 39 #[.int .i64 h] w fun e w' => e = .returned (.bool true) ∧ w = w' := by
  go_enter Try.func39, Try.ntmps39
  go_wp2
  go_ret
  exact ⟨by simp, rfl⟩
theorem height_no (h : Int) (w : World) (h1 : ¬ (1 ≤ h ∧ h ≤ 4)) :
    Calls Try.prog 39 #[.int .i64 h] w fun e w' => e = .returned (.bool false) ∧ w = w' := by
  by_cases h2 : 1 ≤ h
  · have h3 : ¬ h ≤ 4 := fun h => h1 ⟨h2, h⟩
    go_enter Try.func39, Try.ntmps39
    go_wp2
    go_ret
    exact ⟨by simp, rfl⟩
  · go_enter Try.func39, Try.ntmps39
    go_wp2
    go_ret
    exact ⟨rfl, rfl⟩

def chkGo (most : Int) : Option Int → List Int → Int
  | _, [] => 0
  | p, n :: r => if n < 0 ∨ most < n then 2 else if p.any (fun q => n ≤ q) then 10 else chkGo most (some n) r
def most (h : Int) : Int := if h = 1 then 3 else 15
def chk (h : Int) (l : List Int) : Int := if 1 ≤ h ∧ h ≤ 4 then chkGo (most h) none l else 2
def prev (l : List Int) (k : Nat) : Option Int := if k = 0 then none else l[k-1]?
theorem prev_succ (l : List Int) (k : Nat) (x : Int) (h : l[k]? = some x) : prev l (k + 1) = some x := by simp [prev, h]
theorem chk_bad {M : Int} {p : Option Int} {x : Int} {r : List Int} (h : x < 0 ∨ M < x) : chkGo M p (x :: r) = 2 := by rw [chkGo, if_pos h]
theorem chk_order {M : Int} {y x : Int} {r : List Int} (h : ¬ (x < 0 ∨ M < x)) (h' : x ≤ y) : chkGo M (some y) (x :: r) = 10 := by rw [chkGo, if_neg h, if_pos (by simpa using h')]
theorem chk_first {M : Int} {x : Int} {r : List Int} (h : ¬ (x < 0 ∨ M < x)) : chkGo M none (x :: r) = chkGo M (some x) r := by rw [chkGo, if_neg h, if_neg (by simp)]
theorem chk_next {M : Int} {y x : Int} {r : List Int} (h : ¬ (x < 0 ∨ M < x)) (h' : ¬ x ≤ y) : chkGo M (some y) (x :: r) = chkGo M (some x) r := by rw [chkGo, if_neg h, if_neg (by simpa using h')]

set_option maxHeartbeats 1000000 in
theorem check_any (h : Int) (l : List Int) (v : Value) (w : World) (hl : Sl 1 w v l.length (ints l)) :
    Calls Try.prog 32 #[.int .i64 h, v] w fun e w' => e = .returned (.int .i64 (chk h l)) ∧ w = w' := by
  obtain ⟨ao, cap, rfl, _, hl1, hl2, hl3⟩ := hl
  by_cases hh : 1 ≤ h ∧ h ≤ 4
  · have HE := hid (show chk h l = chkGo (most h) none l by rw [chk, if_pos hh])
    obtain ⟨ha, hb⟩ := hh
    go_enter Try.func32, Try.ntmps32
    go_upto_if 12 with (go_at_call 39; refine (height_yes _ _ (by omega) (by omega)).mono ?_; rintro e w' ⟨rfl, rfl⟩)
    go_cut [5] (fun m w' => w = w' ∧ m = .int .i64 (most h))
    case first =>
      by_cases h1 : h = 1
      · subst h1
        go_wp2
        go_meet
        exact ⟨rfl, rfl⟩
      · have e : most h = 15 := by rw [most, if_neg h1]
        go_wp2
        go_meet
        exact ⟨rfl, by rw [e]⟩
    case rest =>
      obtain ⟨rfl, rfl⟩ := hcut
      go_wp2
      go_loop [15] (fun i => ∃ k : Nat, k ≤ l.length ∧ i = .int .i64 k ∧ Hid (chk h l = chkGo (most h) (prev l k) (l.drop k))) (fun i => l.length - (intOf i).toNat)
      case atStart => exact ⟨0, Nat.zero_le _, rfl, HE⟩
      case round =>
        obtain ⟨k, hk, rfl, HK⟩ := hrel
        by_cases hlt : k < l.length
        · obtain ⟨b, o, rfl, hc⟩ := Sl.pos hl3 (by omega)
          obtain ⟨x, hx⟩ := some_of_lt hlt
          have c1 := hc k (.int .i64 x) (ints_get hx)
          have HX := hid hx
          clear hx
          by_cases hbad : x < 0 ∨ most h < x
          · have HB := hid (chk_bad (p := prev l k) (r := l.drop (k + 1)) hbad)
            clear hc
            rcases hbad with hbad | hbad
            · go_wp2
              go_ret
              exact ⟨ret_int (by rw [HK.out, drop_cons HX.out, HB.out]), rfl⟩
            · by_cases h0 : x < 0
              · go_wp2
                go_ret
                exact ⟨ret_int (by rw [HK.out, drop_cons HX.out, HB.out]), rfl⟩
              · go_wp2
                go_ret
                exact ⟨ret_int (by rw [HK.out, drop_cons HX.out, HB.out]), rfl⟩
          · have HB := hid hbad
            have hx0 : 0 ≤ x := by omega
            have hx1 : x ≤ most h := by omega
            clear hbad
            by_cases h0 : k = 0
            · subst h0
              simp only [Nat.add_zero] at c1
              go_wp2
              go_round
              case rel => exact ⟨1, by omega, rfl, hid (by rw [HK.out, drop_cons HX.out, prev_succ _ _ _ HX.out]; exact chk_first HB.out)⟩
              case measure => simp [intOf]; omega
            · obtain ⟨y, hy⟩ := some_of_lt (l := l) (k := k - 1) (by omega)
              have c2 := hc (k-1) (.int .i64 y) (ints_get hy)
              have HP := hid (show prev l k = some y by rw [prev, if_neg h0, hy])
              clear hy hc
              have hk1 : 1 ≤ k := by omega
              by_cases hxy : x ≤ y
              · go_wp2
                go_ret
                exact ⟨ret_int (by rw [HK.out, drop_cons HX.out, HP.out, chk_order HB.out hxy]), rfl⟩
              · go_wp2
                go_round
                case rel => exact ⟨k + 1, by omega, by go_num, hid (by rw [HK.out, drop_cons HX.out, prev_succ _ _ _ HX.out, HP.out]; exact chk_next HB.out hxy)⟩
                case measure => simp [intOf]; omega
        · go_wp2
          go_ret
          exact ⟨ret_int (by rw [HK.out, drop_all (by omega)]; rfl), rfl⟩
  · have e0 : chk h l = 2 := by rw [chk, if_neg hh]
    rw [e0]
    go_enter Try.func32, Try.ntmps32
    go_wp2_with (go_at_call 39; refine (height_no _ _ hh).mono ?_; rintro e w' ⟨rfl, rfl⟩)
    go_ret
    exact ⟨rfl, rfl⟩
end Go.Proofs.Ytppflnkadjddiaa

namespace Go.Proofs.Ytppflnkadjddiaa
open Go.RowKit
set_option linter.unusedVariables false

/-- A block without two neighbouring bits 1. -/
def hardB (n : Nat) : Bool := decide (n / 8 % 2 + n / 4 % 2 < 2) && decide (n / 2 % 2 + n % 2 < 2) && decide (n / 8 % 2 + n / 2 % 2 < 2) && decide (n / 4 % 2 + n % 2 < 2)
def hards : Nat → List Int
  | 0 => []
  | k + 1 => if hardB k then hards k ++ [(k : Int)] else hards k
theorem hards_all : hards 16 = [0, 1, 2, 4, 6, 8, 9] := by decide
theorem hards_len (k : Nat) : (hards k).length ≤ k := by
  induction k with
  | zero => simp [hards]
  | succ k ih =>
    rw [hards]
    split
    · simp; omega
    · omega
theorem hardB_iff (k : Nat) : hardB k = true ↔ (k / 8 % 2 + k / 4 % 2 < 2 ∧ k / 2 % 2 + k % 2 < 2 ∧ k / 8 % 2 + k / 2 % 2 < 2 ∧ k / 4 % 2 + k % 2 < 2) := by
  simp [hardB, and_assoc]
theorem hards_yes {k : Nat} (h : hardB k = true) : hards (k + 1) = hards k ++ [(k : Int)] := by rw [hards, if_pos h]
theorem hards_no {k : Nat} (h : hardB k = false) : hards (k + 1) = hards k := by rw [hards, if_neg (by simp [h])]
def HardRel (w : World) (u i : Value) (wr : World) : Prop := ∃ k : Nat, k ≤ 16 ∧ i = .int .i64 k ∧ wr.ownsRow w.heap.size 3 1 u (hards k).length (ints (hards k)) ∧ Below w.heap.size w wr

set_option maxRecDepth 100000 in
set_option maxHeartbeats 4000000 in
theorem hard_any (w : World) :
    Calls Try.prog 38 #[] w fun e w' => (∃ v, e = .returned v ∧ w'.ownsRow w.heap.size 3 1 v (hards 16).length (ints (hards 16))) ∧ Below w.heap.size w w' := by
  go_enter Try.func38, Try.ntmps38
  go_wp2_with fail
  go_loopw [1, 7] (fun u i wr => HardRel w u i wr) (fun _ i _ => (16 - intOf i).toNat)
  case atStart => exact ⟨0, by omega, rfl, ⟨rfl, .inl ⟨rfl, rfl⟩⟩, Below.refl _ _⟩
  case round =>
    obtain ⟨k, hk, rfl, hown, hbel⟩ := hrel
    have hlen := hards_len k
    have hbs := hbel.size
    by_cases h : k < 16
    · have hbs' : w.heap.size ≤ wr.heap.size := hbs
      have HB := hid (hardB_iff k)
      have e1 : bits .and .i64 ((k : Int) / 8) 1 = ((k / 8 % 2 : Nat) : Int) := by rw [i64_and1]; omega
      have e2 : bits .and .i64 ((k : Int) / 4) 1 = ((k / 4 % 2 : Nat) : Int) := by rw [i64_and1]; omega
      have e3 : bits .and .i64 ((k : Int) / 2) 1 = ((k / 2 % 2 : Nat) : Int) := by rw [i64_and1]; omega
      have e4 : bits .and .i64 ((k : Int)) 1 = ((k % 2 : Nat) : Int) := by rw [i64_and1]; omega
      have b1 : k / 8 % 2 ≤ 1 := by omega
      have b2 : k / 4 % 2 ≤ 1 := by omega
      have b3 : k / 2 % 2 ≤ 1 := by omega
      have b4 : k % 2 ≤ 1 := by omega
      generalize k / 8 % 2 = a at *
      generalize k / 4 % 2 = b at *
      generalize k / 2 % 2 = c at *
      generalize k % 2 = d at *
      go_wp2_with (at_builtin; refine wpList_push _ rfl _ _ 24 rfl w.heap.size 3 (.int .i64 0) 1 8 Try.underlying24 Try.info3 rfl (by decide) _ _ _ rfl hown #[.int .i64 k] rfl (oneCell_int _ _) rfl (by unfold maxLen; omega) (by omega) (by omega) ?_; intro g2 gc2 w2 hown2 hg2 hb2)
      all_goals go_roundw
      all_goals first
        | (simp [intOf]; omega)
        | exact ⟨k + 1, by omega, int_eq (by omega), by rw [hards_yes (HB.out.2 ⟨by omega, by omega, by omega, by omega⟩), ints_snoc, List.length_append]; exact hown2, hbel.trans hb2⟩
        | exact ⟨k + 1, by omega, int_eq (by omega), by rw [hards_no (Bool.eq_false_iff.2 (fun e => by have := HB.out.1 e; omega))]; exact hown, hbel⟩
    · go_wp2
      have hk16 : k = 16 := by omega
      subst hk16
      go_ret
      exact ⟨⟨_, rfl, hown⟩, hbel⟩
end Go.Proofs.Ytppflnkadjddiaa

namespace Go.Proofs.Ytppflnkadjddiaa
open Go.RowKit
set_option linter.unusedVariables false

/-- Is the n-th block drawn? -/
def blkB (h s : Int) (n : Nat) : Bool := decide (s / 2 ^ n % 2 = 1) && (decide (1 < h) || decide (n < 4))
def blkTo (h s : Int) (k : Nat) : List Int := ((List.range k).filter (blkB h s)).map (fun (n : Nat) => (n : Int))
def blkOf (h s : Int) : List Int := blkTo h s 16
theorem blkTo_yes {h s : Int} {k : Nat} (hb : blkB h s k = true) : blkTo h s (k + 1) = blkTo h s k ++ [(k : Int)] := by simp [blkTo, List.range_succ, hb]
theorem blkTo_no {h s : Int} {k : Nat} (hb : blkB h s k = false) : blkTo h s (k + 1) = blkTo h s k := by simp [blkTo, List.range_succ, hb]
theorem blkTo_len (h s : Int) (k : Nat) : (blkTo h s k).length ≤ k := by
  have := List.length_filter_le (blkB h s) (List.range k)
  simpa [blkTo] using this

theorem u16_and1 (n : Int) (h0 : 0 ≤ n) (h1 : n < 65536) : bits .and .u16 n 1 = n % 2 := by
  rw [u16_and n 1 h0 h1 (by decide) (by decide)]
  have : (1 : Int).toNat = 1 := rfl
  rw [this, Nat.and_one_is_mod]
  omega
theorem ediv_pow_lt {s : Int} (k : Nat) (s0 : 0 ≤ s) (s1 : s ≤ 65535) : 0 ≤ s / 2 ^ k ∧ s / 2 ^ k < 65536 := by
  have hp : (0 : Int) < 2 ^ k := Int.pow_pos (by decide)
  refine ⟨Int.ediv_nonneg s0 (Int.le_of_lt hp), ?_⟩
  have := Int.ediv_le_self (2 ^ k) s0
  omega
set_option maxRecDepth 100000 in
set_option maxHeartbeats 1000000 in
theorem lawBlocks_any (h s : Int) (w : World) (s0 : 0 ≤ s) (s1 : s ≤ 65535) :
    Calls Try.prog 24 #[.int .i64 h, .int .u16 s] w fun e w' => ∃ v', e = .returned v' ∧ w'.ownsRow w.heap.size 3 1 v' (blkOf h s).length (ints (blkOf h s)) ∧ Below w.heap.size w w' := by
  go_enter Try.func24, Try.ntmps24
  go_wp2
  go_loopw [5, 7] (fun u i wr => ∃ k : Nat, k ≤ 16 ∧ i = .int .i64 k ∧ wr.ownsRow w.heap.size 3 1 u (blkTo h s k).length (ints (blkTo h s k)) ∧ Below w.heap.size w wr) (fun _ i _ => 16 - (intOf i).toNat)
  case atStart => exact ⟨0, Nat.zero_le _, rfl, World.ownsRow_nil _ _ _ _, Below.refl _ _⟩
  case round =>
    obtain ⟨k, hk, rfl, hown, hbel⟩ := hrel
    by_cases hlt : k < 16
    · have hbit := u16_and1 (s / 2 ^ k) (ediv_pow_lt k s0 s1).1 (ediv_pow_lt k s0 s1).2
      by_cases hB : blkB h s k = true
      · have HB := hid hB
        have hB' := hB
        simp only [blkB, Bool.and_eq_true, Bool.or_eq_true, decide_eq_true_eq] at hB'
        obtain ⟨q1, q2⟩ := hB'
        have e1 : (bits .and .u16 (s / 2 ^ k) 1 == 1) = true := by rw [hbit, q1]; rfl
        clear hB q1 hbit
        have hlen := blkTo_len h s k
        by_cases hh : 1 < h
        · have e2 : decide (1 < h) = true := by simpa using hh
          go_wp2_with (at_builtin; refine wpList_push _ rfl _ _ 24 rfl w.heap.size 3 (.int .i64 0) 1 8 Try.underlying24 Try.info3 rfl (by decide) _ _ _ rfl hown #[.int .i64 (k : Int)] rfl (oneCell_int _ _) rfl (by unfold maxLen; omega) (by omega) hbel.size ?_; intro g gc w1 hown1 hg hb1)
          go_roundw
          case rel => exact ⟨k + 1, by omega, by go_num, by rw [blkTo_yes HB.out, ints_snoc, List.length_append]; exact hown1, hbel.trans hb1⟩
          case measure => simp [intOf]; omega
        · have e2 : decide (1 < h) = false := by simpa using hh
          have e3 : decide ((k : Int) < 4) = true := by have := q2.resolve_left hh; simp; omega
          have hk4 : k < 4 := q2.resolve_left hh
          clear q2
          go_wp2_with (at_builtin; refine wpList_push _ rfl _ _ 24 rfl w.heap.size 3 (.int .i64 0) 1 8 Try.underlying24 Try.info3 rfl (by decide) _ _ _ rfl hown #[.int .i64 (k : Int)] rfl (oneCell_int _ _) rfl (by unfold maxLen; omega) (by omega) hbel.size ?_; intro g gc w1 hown1 hg hb1)
          go_roundw
          case rel => exact ⟨k + 1, by omega, by go_num, by rw [blkTo_yes HB.out, ints_snoc, List.length_append]; exact hown1, hbel.trans hb1⟩
          case measure => simp [intOf]; omega
      · have hB2 : blkB h s k = false := by simpa using hB
        have HB := hid hB2
        clear hB2
        by_cases hq : s / 2 ^ k % 2 = 1
        · have e1 : (bits .and .u16 (s / 2 ^ k) 1 == 1) = true := by rw [hbit, hq]; rfl
          have hr : ¬ (1 < h ∨ k < 4) := by
            intro hr
            apply hB
            simp only [blkB, Bool.and_eq_true, Bool.or_eq_true, decide_eq_true_eq]
            exact ⟨hq, hr⟩
          have e2 : decide (1 < h) = false := by simp; omega
          have e3 : decide ((k : Int) < 4) = false := by simp; omega
          have h1' : h ≤ 1 := by omega
          have h4' : 4 ≤ k := by omega
          clear hB hq hbit hr
          go_wp2
          go_roundw
          case rel => exact ⟨k + 1, by omega, by go_num, by rw [blkTo_no HB.out]; exact hown, hbel⟩
          case measure => simp [intOf]; omega
        · have e1 : (bits .and .u16 (s / 2 ^ k) 1 == 1) = false := by rw [hbit]; simpa using hq
          clear hB hq hbit
          go_wp2
          go_roundw
          case rel => exact ⟨k + 1, by omega, by go_num, by rw [blkTo_no HB.out]; exact hown, hbel⟩
          case measure => simp [intOf]; omega
    · go_wp2
      go_ret
      obtain rfl : k = 16 := by omega
      exact ⟨_, rfl, hown, hbel⟩
end Go.Proofs.Ytppflnkadjddiaa
