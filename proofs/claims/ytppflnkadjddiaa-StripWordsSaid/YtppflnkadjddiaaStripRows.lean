/-
  strip.Rows: the rows of an array, or the error.
  No condition.
-/
import Derived.Test.YtppflnkadjddiaaBasics
import Derived.Test.YtppflnkadjddiaaBuilder
import Derived.Test.YtppflnkadjddiaaShelf
namespace Go.Proofs.Ytppflnkadjddiaa
open Go.RowKit
set_option linter.unusedVariables false
theorem Try.info9 : (Try.prog.info? 9).map (fun i => (i.zero, i.size, i.bytes)) = some (some (.string ⟨#[]⟩), 1, 16) := by kernel_rfl

/-- Is it a column of the height? -/
def okCol (h c : Int) : Bool := decide (0 ≤ c) && decide (c < side h)
def rowsErr (h : Int) (l : List Int) : Int := if 1 ≤ h ∧ h ≤ 4 then (if 65536 < l.length then 4 else if l.all (okCol h) then 0 else 2) else 2
/-- The digit of a column in the row whose bit has the weight 2^i. -/
def dig (i : Nat) (c : Int) : UInt8 := if c / 2 ^ i % 2 = 0 then 48 else 49
def rowStr (i : Nat) (l : List Int) : List UInt8 := l.map (dig i)
theorem rowStr_snoc (i : Nat) (l : List Int) (x : Int) : rowStr i (l ++ [x]) = rowStr i l ++ [dig i x] := by simp [rowStr]
/-- The k rows from the one of weight 2^(h-1) on. -/
def rowsGo (h : Int) (l : List Int) (k : Nat) : List ByteArray := (List.range k).map fun j => ⟨(rowStr (h.toNat - 1 - j) l).toArray⟩
theorem rowsGo_succ (h : Int) (l : List Int) (k : Nat) : rowsGo h l (k + 1) = rowsGo h l k ++ [⟨(rowStr (h.toNat - 1 - k) l).toArray⟩] := by simp [rowsGo, List.range_succ]
theorem rowsGo_len (h : Int) (l : List Int) (k : Nat) : (rowsGo h l k).length = k := by simp [rowsGo]
def rowsL (h : Int) (l : List Int) : List ByteArray := if rowsErr h l = 0 then rowsGo h l h.toNat else []

set_option maxRecDepth 100000 in
set_option maxHeartbeats 2000000 in
theorem rows_bad (h : Int) (v : Value) (l : List Int) (w : World) (hl : Sl 1 w v l.length (ints l)) (hE : rowsErr h l ≠ 0) :
    Calls Try.prog 12 #[.int .i64 h, v] w fun e w' => e = .returned (.tuple #[.slice none 0 0, .int .i64 (rowsErr h l)]) ∧ w = w' := by
  obtain ⟨ao, cap, rfl, _, hl1, hl2, hl3⟩ := hl
  by_cases hh : 1 ≤ h ∧ h ≤ 4
  · obtain ⟨ha, hb⟩ := hh
    by_cases hn : 65536 < l.length
    · have e0 : rowsErr h l = 4 := by rw [rowsErr, if_pos ⟨ha, hb⟩, if_pos hn]
      rw [e0]
      clear hE e0
      go_enter Try.func12, Try.ntmps12
      go_wp2_with (go_at_call 39; refine (height_yes _ _ (by omega) (by omega)).mono ?_; rintro e w' ⟨rfl, rfl⟩)
      go_ret2
      exact ⟨rfl, rfl⟩
    · have e0 : rowsErr h l = 2 ∧ l.all (okCol h) = false := by
        rw [rowsErr, if_pos ⟨ha, hb⟩, if_neg hn] at hE ⊢
        cases hq : l.all (okCol h) <;> simp_all
      have HA := hid e0.2
      rw [e0.1]
      clear hE e0
      obtain ⟨hm, hm2, hm16⟩ := side_wrap h ha hb
      go_enter Try.func12, Try.ntmps12
      go_wp2_with (go_at_call 39; refine (height_yes _ _ (by omega) (by omega)).mono ?_; rintro e w' ⟨rfl, rfl⟩)
      go_loop [21] (fun i => ∃ k : Nat, k ≤ l.length ∧ i = .int .i64 k ∧ Hid ((l.drop k).all (okCol h) = false)) (fun i => l.length - (intOf i).toNat)
      case atStart => exact ⟨0, Nat.zero_le _, rfl, HA⟩
      case round =>
        obtain ⟨k, hk, rfl, HK⟩ := hrel
        by_cases hlt : k < l.length
        · obtain ⟨b, o, rfl, hc⟩ := Sl.pos hl3 (by omega)
          obtain ⟨x, hx⟩ := some_of_lt hlt
          have c1 := hc k (.int .i64 x) (ints_get hx)
          have HX := hid hx
          clear hx hc hl3
          by_cases h0 : 0 ≤ x
          · by_cases h9 : x < side h
            · go_wp2
              go_round
              case rel => exact ⟨k + 1, by omega, by go_num, hid (by have := HK.out; rw [drop_cons HX.out, List.all_cons] at this; simpa [okCol, h0, h9] using this)⟩
              case measure => simp [intOf]; omega
            · go_wp2
              go_ret2
              exact ⟨rfl, rfl⟩
          · go_wp2
            go_ret2
            exact ⟨rfl, rfl⟩
        · exfalso
          have := HK.out
          rw [drop_all (by omega)] at this
          simp at this
  · have e0 : rowsErr h l = 2 := by rw [rowsErr, if_neg hh]
    rw [e0]
    clear hE e0
    go_enter Try.func12, Try.ntmps12
    go_wp2_with (go_at_call 39; refine (height_no _ _ hh).mono ?_; rintro e w' ⟨rfl, rfl⟩)
    go_ret2
    exact ⟨rfl, rfl⟩

theorem all_get {h : Int} {l : List Int} (ha : l.all (okCol h) = true) {k : Nat} {x : Int} (hx : l[k]? = some x) : 0 ≤ x ∧ x < side h := by
  have := List.all_eq_true.1 ha x (List.mem_of_getElem? hx)
  simpa [okCol] using this

theorem byteCells_dig (i : Nat) (l : List Int) (x : Int) : Lib.byteCells (rowStr i (l ++ [x])) = Lib.byteCells (rowStr i l) ++ [.int .u8 (dig i x).toNat] := by
  rw [rowStr_snoc, Lib.byteCells_append]; rfl
theorem rowStr_len (i : Nat) (l : List Int) : (rowStr i l).length = l.length := by simp [rowStr]

set_option maxRecDepth 100000 in
set_option maxHeartbeats 4000000 in
theorem rows_good (h : Int) (v : Value) (l : List Int) (w : World) (hl : Sl 1 w v l.length (ints l)) (h1 : 1 ≤ h) (h4 : h ≤ 4) (hn : l.length ≤ 65536) (ha : l.all (okCol h) = true) :
    Calls Try.prog 12 #[.int .i64 h, v] w fun e w' => ∃ v', e = .returned (.tuple #[v', .int .i64 0]) ∧ w'.ownsRow w.heap.size 9 1 v' h.toNat (strs (rowsGo h l h.toNat)) ∧ Below w.heap.size w w' := by
  have HS := hid hl
  obtain ⟨ao, cap, rfl, _, hl1, hl2, hl3⟩ := hl
  have HA := hid ha
  obtain ⟨hm, hm2, hm16⟩ := side_wrap h h1 h4
  clear ha
  go_enter Try.func12, Try.ntmps12
  go_wp2_with (go_at_call 39; refine (height_yes _ _ (by omega) (by omega)).mono ?_; rintro e w' ⟨rfl, rfl⟩)
  go_loop [21] (fun i => ∃ k : Nat, k ≤ l.length ∧ i = .int .i64 k) (fun i => l.length - (intOf i).toNat)
  case atStart => exact ⟨0, Nat.zero_le _, rfl⟩
  case round =>
    obtain ⟨k, hk, rfl⟩ := hrel
    by_cases hlt : k < l.length
    · obtain ⟨b, o, rfl, hc⟩ := Sl.pos hl3 (by omega)
      obtain ⟨x, hx⟩ := some_of_lt hlt
      have c1 := hc k (.int .i64 x) (ints_get hx)
      obtain ⟨h0, h9⟩ := all_get HA.out hx
      clear hx hc hl3
      go_wp2
      go_round
      case rel => exact ⟨k + 1, by omega, by go_num⟩
      case measure => simp [intOf]; omega
    · go_wp2
      go_loopw [8, 9] (fun u i wr => ∃ k : Nat, (k : Int) ≤ h ∧ i = .int .i64 (h - 1 - k) ∧ wr.ownsRow w.heap.size 9 1 u k (strs (rowsGo h l k)) ∧ Below w.heap.size w wr) (fun _ i _ => (intOf i + 1).toNat)
      case atStart => exact ⟨0, by omega, by simp, World.ownsRow_nil _ _ _ _, Below.refl _ _⟩
      case round =>
        obtain ⟨j, hj, rfl, hown, hbel⟩ := hrel
        by_cases hlt2 : (j : Int) < h
        · have hg : 0 ≤ h - 1 - (j : Int) := by omega
          have hpos : (h - 1 - (j : Int)).toNat = h.toNat - 1 - j := by omega
          obtain ⟨p, hp⟩ : ∃ p, p = h.toNat - 1 - j := ⟨_, rfl⟩
          have HP := hid hp
          have hpi : h - 1 - (j : Int) = (p : Int) := by omega
          rw [hpi]
          clear hp hpos hg hpi
          have hp3 : p ≤ 3 := by have := HP.out; omega
          go_wp2_with fail
          have hfresh := Lib.fresh_isBuilder 69 5 wr
          obtain ⟨wq, hwq⟩ : ∃ wq, wr.alloc (Obj.cells #[Value.pointer none, Value.slice none 0 0] 69) = wq := ⟨_, rfl⟩
          have hbq : Below wr.heap.size wr wq := by rw [← hwq]; exact (Below.refl _ _).alloc (Nat.le_refl _) _
          have hsq : wq.heap.size = wr.heap.size + 1 := by rw [← hwq]; simp
          rw [hwq] at hfresh ⊢
          clear hwq
          obtain ⟨wo, rfl⟩ : ∃ wo : World, wo = wr := ⟨_, rfl⟩
          have hlt3 : wo.heap.size < wq.heap.size := by omega
          go_loopw [42] (fun i wr => ∃ q : Nat, q ≤ l.length ∧ i = .int .i64 q ∧ Lib.IsBuilder 69 5 wo.heap.size wo.heap.size (Lib.byteCells (rowStr p (l.take q))) wr ∧ Below wo.heap.size wo wr ∧ wo.heap.size < wr.heap.size) (fun i _ => l.length - (intOf i).toNat)
          case atStart => exact ⟨0, Nat.zero_le _, rfl, hfresh, hbq, hlt3⟩
          case round =>
            obtain ⟨q, hq, rfl, hB, hbl, hsz⟩ := hrel
            by_cases hlt4 : q < l.length
            · obtain ⟨x, hx⟩ := some_of_lt hlt4
              obtain ⟨b, o, rfl, c1⟩ := ((HS.out.below hbel).below (hbl.mono (by omega))).cell (ints_get hx)
              obtain ⟨h0, h9⟩ := all_get HA.out hx
              have HX := hid hx
              have HB := hid hB
              have hlen : (Lib.byteCells (rowStr p (l.take q))).length ≤ 65536 := by rw [Lib.byteCells_length, rowStr_len, List.length_take]; omega
              clear hx hl3 hB
              by_cases hbit : x / 2 ^ p % 2 = 0
              · have e1 : bits .and .i64 (x / 2 ^ p) 1 = 0 := by rw [i64_and1]; exact hbit
                have HD := hid (show dig p x = 48 by rw [dig, if_pos hbit])
                clear hbit
                go_wp2_with (go_at_call 40; refine (writeByte_any wo.heap.size wo.heap.size _ 48 _ HB.out (by omega) (by omega)).mono ?_; rintro e w' ⟨rfl, hB', hb'⟩)
                go_roundw
                case rel => exact ⟨q + 1, by omega, by go_num, by rw [take_snoc HX.out, byteCells_dig, HD.out]; exact hB', hbl.trans hb', by have := hb'.size; omega⟩
                case measure => simp [intOf]; omega
              · have e1 : bits .and .i64 (x / 2 ^ p) 1 = 1 := by rw [i64_and1]; omega
                have HD := hid (show dig p x = 49 by rw [dig, if_neg hbit])
                clear hbit
                go_wp2_with (go_at_call 40; refine (writeByte_any wo.heap.size wo.heap.size _ 49 _ HB.out (by omega) (by omega)).mono ?_; rintro e w' ⟨rfl, hB', hb'⟩)
                go_roundw
                case rel => exact ⟨q + 1, by omega, by go_num, by rw [take_snoc HX.out, byteCells_dig, HD.out]; exact hB', hbl.trans hb', by have := hb'.size; omega⟩
                case measure => simp [intOf]; omega
            · have e : q = l.length := by omega
              subst e
              rw [take_all (Nat.le_refl _)] at hB
              have hbs := hbel.size
              go_wp2_with (first
                | (go_at_call 41; refine (Try.Builder_String_any wo.heap.size wo.heap.size _ _ hB (by omega)).mono ?_; rintro e w' ⟨rfl, hb'⟩; have hs' := hb'.size)
                | (at_builtin; refine wpList_push _ rfl _ _ 26 rfl w.heap.size 9 (.string ⟨#[]⟩) 1 16 Try.underlying26 Try.info9 rfl (by decide) _ _ _ rfl (own_below hown (hbl.trans hb')) #[.string ⟨(rowStr p l).toArray⟩] rfl (oneCell_string _) rfl (by unfold maxLen; omega) (by omega) (by omega) ?_; intro g gc w3 hown3 hg3 hb3))
              go_roundw
              case rel => exact ⟨j + 1, by omega, int_eq (by have := HP.out; omega), by rw [rowsGo_succ, strs_snoc, ← HP.out]; exact hown3, hbel.trans (((hbl.trans hb').mono hbel.size).trans hb3)⟩
              case measure => simp [intOf]
        · have hg : h - 1 - (j : Int) < 0 := by omega
          go_wp2
          go_ret2
          have e : j = h.toNat := by omega
          subst e
          exact ⟨_, rfl, hown, hbel⟩

theorem rows_any (h : Int) (v : Value) (l : List Int) (w : World) (hl : Sl 1 w v l.length (ints l)) :
    Calls Try.prog 12 #[.int .i64 h, v] w fun e w' => ∃ v', e = .returned (.tuple #[v', .int .i64 (rowsErr h l)]) ∧ w'.ownsRow w.heap.size 9 1 v' (rowsL h l).length (strs (rowsL h l)) ∧ Below w.heap.size w w' := by
  by_cases hE : rowsErr h l = 0
  · have hh : 1 ≤ h ∧ h ≤ 4 := by
      apply Classical.byContradiction
      intro hn
      rw [rowsErr, if_neg hn] at hE
      cases hE
    have hn : ¬ 65536 < l.length := by
      intro hn
      rw [rowsErr, if_pos hh, if_pos hn] at hE
      cases hE
    have ha : l.all (okCol h) = true := by
      rw [rowsErr, if_pos hh, if_neg hn] at hE
      cases hq : l.all (okCol h) <;> simp_all
    refine (rows_good h v l w hl hh.1 hh.2 (by omega) ha).mono ?_
    rintro e w' ⟨v', rfl, ho, hb⟩
    exact ⟨v', by rw [hE], by rw [rowsL, if_pos hE, rowsGo_len]; exact ho, hb⟩
  · refine (rows_bad h v l w hl hE).mono ?_
    rintro e w' ⟨rfl, rfl⟩
    exact ⟨_, rfl, by rw [rowsL, if_neg hE]; exact World.ownsRow_nil _ _ _ _, Below.refl _ _⟩
end Go.Proofs.Ytppflnkadjddiaa
