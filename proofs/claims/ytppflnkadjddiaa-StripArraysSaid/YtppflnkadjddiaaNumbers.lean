/-
  groovelaw19.numbers and blocks: the columns and the blocks that the statements of layer 19 draw.
  No condition beyond the height being from 1 to 4.
-/
import Derived.Test.YtppflnkadjddiaaProg
import Derived.Test.YtppflnkadjddiaaLib
namespace Go.Proofs.Ytppflnkadjddiaa
open Go.RowKit
theorem Try.info3 : (Try.prog.info? 3).map (fun i => (i.zero, i.size, i.bytes)) = some (some (.int .i64 0), 1, 8) := by kernel_rfl

/-- The number of the columns of a height. -/
def side (h : Int) : Int := 2 ^ h.toNat
theorem side_wrap (h : Int) (h1 : 1 ≤ h) (h4 : h ≤ 4) : wrap64 (2 ^ h.toNat) = side h ∧ 2 ≤ side h ∧ side h ≤ 16 := by
  have : h = 1 ∨ h = 2 ∨ h = 3 ∨ h = 4 := by omega
  rcases this with rfl | rfl | rfl | rfl <;> decide +kernel

def colsOf (h : Int) (l : List Int) : List Int := l.map (· % side h)
theorem colsOf_snoc (h : Int) (l : List Int) (x : Int) : colsOf h (l ++ [x]) = colsOf h l ++ [x % side h] := by simp [colsOf]

set_option maxRecDepth 100000 in
set_option maxHeartbeats 400000 in
theorem numbers_any (h : Int) (v : Value) (l : List Int) (w : World) (h1 : 1 ≤ h) (h4 : h ≤ 4) (hl : Sl 1 w v l.length (l.map (.int .u8))) (hb : ∀ x ∈ l, 0 ≤ x ∧ x ≤ 255) (hn : l.length ≤ 1000) :
    Calls Try.prog 11 #[.int .i64 h, v] w fun e w' => ∃ v', e = .returned v' ∧ w'.ownsRow w.heap.size 3 1 v' l.length (ints (colsOf h l)) ∧ Below w.heap.size w w' := by
  obtain ⟨ao, cap, rfl, _, hc1, hm1, hs⟩ := hl
  obtain ⟨hm, hm2, hm16⟩ := side_wrap h h1 h4
  go_enter Try.func11, Try.ntmps11
  go_wp2
  go_loopw [5, 10] (fun u i wr => ∃ k : Nat, k ≤ l.length ∧ i = .int .i64 k ∧ wr.ownsRow w.heap.size 3 1 u k (ints (colsOf h (l.take k))) ∧ Below w.heap.size w wr) (fun _ i _ => l.length - (intOf i).toNat)
  case atStart => exact ⟨0, Nat.zero_le _, rfl, World.ownsRow_nil _ _ _ _, Below.refl _ _⟩
  case round =>
    obtain ⟨k, hk, rfl, hown, hbel⟩ := hrel
    by_cases hlt : k < l.length
    · obtain ⟨b, o, rfl, hc⟩ := Sl.pos hs (by omega)
      obtain ⟨x, hx⟩ := some_of_lt hlt
      obtain ⟨hx0, hx1⟩ := hb x (List.mem_of_getElem? hx)
      have c0 := hc k (.int .u8 x) (by simp [hx])
      have c1 := (hbel.cell (p := ⟨b, o + k, none⟩) (World.block_lt_of_cell? w _ c0)).trans c0
      have HX := hid hx
      clear hx hc c0
      go_wp2_with (at_builtin; refine wpList_push _ rfl _ _ 24 rfl w.heap.size 3 (.int .i64 0) 1 8 Try.underlying24 Try.info3 rfl (by decide) _ _ _ rfl hown #[.int .i64 (x % side h)] rfl (oneCell_int _ _) rfl (by unfold maxLen; omega) (by omega) hbel.size ?_; intro g gc w1 hown1 hg hb1)
      go_roundw
      case rel => exact ⟨k + 1, by omega, by go_num, by rw [take_snoc HX.out, colsOf_snoc, ints_snoc]; exact hown1, hbel.trans hb1⟩
      case measure => simp [intOf]; omega
    · go_wp2
      go_ret
      have e : k = l.length := by omega
      subst e
      rw [take_all (Nat.le_refl _)] at hown
      exact ⟨_, rfl, hown, hbel⟩
end Go.Proofs.Ytppflnkadjddiaa
