/-
  The reference's Turned: the transposed rows.
  No condition beyond the rows being at most 1000, of at most 100000 letters.
-/
import Derived.Test.YtppflnkadjddiaaTransCnt
import Derived.Test.YtppflnkadjddiaaStripRows
import Derived.Test.YtppflnkadjddiaaIntegers
import Derived.Outline
import Derived.Test.YtppflnkadjddiaaLibTwo
namespace Go.Proofs.Ytppflnkadjddiaa
open Go.RowKit
set_option linter.unusedVariables false

theorem turnS_len (rows : List ByteArray) (k : Nat) : (turnS rows k).length ≤ rows.length := List.length_filterMap_le _ _
theorem turnS_yes {rows : List ByteArray} {j k : Nat} {r : ByteArray} (hr : rows[j]? = some r) (hk : k < r.size) : turnS (rows.take (j + 1)) k = turnS (rows.take j) k ++ [r[k]'hk] := by
  rw [take_snoc hr, turnS, turnS, List.filterMap_append]
  have : r.data.toList[k]? = some (r[k]'hk) := by
    rw [List.getElem?_eq_getElem (by simpa using hk)]; rfl
  rw [List.filterMap_cons, this, List.filterMap_nil]
theorem turnS_no {rows : List ByteArray} {j k : Nat} {r : ByteArray} (hr : rows[j]? = some r) (hk : ¬ k < r.size) : turnS (rows.take (j + 1)) k = turnS (rows.take j) k := by
  rw [take_snoc hr, turnS, turnS, List.filterMap_append]
  have : r.data.toList[k]? = none := by
    rw [List.getElem?_eq_none]; simpa using hk
  rw [List.filterMap_cons, this, List.filterMap_nil, List.append_nil]

set_option maxRecDepth 100000 in
set_option maxHeartbeats 2000000 in
theorem turned_any (v : Value) (rows : List ByteArray) (w : World) (hl : Sl 1 w v rows.length (strs rows)) (hn : rows.length ≤ 1000) (hw : width rows ≤ 100000) :
    Calls Try.prog 28 #[v] w fun e w' => ∃ v', e = .returned v' ∧ w'.ownsRow w.heap.size 9 1 v' (turnL rows).length (strs (turnL rows)) ∧ Below w.heap.size w w' := by
  obtain ⟨ao, cap, rfl, _, _, hm1, _⟩ := id hl
  have HL := hid hl
  clear hl
  by_cases h0 : rows.length = 0
  · have hr : rows = [] := List.eq_nil_of_length_eq_zero h0
    subst hr
    go_enter Try.func28, Try.ntmps28
    go_wp2
    go_ret
    exact ⟨_, rfl, own_empty _ _ _, (Below.refl _ _).alloc (Nat.le_refl _) _⟩
  · have hne : ((rows.length : Int) == 0) = false := beq_eq_false_iff_ne.2 (by omega)
    obtain ⟨r0, hr0⟩ := some_of_lt (l := rows) (k := 0) (by omega)
    have HW := hid (show r0.size = width rows by cases rows with | nil => simp at hr0 | cons a t => simp at hr0; rw [← hr0]; rfl)
    have HR0 := hid hr0
    clear hr0
    have HTL := hid (show (turnL rows).length = width rows by simp [turnL])
    have HTG := hid (fun (k : Nat) (hk : k < width rows) => show (turnL rows)[k]? = some (⟨(turnS rows k).toArray⟩ : ByteArray) by simp [turnL, hk])
    generalize hT : turnL rows = T at *
    clear hT
    generalize width rows = W at *
    go_enter Try.func28, Try.ntmps28
    go_upto_region 5 with fail
    go_loopw [3, 4] (fun u i wr => ∃ k : Nat, k ≤ W ∧ i = .int .i64 k ∧ wr.ownsRow w.heap.size 9 1 u k (strs (T.take k)) ∧ Below w.heap.size w wr) (fun _ i _ => W - (intOf i).toNat)
    case atStart => exact ⟨0, by omega, rfl, own_empty _ _ _, (Below.refl _ _).alloc (Nat.le_refl _) _⟩
    case round =>
      obtain ⟨k, hk, rfl, hown, hbel⟩ := hrel
      obtain ⟨b0, o0, rfl, c0⟩ := (HL.out.below hbel).cell (strs_get HR0.out)
      simp only [Nat.add_zero] at c0
      have hrw := HW.out
      by_cases hkW : k < W
      · have hkr : k < r0.size := by omega
        go_upto_region 9 with fail
        obtain ⟨wo, rfl⟩ : ∃ wo : World, wo = wr := ⟨_, rfl⟩
        have HBel := hid hbel
        have HOwn := hid hown
        clear hbel hown
        go_loopw [5, 6] (fun u i wr => ∃ j : Nat, j ≤ rows.length ∧ i = .int .i64 j ∧ (∃ g gc, u = .slice (some ⟨g, 0, none⟩) (turnS (rows.take j) k).length gc) ∧ wr.ownsRow wo.heap.size 5 1 u (turnS (rows.take j) k).length (Lib.byteCells (turnS (rows.take j) k)) ∧ Below wo.heap.size wo wr) (fun _ i _ => rows.length - (intOf i).toNat)
        case atStart => exact ⟨0, by omega, rfl, ⟨_, _, rfl⟩, own_empty _ _ _, (Below.refl _ _).alloc (Nat.le_refl _) _⟩
        case round =>
          obtain ⟨j, hj, rfl, ⟨g, gc, rfl⟩, hown, hbel⟩ := hrel
          by_cases hjr : j < rows.length
          · obtain ⟨r, hr⟩ := some_of_lt hjr
            obtain ⟨b, o, hbo, c1⟩ := ((HL.out.below HBel.out).below hbel).cell (strs_get hr)
            simp only [Option.some.injEq, Addr.mk.injEq, and_true] at hbo
            obtain ⟨rfl, rfl⟩ := hbo
            have HR := hid hr
            clear hr
            have hlen := turnS_len (rows.take j) k
            rw [List.length_take] at hlen
            by_cases hkr2 : k < r.size
            · obtain ⟨c, hc⟩ : ∃ c : UInt8, r[k]'hkr2 = c := ⟨_, rfl⟩
              have HC := hid (turnS_yes HR.out hkr2)
              rw [hc] at HC
              have HCC := hid hc
              go_wp2_with (at_builtin; refine wpList_push _ rfl _ _ 22 rfl wo.heap.size 5 (.int .u8 0) 1 1 Try.underlying22 Try.infoU8 rfl (by decide) _ _ _ rfl hown #[.int .u8 (c.toNat : Int)] rfl (oneCell_int _ _) rfl (by unfold maxLen; omega) (by omega) hbel.size ?_; intro g2 gc2 w1 hown1 hg hb1)
              go_roundw
              case rel => exact ⟨j + 1, by omega, by go_num, ⟨g2, gc2, by rw [HC.out, List.length_append]; rfl⟩, by rw [HC.out, Lib.byteCells_append, List.length_append]; exact hown1, hbel.trans hb1⟩
              case measure => simp [intOf]; omega
            · have HC := hid (turnS_no HR.out hkr2)
              have hkr3 : ((k : Int) < (r.size : Int)) = False := by simp; omega
              go_wp2
              go_roundw
              case rel => exact ⟨j + 1, by omega, by go_num, ⟨g, gc, by rw [HC.out]⟩, by rw [HC.out]; exact hown, hbel⟩
              case measure => simp [intOf]; omega
          · have e : rows.take j = rows := take_all (by omega)
            rw [e] at hown
            rw [e]
            have hTk := HTG.out k hkW
            have HT2 := hid (take_snoc hTk)
            clear hTk e
            generalize turnS rows k = S at *
            have hconv := run_convert_bytes_back (P := Try.prog) wr 22 9 5 ⟨g, 0, none⟩ gc S Try.underlying22 Try.underlying5 Try.underlying9 (fun j hj => by
              have := hown.cells (g := g) rfl j (.int .u8 (S[j].toNat : Int)) (by simp [Lib.byteCells, hj])
              exact this)
            have hown0 := own_below HOwn.out hbel
            have hbs := hbel.size
            have hbs0 := HBel.out.size
            clear hown
            go_wp2_with (at_builtin; refine wpList_push _ rfl _ _ 26 rfl w.heap.size 9 (.string ⟨#[]⟩) 1 16 Try.underlying26 Try.info9 rfl (by decide) _ _ _ rfl hown0 #[.string ⟨S.toArray⟩] rfl (oneCell_string _) rfl (by unfold maxLen; omega) (by omega) (by omega) ?_; intro g3 gc3 w3 hown3 hg3 hb3)
            go_roundw
            case rel => exact ⟨k + 1, by omega, by go_num, by rw [HT2.out, strs_snoc]; exact hown3, (HBel.out.trans (hbel.mono hbs0)).trans hb3⟩
            case measure => simp [intOf]; omega
      · have hkr : ¬ k < r0.size := by omega
        go_wp2
        go_ret
        obtain rfl : k = W := by omega
        rw [take_all (by rw [HTL.out]; exact Nat.le_refl _)] at hown
        exact ⟨_, rfl, by rw [HTL.out]; exact hown, hbel⟩
end Go.Proofs.Ytppflnkadjddiaa
