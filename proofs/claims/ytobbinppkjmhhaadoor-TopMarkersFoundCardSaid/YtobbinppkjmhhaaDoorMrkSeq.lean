/-
  marker.shifts; marker.blocks$1: the blocks of a track with their shifts, as an iterator that writes its own word.
  The blocks that it reads are none that the loop's body writes.
-/
import Derived.Test.YtobbinppkjmhhaaDoorRangeW
import Derived.Test.YtobbinppkjmhhaaDoorMrkLaw
import Derived.Test.YtobbinppkjmhhaaDoorSlices
import Derived.Test.YtobbinppkjmhhaaDoorShelf
import Derived.Test.YtobbinppkjmhhaaDoorPrOps
import Derived.RangeFuncNested
import Derived.RangeFuncBound
import Derived.RangeFuncLeaves
import Derived.OwnWalkIn
import Derived.TacticsInMore
import Derived.LoopNIn
import Derived.LoopIn
import Derived.Sort.QuietIn
import Derived.Sort.CutIn
import Derived.Sort.LoopGhostIn
namespace Go.Proofs.YtobbinppkjmhhaaDoor
open Go.RowKit Go.Shelf
attribute [local go_sem] Oper.semAt_some
set_option linter.unusedVariables false

/-- A string of these bytes. -/
def mkS (l : List UInt8) : ByteArray := ⟨l.toArray⟩
theorem mkS_list (l : List UInt8) : (mkS l).data.toList = l := by simp [mkS]
theorem mkS_size (l : List UInt8) : (mkS l).size = l.length := by show l.toArray.size = _; simp
theorem mkS_of (x : ByteArray) : mkS x.data.toList = x := by simp [mkS]
theorem mkS_inj {a b : List UInt8} (h : mkS a = mkS b) : a = b := by rw [← mkS_list a, h, mkS_list]
theorem mkS_drop (l : List UInt8) (n : Nat) : (mkS l).extract n (mkS l).size = mkS (l.drop n) := by
  apply ByteArray.ext; apply Array.toList_inj.1
  rw [ByteArray.data_extract, Array.toList_extract, List.extract_eq_take_drop, mkS_list, mkS_list, mkS_size]
  exact List.take_of_length_le (by simp)
theorem mkS_take (l : List UInt8) (n : Nat) : (mkS l).extract 0 n = mkS (l.take n) := by
  apply ByteArray.ext; apply Array.toList_inj.1
  rw [ByteArray.data_extract, Array.toList_extract, List.extract_eq_take_drop, mkS_list, mkS_list]
  simp
theorem mkS_ne {l : List UInt8} (h : l ≠ []) : (mkS l).toList.isEmpty = false := by
  rw [Lib.toList_data, mkS_list]; simpa using h
theorem mk_grown {w w' : World} {row : Option Nat} (h : Below w.heap.size w w') : w.grownBy w' row := ⟨h.os, h.tape, h.output, h.size, fun k hk _ => h.block k hk⟩

/-- The shifts in the order in which they are tried. -/
def shfCells : Array Value := #[.int .i64 0, .int .i64 (-1), .int .i64 1]
theorem shfCells_one : shfCells.all (·.oneCell') = true := by kernel_rfl
set_option maxRecDepth 100000 in
set_option maxHeartbeats 1000000 in
theorem shifts_any (w : World) : Calls Tryd.prog 32 #[] w fun e w' => e = .returned (.agg #[.int .i64 0, .int .i64 (-1), .int .i64 1]) ∧ Below w.heap.size w w' := by
  have HI := hid (show (Tryd.prog.info? 82).map (·.size) = some shfCells.size by kernel_rfl)
  have HT := hid (fun cs : Array Value => there_new w 82 cs)
  go_enter Tryd.func32, Tryd.ntmps32
  go_upto_region 1 with fail
  obtain ⟨c0, hc0⟩ : ∃ c0, c0 = (#[Value.int .i64 0, .int .i64 0, .int .i64 0] : Array Value) := ⟨_, rfl⟩
  rw [← hc0]
  have h18 : c0.size = shfCells.size := by rw [hc0]; rfl
  have HO := hid (show (w.alloc (.cells c0 82)).there w.heap.size 0 shfCells.size by rw [← h18]; exact HT.out c0)
  clear hc0 h18 HT
  go_wp2_with (refine wpList_store_mid rfl 82 _ _ rfl w.heap.size 0 shfCells rfl rfl HO.out HI.out shfCells_one ?_)
  refine bodyPost_ret (v := .agg shfCells) ?_ rfl ⟨rfl, ?_⟩
  · exact results_loaded (p := 0) rfl rfl (run_loadVar_mid (P := Tryd.prog) _ w.heap.size 0 82 shfCells.toList (.array 3 3) (World.rangeAt_setCells_same _ _ _ _ HO.out) Tryd.underlying82 rfl HI.out)
  · exact below_setCells (bel_alloc _ _) (Nat.le_refl _) _ _

/-- The boxes of an iterator over blocks: its size, its marker; the word that is left. -/
structure MrkAt (n1 b : Nat) (m r : List UInt8) (W : World) : Prop where
  b : Boxed W n1 3 (.int .i64 (b : Int))
  m : Boxed W (n1 + 1) 9 (.string (mkS m))
  w : Boxed W (n1 + 2) 9 (.string (mkS r))
/-- What the body of a round leaves alone. -/
def MrkK (n1 : Nat) (W W' : World) : Prop := ∀ k, n1 ≤ k → k < n1 + 3 → W'.heap[k]? = W.heap[k]?
theorem MrkK.trans {n1 : Nat} {A B C : World} (h : MrkK n1 A B) (k : MrkK n1 B C) : MrkK n1 A C := fun i h1 h2 => (k i h1 h2).trans (h i h1 h2)
theorem MrkAt.kept {n1 b : Nat} {m r : List UInt8} {W W' : World} (h : MrkAt n1 b m r W) (k : MrkK n1 W W') : MrkAt n1 b m r W' :=
  ⟨(k _ (by omega) (by omega)).trans h.b, (k _ (by omega) (by omega)).trans h.m, (k _ (by omega) (by omega)).trans h.w⟩
theorem MrkAt.next {n1 b : Nat} {m r : List UInt8} {W : World} (h : MrkAt n1 b m r W) (r' : List UInt8) : MrkAt n1 b m r' (W.setCell ⟨n1 + 2, 0, none⟩ (.string (mkS r'))) :=
  ⟨(Below.heap_setCell _ _ _ n1 (by show n1 ≠ n1 + 2; omega)).trans h.b, (Below.heap_setCell _ _ _ (n1 + 1) (by show n1 + 1 ≠ n1 + 2; omega)).trans h.m, h.w.set _⟩
/-- The shift that is tried in round k. -/
def tryS (k : Nat) : Int := if k = 0 then 0 else if k = 1 then -1 else 1
theorem shf_none {b : Nat} {m r : List UInt8} (h : ∀ k, k < 3 → fitB m r (cutL b (tryS k)) = false) : shfB b m r = 2 := by
  have h0 := h 0 (by omega)
  have h1 := h 1 (by omega)
  have h2 := h 2 (by omega)
  have e0 : cutL b (tryS 0) = b := by unfold cutL tryS; simp
  have e1 : cutL b (tryS 1) = b - 1 := by unfold cutL tryS; rw [if_neg (by omega), if_pos rfl]; omega
  have e2 : cutL b (tryS 2) = b + 1 := by unfold cutL tryS; rw [if_neg (by omega), if_neg (by omega)]; omega
  rw [e0] at h0; rw [e1] at h1; rw [e2] at h2
  unfold shfB; rw [h0, h1, h2]; rfl
theorem shf_some {b k : Nat} {m r : List UInt8} (hk : k < 3) (h : ∀ j, j < k → fitB m r (cutL b (tryS j)) = false) (hf : fitB m r (cutL b (tryS k)) = true) : shfB b m r = tryS k := by
  have e0 : cutL b (tryS 0) = b := by unfold cutL tryS; simp
  have e1 : cutL b (tryS 1) = b - 1 := by unfold cutL tryS; rw [if_neg (by omega), if_pos rfl]; omega
  have e2 : cutL b (tryS 2) = b + 1 := by unfold cutL tryS; rw [if_neg (by omega), if_neg (by omega)]; omega
  have : k = 0 ∨ k = 1 ∨ k = 2 := by omega
  rcases this with rfl | rfl | rfl
  · rw [e0] at hf
    unfold shfB; rw [hf]; rfl
  · have h0 := h 0 (by omega)
    rw [e0] at h0; rw [e1] at hf
    unfold shfB; rw [h0, hf]; rfl
  · have h0 := h 0 (by omega)
    have h1 := h 1 (by omega)
    rw [e0] at h0; rw [e1] at h1; rw [e2] at hf
    unfold shfB; rw [h0, h1, hf]; rfl
theorem mrkK_below {n1 : Nat} {W W' : World} (h : Below W.heap.size W W') (hn : n1 + 3 ≤ W.heap.size) : MrkK n1 W W' := fun k h1 h2 => h.block k (by omega)

theorem fit_val {m r : List UInt8} {N : Nat} (h1 : N ≤ r.length) : fitB m r N = m.isPrefixOf (r.drop N) := by unfold fitB; simp [h1]
theorem hp_one (m r : List UInt8) (N : Nat) : Lib.hasPrefix ((mkS r).extract N (mkS r).size).data.toList (mkS m).data.toList = m.isPrefixOf (r.drop N) := by
  rw [mkS_drop, mkS_list, mkS_list]; rfl
theorem hp_two (m r : List UInt8) (N : Nat) : Lib.hasPrefix (List.take ((mkS r).size - N) (List.drop N (mkS r).data.toList)) (mkS m).data.toList = m.isPrefixOf (r.drop N) := by
  rw [mkS_size, mkS_list, mkS_list, List.take_of_length_le (by simp)]; rfl
theorem fit_px {m r : List UInt8} {N : Nat} (h : fitB m r N = true) : (N : Int) ≤ ((mkS r).size : Int) ∧ Lib.hasPrefix ((mkS r).extract N (mkS r).size).data.toList (mkS m).data.toList = true ∧
    Lib.hasPrefix (List.take ((mkS r).size - N) (List.drop N (mkS r).data.toList)) (mkS m).data.toList = true ∧
    ∃ M : Nat, (N : Int) + ((mkS m).size : Int) = (M : Int) ∧ (M : Int) ≤ ((mkS r).size : Int) ∧ M = N + m.length := by
  have h0 : N ≤ r.length := by
    unfold fitB at h
    simp only [Bool.and_eq_true, decide_eq_true_eq] at h
    exact h.1
  rw [fit_val h0] at h
  rw [hp_one, hp_two, mkS_size, mkS_size]
  have h3 := (List.isPrefixOf_iff_prefix.1 h).length_le
  rw [List.length_drop] at h3
  exact ⟨by omega, h, h, N + m.length, by omega, by omega, rfl⟩
theorem fit_no {m r : List UInt8} {N : Nat} (h : ¬ fitB m r N = true) (h1 : (N : Int) ≤ ((mkS r).size : Int)) : Lib.hasPrefix ((mkS r).extract N (mkS r).size).data.toList (mkS m).data.toList = false ∧
    Lib.hasPrefix (List.take ((mkS r).size - N) (List.drop N (mkS r).data.toList)) (mkS m).data.toList = false := by
  rw [mkS_size] at h1
  rw [fit_val (by omega)] at h
  rw [hp_one, hp_two]
  exact ⟨Bool.eq_false_iff.2 h, Bool.eq_false_iff.2 h⟩
theorem mrk_next {b : Nat} {m x r : List UInt8} {pre : List Blk} {N M : Nat} (t : Int) (h : blk b m x = pre ++ blk b m r) (hm : m ≠ []) (hr : ¬ r = []) (hs : shfB b m r = t) (ht : t ≠ 2) (hc : cutL b t = N) (hM : M = N + m.length) :
    pre ++ [(r.take N, t)] <+: blk b m x ∧ blk b m x = (pre ++ [(r.take N, t)]) ++ blk b m (r.drop M) := by
  have e : blk b m x = (pre ++ [(r.take N, t)]) ++ blk b m (r.drop M) := by
    rw [h, blk_cons hm hr (by rw [hs]; exact ht), hs, hc, hM, List.append_assoc]; rfl
  exact ⟨by rw [e]; exact List.prefix_append _ _, e⟩
theorem shf_at0 (w : World) : (Instr.index 82 (Value.agg #[Value.int .i64 0, Value.int .i64 (-1), Value.int .i64 1]) (Value.int .i64 0)).run Tryd.prog w = .ok (.int .i64 0) w := by kernel_rfl
theorem shf_at1 (w : World) : (Instr.index 82 (Value.agg #[Value.int .i64 0, Value.int .i64 (-1), Value.int .i64 1]) (Value.int .i64 1)).run Tryd.prog w = .ok (.int .i64 (-1)) w := by kernel_rfl
theorem shf_at2 (w : World) : (Instr.index 82 (Value.agg #[Value.int .i64 0, Value.int .i64 (-1), Value.int .i64 1]) (Value.int .i64 2)).run Tryd.prog w = .ok (.int .i64 1) w := by kernel_rfl
set_option maxRecDepth 100000 in
set_option maxHeartbeats 4000000 in
theorem mrk_many (l n1 b : Nat) (m x : List UInt8) (hb : 1 ≤ b) (hb2 : b ≤ 1000000) (hm : m ≠ []) (hm2 : m.length ≤ 1000000) (hx : x.length ≤ 1000000000) (J Jx : List Blk → World → Prop) (hJ : Abides1 (n1 + 2) J) (W : World)
    (hY : ∀ pre p W, J pre W → pre ++ [p] <+: blk b m x → YieldAt Fence.wide (8 - 1) Tryd.prog l #[.string (mkS p.1), .int .i64 p.2] W fun e W' =>
      (e = .returned (.bool true) ∧ J (pre ++ [p]) W' ∧ MrkK n1 W W') ∨ (e = .returned (.bool false) ∧ Jx (pre ++ [p]) W' ∧ MrkK n1 W W'))
    (hA : MrkAt n1 b m x W) (h0 : J [] W) :
    CallsIn Fence.wide 8 Tryd.prog 31 #[.func (.yield l) #[] #[], .pointer (some ⟨n1 + 2, 0, none⟩), .pointer (some ⟨n1, 0, none⟩), .pointer (some ⟨n1 + 1, 0, none⟩)] W fun e' W' => (∃ v, e' = .returned v) ∧
      ((∃ ys, ys = blk b m x ∧ J ys W') ∨ (∃ pre, pre <+: blk b m x ∧ Jx pre W')) := by
  have HYq := hid hY
  have HJ := hid hJ
  clear hY hJ
  refine callsIn_of_wp Tryd.func31 rfl trivial ?_ rfl
  simp only [Tryd.ntmps31, List.size_toArray, List.length_cons, List.length_nil, Nat.reduceAdd, Nat.reduceSub, Array.replicate_succ, Array.replicate_zero, List.push_toArray, List.append_toArray, List.nil_append, List.cons_append]
  gi_wp2
  gi_loopg [9] x.length (fun gk u wr => gk ≤ x.length ∧ Hid (∃ pre r, r.length = gk ∧ blk b m x = pre ++ blk b m r ∧ MrkAt n1 b m r wr ∧ J pre wr))
  case atStart => exact ⟨Nat.le_refl _, hid ⟨[], x, rfl, rfl, hA, h0⟩⟩
  case round =>
    obtain ⟨hk, HR⟩ := hrel
    obtain ⟨pre, r, rfl, hbl, hM, hj⟩ := HR.out
    have cw := hM.w.cell
    have HS := hid (fun X => (callsIn_wide (n := 7)).2 (shifts_any X))
    by_cases hr : r = []
    · subst hr
      have ce : (mkS []) = (⟨#[]⟩ : ByteArray) := rfl
      rw [ce] at cw
      gi_wp2
      go_end0
      refine ⟨⟨_, rfl⟩, .inl ⟨_, rfl, ?_⟩⟩
      rw [hbl, blk_nil, List.append_nil]; exact hj
    · have hne := mkS_ne hr
      have HM := hid hM
      have HJs := hid hj
      have HBl := hid hbl
      clear hM hj hbl
      gi_wp2
      refine ⟨trivial, ?_⟩
      refine (HS.out _).mono ?_
      rintro e w1 ⟨rfl, hb1⟩
      have HB1 := hid hb1
      have hn3 : n1 + 3 ≤ wr.heap.size := by have := HM.out.w.lt; omega
      have HM1 := hid (HM.out.kept (mrkK_below hb1 hn3))
      have HJ1 := hid (HJ.out _ _ _ none HJs.out (mk_grown hb1) (fun r e => by cases e))
      clear cw hb1
      gi_wp2
      gi_loopw [5, 12] (fun v5 i wk => ∃ k : Nat, k ≤ 3 ∧ i = .int .i64 (k : Int) ∧ v5 = .int .i64 2 ∧ Hid (Below w1.heap.size w1 wk) ∧ Hid (∀ j, j < k → fitB m r (cutL b (tryS j)) = false)) (fun _ i _ => 3 - (intOf i).toNat)
      case atStart => exact ⟨0, by omega, rfl, rfl, hid (Below.refl _ _), hid (fun j h => by omega)⟩
      case round =>
        obtain ⟨k, hk3, rfl, rfl, HBk, HNk⟩ := hrel
        rename World => wk
        have hn4 : n1 + 3 ≤ w1.heap.size := by have := HM1.out.w.lt; omega
        have HMk := hid (HM1.out.kept (mrkK_below HBk.out hn4))
        have HJk := hid (HJ.out _ _ _ none HJ1.out (mk_grown HBk.out) (fun r e => by cases e))
        have cw := HMk.out.w.cell
        have cb := HMk.out.b.cell
        have cm := HMk.out.m.cell
        rcases (show k = 0 ∨ k = 1 ∨ k = 2 ∨ k = 3 by omega) with rfl | rfl | rfl | rfl
        · have hI := shf_at0 wk
          gi_wp2
          have hcut : cutL b (tryS 0) = b := by unfold cutL tryS; simp
          by_cases hfit : fitB m r b = true
          · obtain ⟨hle, hpx, hpy, M, hM1, hM2, hM3⟩ := fit_px hfit
            have HSh := hid (shf_some (b := b) (k := 0) (m := m) (r := r) (by omega) HNk.out (by rw [hcut]; exact hfit))
            clear hfit
            refine wpIn_region_quiet_lit rfl (by kernel_rfl) (by kernel_rfl) ?_
            repeat (first
              | gi_big_quiet_skip
              | (gi_big_quiet_want; gi_big_quiet_op; go_big_quiet_on)
              | (refine Go.BigFrame.wpQuietIn_skip (fun _ _ _ _ => trivial) (by rfl) ?_; conv => arg 8; simp [go_sem])
              | (refine Go.BigFrame.wpQuietIn_want (fun _ _ _ _ => trivial) (by rfl) ?_; intro _ _; gi_big_quiet_op; gi_big_quiet_call ((gi_at_call 33; refine CallsIn.quiet_of_same (callsIn_wide.2 (Tryd.strings_HasPrefix _ _ _))))))
            refine wpQuietIn_nil ?_
            intro _ hwq
            obtain ⟨nq, hwq'⟩ := hwq
            subst hwq'
            rw [hpx]
            clear hpx hpy
            have hb2 := below_drewN (Below.refl wk.heap.size wk) nq
            have hn5 : n1 + 3 ≤ wk.heap.size := by have := HMk.out.w.lt; omega
            have HM5 := hid (HMk.out.kept (mrkK_below hb2 hn5))
            have HJ5 := hid (HJ.out _ _ _ none HJk.out (mk_grown hb2) (fun r e => by cases e))
            have HC := hid (mrk_next (pre := pre) 0 HBl.out hm hr HSh.out (by decide) hcut hM3)
            have HYk := hid (HYq.out pre (r.take b, 0) _ HJ5.out HC.out.1)
            have c2w := HM5.out.w.cell
            have c2b := HM5.out.b.cell
            have c2m := HM5.out.m.cell
            clear cw cb cm hb2
            obtain ⟨fn, tmps, assign, body, hy, hR⟩ := HYk.out
            have HRr := hid hR
            clear hR HYk
            simp only at hy
            rw [← mkS_take] at hy
            gi_wp2
            refine HRr.out.mono ?_
            rintro e W3 (⟨rfl, hJ3, hk3⟩ | ⟨rfl, hJx3, hk3⟩)
            · have HM6 := hid (HM5.out.kept hk3)
              have HJ6 := hid (HJ.out _ _ _ (some (n1 + 2)) hJ3 (grownBy_setCell' W3 (n1 + 2) (.string (mkS (r.drop M)))) (fun r e => by cases e; rfl))
              have HM7 := hid (HM6.out.next (r.drop M))
              have c3w := HM6.out.w.cell
              have c3b := HM6.out.b.cell
              have c3m := HM6.out.m.cell
              have f3 := HM6.out.w.frozen
              have hd := mkS_drop r M
              have hlt : (r.drop M).length < r.length := by
                have h1 : 0 < m.length := List.length_pos_iff.2 hm
                have h2 : 0 < r.length := List.length_pos_iff.2 hr
                rw [List.length_drop]; omega
              clear c2w c2b c2m hk3 hJ3 hy HRr
              gi_wp2
              gi_roundg (r.drop M).length
              case measure => exact hlt
              case rel => exact ⟨by omega, hid ⟨_, r.drop M, rfl, HC.out.2, by rw [← hM3, hd]; exact HM7.out, by rw [← hM3, hd]; exact HJ6.out⟩⟩
            · gi_wp2
              refine bodyPost_ret (results_none rfl _ _ _) rfl ?_
              exact ⟨⟨_, rfl⟩, .inr ⟨_, HC.out.1, hJx3⟩⟩
          · have HN1 := hid (show ∀ j, j < 0 + 1 → fitB m r (cutL b (tryS j)) = false by
              intro j h
              rcases Nat.lt_or_ge j 0 with h5 | h5
              · exact HNk.out j h5
              · obtain rfl : j = 0 := by omega
                rw [hcut]; exact Bool.eq_false_iff.2 hfit)
            by_cases hle : (b : Int) ≤ ((mkS r).size : Int)
            · obtain ⟨hpx, hpy⟩ := fit_no hfit hle
              refine wpIn_region_quiet_lit rfl (by kernel_rfl) (by kernel_rfl) ?_
              repeat (first
                | gi_big_quiet_skip
                | (gi_big_quiet_want; gi_big_quiet_op; go_big_quiet_on)
                | (refine Go.BigFrame.wpQuietIn_skip (fun _ _ _ _ => trivial) (by rfl) ?_; conv => arg 8; simp [go_sem])
                | (refine Go.BigFrame.wpQuietIn_want (fun _ _ _ _ => trivial) (by rfl) ?_; intro _ _; gi_big_quiet_op; gi_big_quiet_call ((gi_at_call 33; refine CallsIn.quiet_of_same (callsIn_wide.2 (Tryd.strings_HasPrefix _ _ _))))))
              refine wpQuietIn_nil ?_
              intro _ hwq
              obtain ⟨nq, hwq'⟩ := hwq
              subst hwq'
              rw [hpx]
              clear hpx hpy
              gi_wp2
              go_roundw
              case rel => exact ⟨1, by omega, by go_num, rfl, hid (HBk.out.trans ((below_drewN (Below.refl _ _) nq).mono HBk.out.size)), HN1⟩
              case measure => simp [intOf]
            · refine wpIn_region_quiet_lit rfl (by kernel_rfl) (by kernel_rfl) ?_
              repeat (first
                | gi_big_quiet_skip
                | (gi_big_quiet_want; gi_big_quiet_op; go_big_quiet_on)
                | (refine Go.BigFrame.wpQuietIn_skip (fun _ _ _ _ => trivial) (by rfl) ?_; conv => arg 8; simp [go_sem]))
              refine wpQuietIn_nil ?_
              intro _ hwq
              obtain ⟨nq, hwq'⟩ := hwq
              subst hwq'
              gi_wp2
              go_roundw
              case rel => exact ⟨1, by omega, by go_num, rfl, hid (HBk.out.trans ((below_drewN (Below.refl _ _) nq).mono HBk.out.size)), HN1⟩
              case measure => simp [intOf]
        · have hI := shf_at1 wk
          gi_wp2
          obtain ⟨N, hN⟩ : ∃ N : Nat, (b : Int) + -1 = (N : Int) := ⟨b - 1, by omega⟩
          rw [hN]
          have hcut : cutL b (tryS 1) = N := by unfold cutL tryS; simp; omega
          by_cases hfit : fitB m r N = true
          · obtain ⟨hle, hpx, hpy, M, hM1, hM2, hM3⟩ := fit_px hfit
            have HSh := hid (shf_some (b := b) (k := 1) (m := m) (r := r) (by omega) HNk.out (by rw [hcut]; exact hfit))
            clear hfit
            refine wpIn_region_quiet_lit rfl (by kernel_rfl) (by kernel_rfl) ?_
            repeat (first
              | gi_big_quiet_skip
              | (gi_big_quiet_want; gi_big_quiet_op; go_big_quiet_on)
              | (refine Go.BigFrame.wpQuietIn_skip (fun _ _ _ _ => trivial) (by rfl) ?_; conv => arg 8; simp [go_sem])
              | (refine Go.BigFrame.wpQuietIn_want (fun _ _ _ _ => trivial) (by rfl) ?_; intro _ _; gi_big_quiet_op; gi_big_quiet_call ((gi_at_call 33; refine CallsIn.quiet_of_same (callsIn_wide.2 (Tryd.strings_HasPrefix _ _ _))))))
            refine wpQuietIn_nil ?_
            intro _ hwq
            obtain ⟨nq, hwq'⟩ := hwq
            subst hwq'
            rw [hpx]
            clear hpx hpy
            have hb2 := below_drewN (Below.refl wk.heap.size wk) nq
            have hn5 : n1 + 3 ≤ wk.heap.size := by have := HMk.out.w.lt; omega
            have HM5 := hid (HMk.out.kept (mrkK_below hb2 hn5))
            have HJ5 := hid (HJ.out _ _ _ none HJk.out (mk_grown hb2) (fun r e => by cases e))
            have HC := hid (mrk_next (pre := pre) (-1) HBl.out hm hr HSh.out (by decide) hcut hM3)
            have HYk := hid (HYq.out pre (r.take N, -1) _ HJ5.out HC.out.1)
            have c2w := HM5.out.w.cell
            have c2b := HM5.out.b.cell
            have c2m := HM5.out.m.cell
            clear cw cb cm hb2
            obtain ⟨fn, tmps, assign, body, hy, hR⟩ := HYk.out
            have HRr := hid hR
            clear hR HYk
            simp only at hy
            rw [← mkS_take] at hy
            gi_wp2
            refine HRr.out.mono ?_
            rintro e W3 (⟨rfl, hJ3, hk3⟩ | ⟨rfl, hJx3, hk3⟩)
            · have HM6 := hid (HM5.out.kept hk3)
              have HJ6 := hid (HJ.out _ _ _ (some (n1 + 2)) hJ3 (grownBy_setCell' W3 (n1 + 2) (.string (mkS (r.drop M)))) (fun r e => by cases e; rfl))
              have HM7 := hid (HM6.out.next (r.drop M))
              have c3w := HM6.out.w.cell
              have c3b := HM6.out.b.cell
              have c3m := HM6.out.m.cell
              have f3 := HM6.out.w.frozen
              have hd := mkS_drop r M
              have hlt : (r.drop M).length < r.length := by
                have h1 : 0 < m.length := List.length_pos_iff.2 hm
                have h2 : 0 < r.length := List.length_pos_iff.2 hr
                rw [List.length_drop]; omega
              clear c2w c2b c2m hk3 hJ3 hy HRr
              gi_wp2
              gi_roundg (r.drop M).length
              case measure => exact hlt
              case rel => exact ⟨by omega, hid ⟨_, r.drop M, rfl, HC.out.2, by rw [← hM3, hd]; exact HM7.out, by rw [← hM3, hd]; exact HJ6.out⟩⟩
            · gi_wp2
              refine bodyPost_ret (results_none rfl _ _ _) rfl ?_
              exact ⟨⟨_, rfl⟩, .inr ⟨_, HC.out.1, hJx3⟩⟩
          · have HN1 := hid (show ∀ j, j < 1 + 1 → fitB m r (cutL b (tryS j)) = false by
              intro j h
              rcases Nat.lt_or_ge j 1 with h5 | h5
              · exact HNk.out j h5
              · obtain rfl : j = 1 := by omega
                rw [hcut]; exact Bool.eq_false_iff.2 hfit)
            by_cases hle : (N : Int) ≤ ((mkS r).size : Int)
            · obtain ⟨hpx, hpy⟩ := fit_no hfit hle
              refine wpIn_region_quiet_lit rfl (by kernel_rfl) (by kernel_rfl) ?_
              repeat (first
                | gi_big_quiet_skip
                | (gi_big_quiet_want; gi_big_quiet_op; go_big_quiet_on)
                | (refine Go.BigFrame.wpQuietIn_skip (fun _ _ _ _ => trivial) (by rfl) ?_; conv => arg 8; simp [go_sem])
                | (refine Go.BigFrame.wpQuietIn_want (fun _ _ _ _ => trivial) (by rfl) ?_; intro _ _; gi_big_quiet_op; gi_big_quiet_call ((gi_at_call 33; refine CallsIn.quiet_of_same (callsIn_wide.2 (Tryd.strings_HasPrefix _ _ _))))))
              refine wpQuietIn_nil ?_
              intro _ hwq
              obtain ⟨nq, hwq'⟩ := hwq
              subst hwq'
              rw [hpx]
              clear hpx hpy
              gi_wp2
              go_roundw
              case rel => exact ⟨2, by omega, by go_num, rfl, hid (HBk.out.trans ((below_drewN (Below.refl _ _) nq).mono HBk.out.size)), HN1⟩
              case measure => simp [intOf]
            · refine wpIn_region_quiet_lit rfl (by kernel_rfl) (by kernel_rfl) ?_
              repeat (first
                | gi_big_quiet_skip
                | (gi_big_quiet_want; gi_big_quiet_op; go_big_quiet_on)
                | (refine Go.BigFrame.wpQuietIn_skip (fun _ _ _ _ => trivial) (by rfl) ?_; conv => arg 8; simp [go_sem]))
              refine wpQuietIn_nil ?_
              intro _ hwq
              obtain ⟨nq, hwq'⟩ := hwq
              subst hwq'
              gi_wp2
              go_roundw
              case rel => exact ⟨2, by omega, by go_num, rfl, hid (HBk.out.trans ((below_drewN (Below.refl _ _) nq).mono HBk.out.size)), HN1⟩
              case measure => simp [intOf]
        · have hI := shf_at2 wk
          gi_wp2
          obtain ⟨N, hN⟩ : ∃ N : Nat, (b : Int) + 1 = (N : Int) := ⟨b + 1, by omega⟩
          rw [hN]
          have hcut : cutL b (tryS 2) = N := by unfold cutL tryS; simp; omega
          by_cases hfit : fitB m r N = true
          · obtain ⟨hle, hpx, hpy, M, hM1, hM2, hM3⟩ := fit_px hfit
            have HSh := hid (shf_some (b := b) (k := 2) (m := m) (r := r) (by omega) HNk.out (by rw [hcut]; exact hfit))
            clear hfit
            refine wpIn_region_quiet_lit rfl (by kernel_rfl) (by kernel_rfl) ?_
            repeat (first
              | gi_big_quiet_skip
              | (gi_big_quiet_want; gi_big_quiet_op; go_big_quiet_on)
              | (refine Go.BigFrame.wpQuietIn_skip (fun _ _ _ _ => trivial) (by rfl) ?_; conv => arg 8; simp [go_sem])
              | (refine Go.BigFrame.wpQuietIn_want (fun _ _ _ _ => trivial) (by rfl) ?_; intro _ _; gi_big_quiet_op; gi_big_quiet_call ((gi_at_call 33; refine CallsIn.quiet_of_same (callsIn_wide.2 (Tryd.strings_HasPrefix _ _ _))))))
            refine wpQuietIn_nil ?_
            intro _ hwq
            obtain ⟨nq, hwq'⟩ := hwq
            subst hwq'
            rw [hpx]
            clear hpx hpy
            have hb2 := below_drewN (Below.refl wk.heap.size wk) nq
            have hn5 : n1 + 3 ≤ wk.heap.size := by have := HMk.out.w.lt; omega
            have HM5 := hid (HMk.out.kept (mrkK_below hb2 hn5))
            have HJ5 := hid (HJ.out _ _ _ none HJk.out (mk_grown hb2) (fun r e => by cases e))
            have HC := hid (mrk_next (pre := pre) 1 HBl.out hm hr HSh.out (by decide) hcut hM3)
            have HYk := hid (HYq.out pre (r.take N, 1) _ HJ5.out HC.out.1)
            have c2w := HM5.out.w.cell
            have c2b := HM5.out.b.cell
            have c2m := HM5.out.m.cell
            clear cw cb cm hb2
            obtain ⟨fn, tmps, assign, body, hy, hR⟩ := HYk.out
            have HRr := hid hR
            clear hR HYk
            simp only at hy
            rw [← mkS_take] at hy
            gi_wp2
            refine HRr.out.mono ?_
            rintro e W3 (⟨rfl, hJ3, hk3⟩ | ⟨rfl, hJx3, hk3⟩)
            · have HM6 := hid (HM5.out.kept hk3)
              have HJ6 := hid (HJ.out _ _ _ (some (n1 + 2)) hJ3 (grownBy_setCell' W3 (n1 + 2) (.string (mkS (r.drop M)))) (fun r e => by cases e; rfl))
              have HM7 := hid (HM6.out.next (r.drop M))
              have c3w := HM6.out.w.cell
              have c3b := HM6.out.b.cell
              have c3m := HM6.out.m.cell
              have f3 := HM6.out.w.frozen
              have hd := mkS_drop r M
              have hlt : (r.drop M).length < r.length := by
                have h1 : 0 < m.length := List.length_pos_iff.2 hm
                have h2 : 0 < r.length := List.length_pos_iff.2 hr
                rw [List.length_drop]; omega
              clear c2w c2b c2m hk3 hJ3 hy HRr
              gi_wp2
              gi_roundg (r.drop M).length
              case measure => exact hlt
              case rel => exact ⟨by omega, hid ⟨_, r.drop M, rfl, HC.out.2, by rw [← hM3, hd]; exact HM7.out, by rw [← hM3, hd]; exact HJ6.out⟩⟩
            · gi_wp2
              refine bodyPost_ret (results_none rfl _ _ _) rfl ?_
              exact ⟨⟨_, rfl⟩, .inr ⟨_, HC.out.1, hJx3⟩⟩
          · have HN1 := hid (show ∀ j, j < 2 + 1 → fitB m r (cutL b (tryS j)) = false by
              intro j h
              rcases Nat.lt_or_ge j 2 with h5 | h5
              · exact HNk.out j h5
              · obtain rfl : j = 2 := by omega
                rw [hcut]; exact Bool.eq_false_iff.2 hfit)
            by_cases hle : (N : Int) ≤ ((mkS r).size : Int)
            · obtain ⟨hpx, hpy⟩ := fit_no hfit hle
              refine wpIn_region_quiet_lit rfl (by kernel_rfl) (by kernel_rfl) ?_
              repeat (first
                | gi_big_quiet_skip
                | (gi_big_quiet_want; gi_big_quiet_op; go_big_quiet_on)
                | (refine Go.BigFrame.wpQuietIn_skip (fun _ _ _ _ => trivial) (by rfl) ?_; conv => arg 8; simp [go_sem])
                | (refine Go.BigFrame.wpQuietIn_want (fun _ _ _ _ => trivial) (by rfl) ?_; intro _ _; gi_big_quiet_op; gi_big_quiet_call ((gi_at_call 33; refine CallsIn.quiet_of_same (callsIn_wide.2 (Tryd.strings_HasPrefix _ _ _))))))
              refine wpQuietIn_nil ?_
              intro _ hwq
              obtain ⟨nq, hwq'⟩ := hwq
              subst hwq'
              rw [hpx]
              clear hpx hpy
              gi_wp2
              go_roundw
              case rel => exact ⟨3, by omega, by go_num, rfl, hid (HBk.out.trans ((below_drewN (Below.refl _ _) nq).mono HBk.out.size)), HN1⟩
              case measure => simp [intOf]
            · refine wpIn_region_quiet_lit rfl (by kernel_rfl) (by kernel_rfl) ?_
              repeat (first
                | gi_big_quiet_skip
                | (gi_big_quiet_want; gi_big_quiet_op; go_big_quiet_on)
                | (refine Go.BigFrame.wpQuietIn_skip (fun _ _ _ _ => trivial) (by rfl) ?_; conv => arg 8; simp [go_sem]))
              refine wpQuietIn_nil ?_
              intro _ hwq
              obtain ⟨nq, hwq'⟩ := hwq
              subst hwq'
              gi_wp2
              go_roundw
              case rel => exact ⟨3, by omega, by go_num, rfl, hid (HBk.out.trans ((below_drewN (Below.refl _ _) nq).mono HBk.out.size)), HN1⟩
              case measure => simp [intOf]
        · have HE := hid (show pre ++ [(([] : List UInt8), (2 : Int))] = blk b m x by rw [HBl.out, blk_two hr (shf_none HNk.out)])
          have HYk := hid (HYq.out pre ([], 2) _ HJk.out (by rw [HE.out]; exact List.prefix_refl _))
          obtain ⟨fn, tmps, assign, body, hy, hR⟩ := HYk.out
          have HRr := hid hR
          clear hR HYk
          have ce : (mkS []) = (⟨#[]⟩ : ByteArray) := rfl
          simp only [ce] at hy
          gi_wp2
          refine HRr.out.mono ?_
          rintro e W3 (⟨rfl, hJ3, hk3⟩ | ⟨rfl, hJx3, hk3⟩)
          · gi_wp2
            refine bodyPost_ret (results_none rfl _ _ _) rfl ?_
            exact ⟨⟨_, rfl⟩, .inl ⟨_, HE.out, hJ3⟩⟩
          · gi_wp2
            refine bodyPost_ret (results_none rfl _ _ _) rfl ?_
            exact ⟨⟨_, rfl⟩, .inr ⟨_, by rw [HE.out]; exact List.prefix_refl _, hJx3⟩⟩
end Go.Proofs.YtobbinppkjmhhaaDoor
