/-
  strip.blocks and strip.beside: whether two columns can stand side by side.
  No condition beyond the height being from 1 to 4 and the columns being columns of it.
-/
import Derived.Test.YtppflnkadjddiaaProg
import Derived.Test.YtppflnkadjddiaaLib
import Derived.RangeFuncNested
import Derived.RangeFuncBox
import Derived.RangeFuncBound
import Derived.RangeFuncCalls
import Derived.RangeFuncLeaves
import Derived.Shelf.Abstract
import Derived.Shelf.RegionOpen
import Derived.OwnWalkIn
import Derived.TacticsInMore
import Derived.LoopNIn
import Derived.LoopIn
import Derived.Sort.QuietIn
namespace Go.Proofs.Ytppflnkadjddiaa
open Go.RowKit Go.Shelf
attribute [local go_sem] Oper.semAt_some
set_option linter.unusedVariables false

/-- The number of the block of two columns in rows that begin at the k-th, in the walk's own form. -/
def nb (h c e : Int) (k : Nat) : Int := wrap64 (wrap64 (4 * bits .and .i64 (c / 2 ^ (h.toNat - 1 - k - 1)) 3) + bits .and .i64 (e / 2 ^ (h.toNat - 1 - k - 1)) 3)
theorem nb_eq (h c e : Int) (k : Nat) (hc0 : 0 ≤ c) (he0 : 0 ≤ e) : nb h c e k = 4 * (c / 2 ^ (h.toNat - 1 - k - 1) % 4) + e / 2 ^ (h.toNat - 1 - k - 1) % 4 := by
  rw [nb, i64_and3, i64_and3]
  generalize c / 2 ^ (h.toNat - 1 - k - 1) = x
  generalize e / 2 ^ (h.toNat - 1 - k - 1) = y
  rw [IntWalk.wrap64_in (4 * (x % 4)) ⟨by omega, by omega⟩, IntWalk.wrap64_in _ ⟨by omega, by omega⟩]

theorem nb_range (h c e : Int) (k : Nat) (hc0 : 0 ≤ c) (he0 : 0 ≤ e) : 0 ≤ nb h c e k ∧ nb h c e k ≤ 15 := by
  rw [nb_eq _ _ _ _ hc0 he0]
  omega

/-- The numbers of the blocks of two columns, in the order in which they are yielded. -/
def upto {α : Type} (f : Nat → α) (k : Nat) : List α := (List.range k).map f
theorem upto_succ {α : Type} (f : Nat → α) (k : Nat) : upto f (k + 1) = upto f k ++ [f k] := by simp [upto, List.range_succ]
theorem upto_length {α : Type} (f : Nat → α) (k : Nat) : (upto f k).length = k := by simp [upto]
theorem upto_prefix {α : Type} (f : Nat → α) {k n : Nat} (h : k ≤ n) : upto f k <+: upto f n := by
  have : upto f k = (upto f n).take k := by
    apply List.ext_getElem
    · simp [upto, h]
    · intro i h1 h2; simp [upto]
  rw [this]
  exact List.take_prefix _ _
def blks (h c e : Int) : List Int := if h = 1 then [2 * c + e] else upto (nb h c e) (h - 1).toNat

set_option maxRecDepth 100000 in
set_option maxHeartbeats 2000000 in
theorem blocks1_many (l B1 B2 B3 n₀ : Nat) (h c e : Int) (h2 : 2 ≤ h) (h4 : h ≤ 4) (hc0 : 0 ≤ c) (hc1 : c ≤ 15) (he0 : 0 ≤ e) (he1 : e ≤ 15) (hB1 : B1 < n₀) (hB2 : B2 < n₀) (hB3 : B3 < n₀) (J Jx : List Int → World → Prop) (hJd : ∀ pre W nq, J pre W → J pre (W.drewN nq))
    (hY : ∀ pre x W, 0 ≤ x ∧ x ≤ 15 → J pre W → pre.length < (h - 1).toNat → YieldAt Fence.wide (8 - 1) Try.prog l #[.int .i64 x] W fun e W' =>
      (e = .returned (.bool true) ∧ J (pre ++ [x]) W' ∧ Below n₀ W W') ∨ (e = .returned (.bool false) ∧ Jx (pre ++ [x]) W'))
    (W : World) (c1 : W.cell? ⟨B1, 0, none⟩ = some (.int .i64 h)) (c2 : W.cell? ⟨B2, 0, none⟩ = some (.int .i64 c)) (c3 : W.cell? ⟨B3, 0, none⟩ = some (.int .i64 e)) (h0 : J [] W) :
    CallsIn Fence.wide 8 Try.prog 94 #[.func (.yield l) #[] #[], .pointer (some ⟨B1, 0, none⟩), .pointer (some ⟨B2, 0, none⟩), .pointer (some ⟨B3, 0, none⟩)] W fun e' W' => (∃ v, e' = .returned v) ∧
      ((∃ ys, ys = blks h c e ∧ J ys W') ∨ (∃ pre, pre <+: blks h c e ∧ Jx pre W')) := by
  have hne : (h == 1) = false := by simp; omega
  have HB := hid (show blks h c e = upto (nb h c e) (h - 1).toNat by rw [blks, if_neg (by omega)])
  refine callsIn_of_wp Try.func94 rfl trivial ?_ rfl
  simp only [Try.ntmps94, List.size_toArray, List.length_cons, List.length_nil, Nat.reduceAdd, Nat.reduceSub, Array.replicate_succ, Array.replicate_zero, List.push_toArray, List.append_toArray, List.nil_append, List.cons_append]
  gi_wp2
  gi_loopw [5] (fun i wr => ∃ k : Nat, (k : Int) ≤ h - 1 ∧ i = .int .i64 (h - 1 - k) ∧ J (upto (nb h c e) k) wr ∧ Below n₀ W wr) (fun i _ => (intOf i).toNat)
  case atStart => exact ⟨0, by omega, by simp, h0, Below.refl _ _⟩
  case round =>
    obtain ⟨k, hk, rfl, hJs, hnx⟩ := hrel
    have d1 := (hnx.cell (p := ⟨B1, 0, none⟩) hB1).trans c1
    have d2 := (hnx.cell (p := ⟨B2, 0, none⟩) hB2).trans c2
    have d3 := (hnx.cell (p := ⟨B3, 0, none⟩) hB3).trans c3
    by_cases hlt : (k : Int) < h - 1
    · have hg : 0 < h - 1 - (k : Int) := by omega
      have hlen : (upto (nb h c e) k).length < (h - 1).toNat := by rw [upto_length]; omega
      have HY := fun nq => hid (hY _ (nb h c e k) (wr.drewN nq) (nb_range h c e k hc0 he0) (hJd _ _ nq hJs) hlen)
      gi_wp2
      gi_quiet (fail)
      obtain ⟨fn, tmps, assign, body, hy, hR⟩ := (HY nq).out
      unfold nb at hy
      gi_wp2
      refine hR.mono ?_
      rintro e W3 (⟨rfl, hJ3, hk3⟩ | ⟨rfl, hJx3⟩)
      · gi_wp2
        go_roundw
        case rel => exact ⟨k + 1, by omega, by go_num, by rw [upto_succ]; exact hJ3, hnx.trans ((below_drewN (Below.refl _ _) nq).trans hk3)⟩
        case measure => simp [intOf]; omega
      · gi_wp2
        refine bodyPost_ret (results_none rfl _ _ _) rfl ?_
        exact ⟨⟨_, rfl⟩, .inr ⟨_, by rw [HB.out, ← upto_succ]; exact upto_prefix _ (by omega), hJx3⟩⟩
    · obtain rfl : h = k + 1 := by omega
      gi_wp2
      go_end0
      have e : ((k : Int) + 1 - 1).toNat = k := by omega
      have hE := HB.out
      rw [e] at hE
      exact ⟨⟨_, rfl⟩, .inl (by rw [hE]; exact hJs)⟩

set_option maxRecDepth 100000 in
set_option maxHeartbeats 2000000 in
theorem blocks1_one (l B1 B2 B3 n₀ : Nat) (c e : Int) (hc0 : 0 ≤ c) (hc1 : c ≤ 15) (he0 : 0 ≤ e) (he1 : e ≤ 15) (J Jx : List Int → World → Prop)
    (hr : 0 ≤ 2 * c + e ∧ 2 * c + e ≤ 15) (hY : ∀ pre x W, 0 ≤ x ∧ x ≤ 15 → J pre W → pre.length < 1 → YieldAt Fence.wide (8 - 1) Try.prog l #[.int .i64 x] W fun e W' =>
      (e = .returned (.bool true) ∧ J (pre ++ [x]) W' ∧ Below n₀ W W') ∨ (e = .returned (.bool false) ∧ Jx (pre ++ [x]) W'))
    (W : World) (c1 : W.cell? ⟨B1, 0, none⟩ = some (.int .i64 1)) (c2 : W.cell? ⟨B2, 0, none⟩ = some (.int .i64 c)) (c3 : W.cell? ⟨B3, 0, none⟩ = some (.int .i64 e)) (h0 : J [] W) :
    CallsIn Fence.wide 8 Try.prog 94 #[.func (.yield l) #[] #[], .pointer (some ⟨B1, 0, none⟩), .pointer (some ⟨B2, 0, none⟩), .pointer (some ⟨B3, 0, none⟩)] W fun e' W' => (∃ v, e' = .returned v) ∧
      ((∃ ys, ys = blks 1 c e ∧ J ys W') ∨ (∃ pre, pre <+: blks 1 c e ∧ Jx pre W')) := by
  obtain ⟨fn, tmps, assign, body, hy, hR⟩ := hY [] (2 * c + e) W hr h0 (by simp)
  refine callsIn_of_wp Try.func94 rfl trivial ?_ rfl
  simp only [Try.ntmps94, List.size_toArray, List.length_cons, List.length_nil, Nat.reduceAdd, Nat.reduceSub, Array.replicate_succ, Array.replicate_zero, List.push_toArray, List.append_toArray, List.nil_append, List.cons_append]
  gi_wp2
  refine hR.mono ?_
  rintro e W3 (⟨rfl, hJ3, hk3⟩ | ⟨rfl, hJx3⟩)
  · gi_wp2
    refine bodyPost_ret (results_none rfl _ _ _) rfl ?_
    exact ⟨⟨_, rfl⟩, .inl ⟨_, rfl, hJ3⟩⟩
  · gi_wp2
    refine bodyPost_ret (results_none rfl _ _ _) rfl ?_
    exact ⟨⟨_, rfl⟩, .inr ⟨_, List.prefix_refl _, hJx3⟩⟩

set_option maxHeartbeats 1000000 in
theorem blocks_any (h c e : Int) (w : World) :
    Calls Try.prog 66 #[.int .i64 h, .int .i64 c, .int .i64 e] w fun e' w' =>
      e' = .returned (.func (.func 94) #[] #[.pointer (some ⟨w.heap.size, 0, none⟩), .pointer (some ⟨w.heap.size + 1, 0, none⟩), .pointer (some ⟨w.heap.size + 1 + 1, 0, none⟩)]) ∧
      w' = ((w.alloc (.cells #[.int .i64 h] 3)).alloc (.cells #[.int .i64 c] 3)).alloc (.cells #[.int .i64 e] 3) := by
  go_enter Try.func66, Try.ntmps66
  go_wp2
  go_ret
  exact ⟨rfl, rfl⟩

abbrev Blk := { x : Int // 0 ≤ x ∧ x ≤ 15 }
def vals (l : List Blk) : List Int := l.map (·.1)
theorem vals_snoc (l : List Blk) (x : Blk) : vals (l ++ [x]) = vals l ++ [x.1] := by simp [vals]

/-- The iterator's contract. -/
theorem blocks_stops (h c e : Int) (h1 : 1 ≤ h) (h4 : h ≤ 4) (hc0 : 0 ≤ c) (hc1 : c ≤ 15) (he0 : 0 ≤ e) (he1 : e ≤ 15) (hr : ∀ x ∈ blks h c e, 0 ≤ x ∧ x ≤ 15) (B1 B2 B3 n₀ : Nat) (w : World) (hB1 : B1 < n₀) (hB2 : B2 < n₀) (hB3 : B3 < n₀) (hn : n₀ ≤ w.heap.size)
    (c1 : w.cell? ⟨B1, 0, none⟩ = some (.int .i64 h)) (c2 : w.cell? ⟨B2, 0, none⟩ = some (.int .i64 c)) (c3 : w.cell? ⟨B3, 0, none⟩ = some (.int .i64 e)) :
    SeqStopsK Fence.wide 8 Try.prog 94 #[.pointer (some ⟨B1, 0, none⟩), .pointer (some ⟨B2, 0, none⟩), .pointer (some ⟨B3, 0, none⟩)] (fun x : Blk => #[Value.int .i64 x.1]) (Below n₀)
      (fun ys => vals ys = blks h c e) (fun pre => vals pre <+: blks h c e) (blks h c e).length w := fun l J Jx W hW hJ _ hY h0 => by
  have d1 := (hW.cell (p := ⟨B1, 0, none⟩) (by show B1 < _; omega)).trans c1
  have d2 := (hW.cell (p := ⟨B2, 0, none⟩) (by show B2 < _; omega)).trans c2
  have d3 := (hW.cell (p := ⟨B3, 0, none⟩) (by show B3 < _; omega)).trans c3
  have hY' : ∀ pre x W1, 0 ≤ x ∧ x ≤ 15 → (∃ ys, vals ys = pre ∧ J ys W1) → pre.length < (blks h c e).length → YieldAt Fence.wide (8 - 1) Try.prog l #[.int .i64 x] W1 fun e W' =>
      (e = .returned (.bool true) ∧ (∃ ys, vals ys = pre ++ [x] ∧ J ys W') ∧ Below n₀ W1 W') ∨ (e = .returned (.bool false) ∧ (∃ ys, vals ys = pre ++ [x] ∧ Jx ys W')) := by
    rintro pre x W1 hx ⟨ys, rfl, hj⟩ hl
    obtain ⟨fn, tmps, assign, body, hy, hR⟩ := hY ys ⟨x, hx⟩ W1 hj (by simpa [vals] using hl)
    refine ⟨fn, tmps, assign, body, hy, hR.mono ?_⟩
    rintro e W' (⟨rfl, hj', hb⟩ | ⟨rfl, hj'⟩)
    · exact .inl ⟨rfl, ⟨_, vals_snoc _ _, hj'⟩, hb⟩
    · exact .inr ⟨rfl, ⟨_, vals_snoc _ _, hj'⟩⟩
  have done : ∀ e' W', ((∃ v, e' = Ending.returned v) ∧ ((∃ ys, ys = blks h c e ∧ (∃ zs, vals zs = ys ∧ J zs W')) ∨ (∃ pre, pre <+: blks h c e ∧ (∃ zs, vals zs = pre ∧ Jx zs W')))) →
      (∃ v, e' = Ending.returned v) ∧ ((∃ xs, vals xs = blks h c e ∧ J xs W') ∨ (∃ pre, vals pre <+: blks h c e ∧ Jx pre W')) := by
    rintro e' W' ⟨hv, ⟨_, rfl, zs, hz, hj⟩ | ⟨_, hp, zs, rfl, hj⟩⟩
    · exact ⟨hv, .inl ⟨zs, hz, hj⟩⟩
    · exact ⟨hv, .inr ⟨zs, hp, hj⟩⟩
  by_cases hh : h = 1
  · subst hh
    exact (blocks1_one l B1 B2 B3 n₀ c e hc0 hc1 he0 he1 _ (fun ys W => ∃ zs, vals zs = ys ∧ Jx zs W) (hr _ (by simp [blks])) (fun pre x W1 hx hj hl => hY' pre x W1 hx hj (by simpa [blks] using hl)) W d1 d2 d3 ⟨[], rfl, h0⟩).mono done
  · refine (blocks1_many l B1 B2 B3 n₀ h c e (by omega) h4 hc0 hc1 he0 he1 hB1 hB2 hB3 (fun ys W => ∃ zs, vals zs = ys ∧ J zs W) (fun ys W => ∃ zs, vals zs = ys ∧ Jx zs W) ?_ (fun pre x W1 hx hj hl => hY' pre x W1 hx hj ?_) W d1 d2 d3 ⟨[], rfl, h0⟩).mono done
    · rintro pre W1 nq ⟨zs, hz, hj⟩
      exact ⟨zs, hz, hJ zs W1 _ none hj ⟨rfl, rfl, rfl, Nat.le_refl _, fun _ _ _ => rfl⟩ (by simp)⟩
    · rw [blks, if_neg hh, upto_length]
      exact hl

/-- Whether two columns can stand side by side, A saying which blocks are allowed. -/
def besP (A : Nat → Bool) (h c e : Int) : Bool := (blks h c e).all (fun n => A n.toNat)

theorem blks_range (h c e : Int) (hc0 : 0 ≤ c) (he0 : 0 ≤ e) (hc1 : h = 1 → c ≤ 1) (he1 : h = 1 → e ≤ 1) : ∀ x ∈ blks h c e, 0 ≤ x ∧ x ≤ 15 := by
  intro x hx
  unfold blks at hx
  split at hx
  · rename_i h1
    have := hc1 h1
    have := he1 h1
    simp at hx
    omega
  · simp only [upto, List.mem_map] at hx
    obtain ⟨k, _, rfl⟩ := hx
    rw [nb_eq _ _ _ _ hc0 he0]
    omega

set_option maxRecDepth 100000 in
set_option maxHeartbeats 2000000 in
theorem beside_any (Ba : Nat) (A : Nat → Bool) (h c e : Int) (w : World) (h1 : 1 ≤ h) (h4 : h ≤ 4) (hc0 : 0 ≤ c) (hc1 : c ≤ 15) (he0 : 0 ≤ e) (he1 : e ≤ 15) (hr : ∀ x ∈ blks h c e, 0 ≤ x ∧ x ≤ 15)
    (hBa : Ba < w.heap.size) (hA : ∀ j, j < 16 → w.cell? ⟨Ba, j, none⟩ = some (.bool (A j))) :
    Calls Try.prog 45 #[.pointer (some ⟨Ba, 0, none⟩), .int .i64 h, .int .i64 c, .int .i64 e] w fun e' w' => e' = .returned (.bool (besP A h c e)) ∧ Below w.heap.size w w' := by
  refine (callsIn_wide (n := 9)).1 ?_
  refine callsIn_of_wp_marks Try.func45 rfl trivial ?_ rfl
  simp only [Try.ntmps45, List.size_toArray, List.length_cons, List.length_nil, Nat.reduceAdd, Nat.reduceSub, Array.replicate_succ, Array.replicate_zero, List.push_toArray, List.append_toArray, List.nil_append, List.cons_append]
  gi_wp2_with (refine ⟨trivial, ?_⟩; gi_at_call 66; refine (callsIn_wide.2 (blocks_any h c e _)).mono ?_; rintro e' w' ⟨rfl, rfl⟩)
  obtain ⟨w0, hw0⟩ : ∃ w0, w0 = ((w.alloc (.cells #[.pointer (some ⟨Ba, 0, none⟩)] 79)).alloc (.cells #[.bool false] 4)) := ⟨_, rfl⟩
  have hs0 : w0.heap.size = w.heap.size + 1 + 1 := by rw [hw0]; simp
  have b0 : Boxed w0 w.heap.size 79 (.pointer (some ⟨Ba, 0, none⟩)) := by rw [hw0]; exact (Boxed.new w _ _).alloc _
  have b1 : Boxed w0 (w.heap.size + 1) 4 (.bool false) := by
    rw [hw0]
    have := Boxed.new (w.alloc (.cells #[.pointer (some ⟨Ba, 0, none⟩)] 79)) 4 (.bool false)
    rwa [World.size_alloc] at this
  have hb0 : Below w.heap.size w w0 := by rw [hw0]; exact ((Below.refl _ w).alloc (Nat.le_refl _) _).alloc (by simp) _
  rw [← hw0]
  clear hw0
  have b2 := Boxed.new w0 3 (.int .i64 h)
  have b3 := Boxed.new (w0.alloc (.cells #[.int .i64 h] 3)) 3 (.int .i64 c)
  have b4 := Boxed.new ((w0.alloc (.cells #[.int .i64 h] 3)).alloc (.cells #[.int .i64 c] 3)) 3 (.int .i64 e)
  simp only [World.size_alloc, hs0] at b2 b3 b4
  have hb4 : Below w.heap.size w (((w0.alloc (.cells #[.int .i64 h] 3)).alloc (.cells #[.int .i64 c] 3)).alloc (.cells #[.int .i64 e] 3)) :=
    ((hb0.alloc (by omega) _).alloc (by simp; omega) _).alloc (by simp; omega) _
  refine wpIn_rangeFunc_ownF rfl (by decide) (gf := 94) (lb := #[.pointer (some ⟨w.heap.size + 1 + 1, 0, none⟩), .pointer (some ⟨w.heap.size + 1 + 1 + 1, 0, none⟩), .pointer (some ⟨w.heap.size + 1 + 1 + 2, 0, none⟩)]) rfl trivial (enters_of Try.func94 (by kernel_rfl) rfl)
    (blocks_stops h c e h1 h4 hc0 hc1 he0 he1 hr (w.heap.size + 1 + 1) (w.heap.size + 1 + 1 + 1) (w.heap.size + 1 + 1 + 2) (w.heap.size + 5) _ (by omega) (by omega) (by omega) (by simp [hs0]) ((b2.alloc _).alloc _).cell (b3.alloc _).cell b4.cell) belowK_t (belowK_b (by simp [hs0])) (Below.refl _ _) (fun _ => rfl)
    (fun pre W => ((∀ y ∈ vals pre, A y.toNat = true) ∧ Boxed W w.heap.size 79 (.pointer (some ⟨Ba, 0, none⟩)) ∧ Boxed W (w.heap.size + 1) 4 (.bool false)) ∧ Below w.heap.size w W)
    (fun c pre W => (c = .ret ∧ (∃ y ∈ vals pre, A y.toNat = false) ∧ Boxed W (w.heap.size + 1) 4 (.bool false)) ∧ Below w.heap.size w W)
    ?hI ?hIx ⟨⟨by simp [vals], ((b0.alloc _).alloc _).alloc _, ((b1.alloc _).alloc _).alloc _⟩, hb4⟩
    (fun x => { tmps := #[.pointer (some ⟨Ba, 0, none⟩), .int .i64 h, .int .i64 c, .int .i64 e, .pointer (some ⟨w.heap.size, 0, none⟩), undef, undef, undef, .pointer (some ⟨w.heap.size + 1, 0, none⟩), .int .i64 x.1, .int .i64 h, .int .i64 c, .int .i64 e, .func (.func 94) #[] #[.pointer (some ⟨w.heap.size + 1 + 1, 0, none⟩), .pointer (some ⟨w.heap.size + 1 + 1 + 1, 0, none⟩), .pointer (some ⟨w.heap.size + 1 + 1 + 2, 0, none⟩)], .int .i64 x.1, undef, undef, undef, undef, undef, undef], defers := [] }) ?assign ?body ?done ?stop
  case hI =>
    exact OwnFrom.and (OwnFrom.and (ownFrom_pure _ _) (OwnFrom.and (Own.from (boxed_own _ _ _) _) (Own.from (boxed_own _ _ _) _))) (ownFrom_below (Nat.le_refl _) (by simp [hs0]; omega))
  case hIx =>
    exact fun c => OwnFrom.and (OwnFrom.and (ownFrom_pure _ _) (OwnFrom.and (ownFrom_pure _ _) (Own.from (boxed_own _ _ _) _))) (ownFrom_below (Nat.le_refl _) (by simp [hs0]; omega))
  case assign =>
    intro l x W K hK
    gi_wp2
    exact hK
  case body =>
    rintro l pre ⟨x, hx⟩ W ⟨⟨hp, b0', b1'⟩, hB⟩ hlt
    obtain ⟨hx0, hx1⟩ := hx
    have d0 := b0'.cell
    have d1 := b1'.cell
    have f1 := b1'.frozen
    have hAx := (hB.cell (p := ⟨Ba, x.toNat, none⟩) hBa).trans (hA x.toNat (by omega))
    by_cases hA' : A x.toNat = true
    · have HA := hid hA'
      have HP := hid hp
      rw [hA'] at hAx
      clear hA' hA hp hr
      gi_wp2
      refine ⟨KeepsOthers.refl _, Below.refl _ _, ⟨fun y hy => ?_, b0', b1'⟩, hB⟩
      rw [vals_snoc] at hy
      rcases List.mem_append.1 hy with hy | hy
      · exact HP.out y hy
      · obtain rfl : y = x := by simpa using hy
        exact HA.out
    · have hA'' : A x.toNat = false := by simpa using hA'
      have HA := hid hA''
      rw [hA''] at hAx
      clear hA' hA'' hA hp hr
      gi_wp2
      exact ⟨KeepsOthers.setCell _ _ _, ⟨rfl, ⟨x, by simp [vals], HA.out⟩, b1'.set _⟩, hB.setCell (p := ⟨w.heap.size + 1, 0, none⟩) (by simp) _⟩
  case done =>
    rintro D ys W hD hys ⟨⟨hall, _, b1'⟩, hB⟩ hK
    have d1 := b1'.cell
    have f1 := b1'.frozen
    have HA := hid hall
    have HY := hid hys
    clear hall hr hA hys
    gi_wp2
    have hK' := (KeepsOthers.setCell W ⟨w.heap.size + 1, 0, none⟩ (.bool true)).same D _ hK rfl
    refine ⟨by simp, .inl ⟨_, _, rfl, run_takeDeferred hK', ?_⟩⟩
    have hc5 := cell_kept (b1'.set (.bool true)).cell (grownBy_putObj' _ D (.deferred none)) (fun r e => by cases e; exact ⟨_, hK', rfl⟩)
    refine ⟨.bool true, ?_, ?_, (hB.setCell (p := ⟨w.heap.size + 1, 0, none⟩) (by simp) _).trans (belowK_b (w := w) (Nat.le_refl _) _ D _ _ (by simp [hs0] at hD; omega) hK' rfl rfl)⟩
    · simp [results, Try.f45, go_sem, hc5]
    · have e1 : besP A h c e = true := by
        rw [besP, List.all_eq_true]
        intro y hy
        exact HA.out y (by rw [HY.out]; exact hy)
      rw [e1]
  case stop =>
    rintro D cc pre W hD hpre ⟨⟨rfl, ⟨y, hy, hAy⟩, b1'⟩, hB⟩ hK
    clear hr hA
    have HA := hid hAy
    have HY := hid hpre
    clear hAy hpre
    gi_wp2
    refine ⟨by simp, .inl ⟨_, _, rfl, run_takeDeferred hK, ?_⟩⟩
    have hc5 := cell_kept b1'.cell (grownBy_putObj' _ D (.deferred none)) (fun r e => by cases e; exact ⟨_, hK, rfl⟩)
    refine ⟨.bool false, ?_, ?_, hB.trans (belowK_b (w := w) (Nat.le_refl _) W D _ _ (by simp [hs0] at hD; omega) hK rfl rfl)⟩
    · simp [results, Try.f45, go_sem, hc5]
    · have e1 : besP A h c e = false := by
        rw [besP, List.all_eq_false]
        exact ⟨y, HY.out.subset hy, by simp [HA.out]⟩
      rw [e1]
end Go.Proofs.Ytppflnkadjddiaa
