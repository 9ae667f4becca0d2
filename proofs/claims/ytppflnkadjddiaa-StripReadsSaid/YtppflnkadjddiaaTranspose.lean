/-
  strip.Transpose and the reference's Turned: the transposed blocks, and the transposed rows.
  No condition beyond the rows being at most 1000.
-/
import Derived.Test.YtppflnkadjddiaaTransCnt
import Derived.Test.YtppflnkadjddiaaTable
namespace Go.Proofs.Ytppflnkadjddiaa
open Go.RowKit
set_option linter.unusedVariables false

structure TT (w : World) (l : List Int) (k : Nat) (wr : World) : Prop where
  row : wr.rangeAt w.heap.size 0 (tabL (trs (l.take k)))
  may : wr.there w.heap.size 0 16
  bel : Below w.heap.size w wr
  hi : w.heap.size < wr.heap.size
theorem trs_no {l : List Int} {k : Nat} {x : Int} (hx : l[k]? = some x) (h : in16 x = false) : trs (l.take (k + 1)) = trs (l.take k) := by
  rw [take_snoc hx, trs, trs, List.filter_append]; simp [h]
theorem trs_yes {l : List Int} {k : Nat} {x : Int} (hx : l[k]? = some x) (h : in16 x = true) : trs (l.take (k + 1)) = trs (l.take k) ++ [(tr x.toNat : Int)] := by
  rw [take_snoc hx, trs, trs, List.filter_append]; simp [h]
theorem TT.step {w wr : World} {l : List Int} {k m : Nat} {x : Int} (h : TT w l k wr) (hx : l[k]? = some x) (hm : m < 16) (hi : in16 x = true) (ht : tr x.toNat = m) : TT w l (k + 1) (wr.setCell ⟨w.heap.size, m, none⟩ (.bool true)) := by
  refine ⟨?_, there_set h.may _ _, h.bel.setCell (Nat.le_refl _) _, by have := h.hi; simp [World.setCell]; exact this⟩
  intro j v hj
  have hj16 : j < 16 := by have := lt_of_some hj; rwa [tabL_len] at this
  rw [tabL_get _ hj16] at hj
  rw [trs_yes hx hi, ht] at hj
  have hold := h.row j _ (tabL_get _ hj16)
  simp only [Nat.zero_add] at hold ⊢
  by_cases e : m = j
  · subst e
    rw [World.cell?_setCell_same _ _ _ hold, ← hj]
    simp
  · rw [World.cell?_setCell_other _ _ _ _ (fun e' => e (by injection e')), hold, ← hj]
    have : ¬ (j : Int) = (m : Int) := by omega
    simp [this]
theorem TT.start (w : World) (l : List Int) (c : Array Value) (e : TypeId) (hc : c = Array.replicate 16 (.bool false)) : TT w l 0 (w.alloc (.cells c e)) := by
  have hm := there_new w e c (cs := c) (by rw [hc]; simp) hc
  have hcs : c.size = 16 := by rw [hc]; simp
  have hm' : (w.alloc (.cells c e)).there w.heap.size 0 16 := by rwa [hcs] at hm
  refine ⟨?_, hm', (Below.refl _ _).alloc (Nat.le_refl _) _, by simp⟩
  intro j v hj
  have hj16 : j < 16 := by have := lt_of_some hj; rwa [tabL_len] at this
  rw [tabL_get _ hj16] at hj
  subst hc
  rw [Nat.zero_add, cell_of_row _ _ j _ _ _ (heap_alloc_new w _), ← hj]
  simp [trs, hj16]

def trK (l : List Int) (k : Nat) : List Int := ((List.range k).filter (fun (n : Nat) => (trs l).contains (n : Int))).map (fun (n : Nat) => (n : Int))
theorem trK_yes {l : List Int} {k : Nat} (h : (trs l).contains (k : Int) = true) : trK l (k + 1) = trK l k ++ [(k : Int)] := by rw [trK, List.range_succ, List.filter_append]; simp only [List.filter_cons, h]; simp [trK]
theorem trK_no {l : List Int} {k : Nat} (h : (trs l).contains (k : Int) = false) : trK l (k + 1) = trK l k := by rw [trK, List.range_succ, List.filter_append]; simp only [List.filter_cons, h]; simp [trK]
theorem trK_len (l : List Int) (k : Nat) : (trK l k).length ≤ k := by
  have := List.length_filter_le (fun (n : Nat) => (trs l).contains (n : Int)) (List.range k)
  simpa [trK] using this
theorem run_index_arr {P : Program} {w : World} (t e : TypeId) (n : Nat) (cs : Array Value) (k : IntKind) (i : Nat) (v : Value) (h : P.underlying t = some (.array n e)) (hs : ∀ w, (sizeOf e).run P w = .ok 1 w) (ha : ∀ w, (isAgg e).run P w = .ok false w) (hi : i < n) (hc : cs[i]? = some v) :
    (Instr.index t (.agg cs) (.int k (i : Int))).run P w = .ok v w := by
  simp [Instr.index, run_underlying h, asIntOf, hi, go_sem, hs, ha, hc]
def trB (x : Int) : Int := bits .or .i64 (bits .or .i64 (bits .and .i64 x 9) (bits .and .i64 (x / 2) 2)) (bits .and .i64 (x * 2) 4)
theorem trB_all : (List.range 16).map (fun (n : Nat) => trB (n : Int)) = (List.range 16).map (fun (n : Nat) => ((tr n : Nat) : Int)) := by kernel_rfl
theorem tr_bits {x : Int} (h0 : 0 ≤ x) (h1 : x < 16) : bits .or .i64 (bits .or .i64 (bits .and .i64 x 9) (bits .and .i64 (x / 2) 2)) (bits .and .i64 (x * 2) 4) = ((tr x.toNat : Nat) : Int) := by
  obtain ⟨n, rfl⟩ : ∃ n : Nat, x = (n : Int) := ⟨x.toNat, by omega⟩
  have h := congrArg (fun l => l[n]?) trB_all
  simp only [List.getElem?_map, List.getElem?_range (show n < 16 by omega), Option.map_some, Option.some.injEq] at h
  exact h

set_option maxRecDepth 100000 in
set_option maxHeartbeats 2000000 in
theorem transpose_any (v : Value) (l : List Int) (w : World) (hl : Sl 1 w v l.length (ints l)) :
    Calls Try.prog 27 #[v] w fun e w' => ∃ v', e = .returned v' ∧ w'.ownsRow w.heap.size 3 1 v' (trL l).length (ints (trL l)) ∧ Below w.heap.size w w' := by
  obtain ⟨ao, cap, rfl, _, _, hm1, _⟩ := id hl
  have HL := hid hl
  clear hl
  go_enter Try.func27, Try.ntmps27
  go_upto_region 3 with fail
  go_loopw [11] (fun i wr => ∃ k : Nat, k ≤ l.length ∧ i = .int .i64 k ∧ TT w l k wr) (fun i _ => l.length - (intOf i).toNat)
  case atStart => exact ⟨0, Nat.zero_le _, rfl, TT.start w l _ _ rfl⟩
  case round =>
    obtain ⟨k, hk, rfl, hT⟩ := hrel
    have HT := hid hT
    clear hT
    by_cases hlt : k < l.length
    · obtain ⟨x, hx⟩ := some_of_lt hlt
      obtain ⟨b, o, rfl, c1⟩ := (HL.out.below (HT.out.bel)).cell (ints_get hx)
      have HX := hid hx
      clear hx
      by_cases hi : in16 x = true
      · have HI := hid hi
        have h0 : 0 ≤ x ∧ x < 16 := by simpa [in16] using hi
        obtain ⟨x0, x1⟩ := h0
        clear hi
        obtain ⟨m, hm⟩ : ∃ m : Nat, tr x.toNat = m := ⟨_, rfl⟩
        have hE := tr_bits x0 x1
        rw [hm] at hE
        have hm16 : m < 16 := by rw [← hm]; exact tr_lt (by omega)
        have HM := hid hm
        clear hm
        have c2 := HT.out.row m _ (tabL_get _ hm16)
        have f2 := (HT.out.may m hm16).2
        rw [Nat.zero_add] at c2 f2
        go_wp2
        go_roundw
        case rel => exact ⟨k + 1, by omega, by go_num, HT.out.step HX.out hm16 HI.out HM.out⟩
        case measure => simp [intOf]; omega
      · have hi' : in16 x = false := by simpa using hi
        have HI := hid hi'
        by_cases h0 : 0 ≤ x
        · have h1 : ¬ x < 16 := by intro h1; simp [in16, h0, h1] at hi
          clear hi hi'
          go_wp2
          go_roundw
          case rel => exact ⟨k + 1, by omega, by go_num, ⟨by rw [trs_no HX.out HI.out]; exact HT.out.row, HT.out.may, HT.out.bel, HT.out.hi⟩⟩
          case measure => simp [intOf]; omega
        · clear hi hi'
          go_wp2
          go_roundw
          case rel => exact ⟨k + 1, by omega, by go_num, ⟨by rw [trs_no HX.out HI.out]; exact HT.out.row, HT.out.may, HT.out.bel, HT.out.hi⟩⟩
          case measure => simp [intOf]; omega
    · have e : l.take k = l := take_all (by omega)
      have HR := hid (show wr.rangeAt w.heap.size 0 (tabL (trs l)) by have := HT.out.row; rwa [e] at this)
      have HJ := hid (show (Try.prog.info? 76).map (·.size) = some (tabL (trs l)).length by rw [tabL_len]; kernel_rfl)
      have HB := hid HT.out.bel
      go_upto_region 10 with (refine wpList_load_mid rfl 76 _ rfl w.heap.size 0 rfl (tabL (trs l)) (.array 16 4) HR.out Try.underlying76 rfl HJ.out ?_)
      clear HJ hlt HT
      obtain ⟨wo, rfl⟩ : ∃ wo : World, wo = wr := ⟨_, rfl⟩
      go_loopw [6, 34] (fun u i wr => ∃ n : Nat, n ≤ 16 ∧ i = .int .i64 n ∧ wr.ownsRow w.heap.size 3 1 u (trK l n).length (ints (trK l n)) ∧ Below w.heap.size w wr) (fun _ i _ => 16 - (intOf i).toNat)
      case atStart => exact ⟨0, by omega, rfl, World.ownsRow_nil _ _ _ _, HB.out⟩
      case round =>
        obtain ⟨n, hn, rfl, hown, hbel⟩ := hrel
        by_cases hn16 : n < 16
        · have hg := tabL_get (trs l) hn16
          have hlen := trK_len l n
          have hix : ∀ w', (Instr.index 76 (.agg (tabL (trs l)).toArray) (.int .i64 (n : Int))).run Try.prog w' = .ok (.bool ((trs l).contains (n : Int))) w' := fun w' => run_index_arr _ _ 16 _ _ n _ Try.underlying76 (fun _ => by kernel_rfl) (fun _ => by kernel_rfl) hn16 (by simpa using hg)
          clear hg
          cases hP : (trs l).contains (n : Int)
          · rw [hP] at hix
            have HN := hid (trK_no hP)
            clear hP
            go_wp2
            go_roundw
            case rel => exact ⟨n + 1, by omega, by go_num, by rw [HN.out]; exact hown, hbel⟩
            case measure => simp [intOf]; omega
          · rw [hP] at hix
            have HN := hid (trK_yes hP)
            clear hP
            go_wp2_with (at_builtin; refine wpList_push _ rfl _ _ 24 rfl w.heap.size 3 (.int .i64 0) 1 8 Try.underlying24 Try.info3 rfl (by decide) _ _ _ rfl hown #[.int .i64 (n : Int)] rfl (oneCell_int _ _) rfl (by unfold maxLen; omega) (by omega) hbel.size ?_; intro g gc w1 hown1 hg hb1)
            go_roundw
            case rel => exact ⟨n + 1, by omega, by go_num, by rw [HN.out, ints_snoc, List.length_append]; exact hown1, hbel.trans hb1⟩
            case measure => simp [intOf]; omega
        · go_wp2
          go_ret
          obtain rfl : n = 16 := by omega
          exact ⟨_, rfl, hown, hbel⟩
end Go.Proofs.Ytppflnkadjddiaa
