/-
  grooveref45.prefixes: the states, that is the proper beginnings of the words, in order.
  At a valid code.
-/
import Derived.Test.YtalklhjmnoodeaaRefSort
import Derived.Test.YtalklhjmnoodeaaPBuildL
import Derived.Test.YtalklhjmnoodeaaAid
namespace Go.Proofs.Ytalklhjmnoodeaa
open Go.RowKit
set_option linter.unusedVariables false

set_option maxRecDepth 100000 in
set_option maxHeartbeats 4000000 in
theorem rstates_any (q : Int) (v : Value) (ws : List ByteArray) (w : World) (hl : Sl 1 w v ws.length (strs ws)) (hv : Valid45 q ws) :
    Calls Try.prog 58 #[.agg #[.int .i64 q, v]] w fun e w' => ∃ u, e = .returned u ∧ Sl 1 w' u (sizeW ws) (strs (stW ws)) ∧ Below w.heap.size w w' := by
  have HL := hid hl
  obtain ⟨ao, cap, rfl, _, hl1, hl2, hl3⟩ := hl
  clear hl3
  have hwl : ∀ x ∈ ws, x.size ≤ 32 := fun x hx => (hv.words x hx).2.1
  have HWl := hid hwl
  have hn64 := hv.n64
  have HV := hid hv
  clear hwl hv
  go_enter Try.func58, Try.ntmps58
  go_upto_region 1 with fail
  obtain ⟨w0, hw0⟩ : ∃ w0, w.alloc (.cells #[.int .i64 q, .slice ao ws.length cap] 24) = w0 := ⟨_, rfl⟩
  obtain ⟨hb0, c0, c1⟩ := boxed hw0
  rw [hw0]
  clear hw0
  have HB0 := hid hb0
  have HC1 := hid c1
  clear hb0 c0
  have HL0 := hid (HL.out.below HB0.out)
  go_wp2_with fail
  clear c1
  go_loopw [3, 4] (fun u i wr => ∃ k : Nat, k ≤ ws.length ∧ i = .int .i64 k ∧ Below w0.heap.size w0 wr ∧ wr.ownsRow w0.heap.size 9 1 u (preL (ws.take k)).length (strs (preL (ws.take k)))) (fun _ i _ => ws.length - (intOf i).toNat)
  case atStart => exact ⟨0, Nat.zero_le _, rfl, Below.refl _ _, World.ownsRow_nil _ _ _ _⟩
  case round =>
    obtain ⟨k, hk, rfl, hb, ho⟩ := hrel
    rename World => wm
    have HB := hid hb
    have HO := hid ho
    obtain ⟨au, cu, rfl⟩ := own_slice ho
    have c1 := keeps hb HC1.out
    clear hb ho
    by_cases hlt : k < ws.length
    · obtain ⟨x, hx⟩ := some_of_lt hlt
      have hx32 := HWl.out x (List.mem_of_getElem? hx)
      have HX := hid hx
      have hlen : (preL (ws.take k)).length ≤ 2048 := by
        have h2 := preL_len (ws := ws.take k) (m := 32) (fun y hy => HWl.out y (List.mem_of_mem_take hy))
        rw [List.length_take] at h2
        omega
      clear hx
      go_wp2_with fail
      clear c1
      go_loopw [3, 5] (fun u i wr => ∃ m : Nat, m ≤ x.size ∧ i = .int .i64 m ∧ Below w0.heap.size w0 wr ∧ wr.ownsRow w0.heap.size 9 1 u (preL (ws.take k) ++ (preW x).take m).length (strs (preL (ws.take k) ++ (preW x).take m))) (fun _ i _ => x.size - (intOf i).toNat)
      case atStart => exact ⟨0, Nat.zero_le _, rfl, HB.out, by simpa using HO.out⟩
      case round =>
        obtain ⟨m, hm, rfl, hb, ho⟩ := hrel
        have HB2 := hid hb
        have c1 := keeps hb HC1.out
        obtain ⟨a2, c2, rfl⟩ := own_slice ho
        obtain ⟨bx, ox, rfl, cx⟩ := (HL0.out.below HB2.out).cell (strs_get HX.out)
        have hsz := hb.size
        have hlen2 : (preL (ws.take k) ++ (preW x).take m).length ≤ 3000 := by
          have h3 := preW_len x
          rw [List.length_append, List.length_take]
          omega
        clear hb HB HO
        by_cases hlt2 : m < x.size
        · have HSn := hid (preW_snoc hlt2)
          generalize hD : preL (ws.take k) ++ (preW x).take m = D at *
          have HD := hid hD
          clear hD
          go_wp2_with (at_builtin; refine wpList_push _ rfl _ _ 22 rfl w0.heap.size 9 (.string ⟨#[]⟩) 1 16 Try.underlying22 Try.infoString rfl (by decide) _ _ _ rfl ho #[.string (x.extract 0 m)] rfl (oneCell_string _) rfl (by unfold maxLen; omega) (by omega) hsz ?_; intro g gc w4 hown4 hg4 hb4)
          go_roundw
          case rel => exact ⟨m + 1, by omega, by go_num, HB2.out.trans hb4, by rw [HSn.out, ← List.append_assoc, HD.out, List.length_append, strs_snoc]; exact hown4⟩
          case measure => simp [intOf]; omega
        · have e : m = x.size := by omega
          subst e
          have HE := hid (show preL (ws.take (k + 1)) = preL (ws.take k) ++ (preW x).take x.size by rw [preL_snoc HX.out, take_all (l := preW x) (k := x.size) (by rw [preW_len]; exact Nat.le_refl _)])
          have HO2 := hid ho
          clear ho
          go_wp2
          go_roundw
          case rel => exact ⟨k + 1, by omega, by go_num, HB2.out, by rw [HE.out]; exact HO2.out⟩
          case measure => simp [intOf]; omega
    · have e : k = ws.length := by omega
      subst e
      rw [take_all (Nat.le_refl _)] at HO
      have hlen : (preL ws).length ≤ 100000 := by
        have h2 := preL_len (ws := ws) (m := 32) HWl.out
        omega
      have HS := hid (rsorted_any _ _ wm (Sl.of_owns HO.out) hlen)
      clear hlen
      rw [show (preL (List.take ws.length ws)).length = (preL ws).length by rw [take_all (Nat.le_refl _)]]
      go_wp2_with (go_at_call 81; refine HS.out.mono ?_; rintro e w2 ⟨u, rfl, hs2, hb2⟩)
      go_ret
      exact ⟨_, rfl, hs2, bel_step HB0.out (bel_step HB.out hb2)⟩
end Go.Proofs.Ytalklhjmnoodeaa
