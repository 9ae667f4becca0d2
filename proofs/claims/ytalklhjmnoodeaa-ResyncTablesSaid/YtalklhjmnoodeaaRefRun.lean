/-
  grooveref45.run: the state behind a word, and the words that end in it.
  The machine's rows lie in memory; each state can read each letter.
-/
import Derived.Test.YtalklhjmnoodeaaRefOfA
import Derived.Test.YtalklhjmnoodeaaMachRun
namespace Go.Proofs.Ytalklhjmnoodeaa
open Go.RowKit
set_option linter.unusedVariables false

set_option maxRecDepth 100000 in
set_option maxHeartbeats 2000000 in
theorem rrun_any (vN vE : Value) (n q : Nat) (nx : Nat → Nat → Nat) (em : Nat → Nat → Int) (s : Nat) (x : ByteArray) (w : World)
    (hN : Mt w vN n q (fun i j => (nx i j : Int))) (hEm : Mt w vE n q em) (hc : ∀ s a, nx s a < n) (hs : s < n) (hn : n ≤ 1000) (hx : okWord q x = true) (hz : x.size ≤ 100000) :
    Calls Try.prog 44 #[.agg #[vN, vE], .int .i64 (s : Int), .string x] w fun e w' => ∃ u, e = .returned (.tuple #[.int .i64 (runN nx s x.data.toList : Nat), u]) ∧ w'.ownsRow w.heap.size 3 1 u (emsN nx em s x.data.toList).length (ints (emsN nx em s x.data.toList)) ∧ Below w.heap.size w w' := by
  obtain ⟨aN, cN, rfl, hcN, hcN2⟩ := hN.slice
  obtain ⟨aE, cE, rfl, hcE, hcE2⟩ := hEm.slice
  have HN0 := hid hN
  have HE0 := hid hEm
  clear hN hEm
  go_enter Try.func44, Try.ntmps44
  go_upto_region 1 with fail
  obtain ⟨w0, hw0⟩ : ∃ w0, w.alloc (.cells #[.slice aN n cN, .slice aE n cE] 69) = w0 := ⟨_, rfl⟩
  have hb0 : Below w.heap.size w w0 := by rw [← hw0]; exact bel_alloc _ _
  have c2 : w0.cell? ⟨w.heap.size, 0, none⟩ = some (.slice aN n cN) := by rw [← hw0]; simp
  have c3 : w0.cell? ⟨w.heap.size, 1, none⟩ = some (.slice aE n cE) := by rw [← hw0]; simp
  rw [hw0]
  have HB0 := hid hb0
  have HC0 := hid (And.intro c2 c3)
  have HN1 := hid (HN0.out.below hb0)
  have HE1 := hid (HE0.out.below hb0)
  clear hw0 hb0 c2 c3 HN0 HE0
  have HW := hid hx
  clear hx
  go_upto_region 3 with fail
  go_loopw [1, 8, 9] (fun s' u i wr => ∃ k : Nat, k ≤ x.size ∧ i = .int .i64 k ∧ s' = .int .i64 (runN nx s (x.data.toList.take k) : Nat) ∧ wr.ownsRow w0.heap.size 3 1 u (emsN nx em s (x.data.toList.take k)).length (ints (emsN nx em s (x.data.toList.take k))) ∧ Below w0.heap.size w0 wr) (fun _ _ i _ => x.size - (intOf i).toNat)
  case atStart => exact ⟨0, Nat.zero_le _, rfl, rfl, World.ownsRow_nil _ _ _ _, Below.refl _ _⟩
  case round =>
    obtain ⟨k, hk, rfl, rfl, hown, hb⟩ := hrel
    by_cases hlt : k < x.size
    · obtain ⟨c, hcx⟩ := some_of_lt (l := x.data.toList) (k := k) (by rw [ba_len]; exact hlt)
      have hbyte := byte_of x k hlt
      rw [show x.data.toList.getD k 0 = c by rw [List.getD_eq_getElem?_getD, hcx]; rfl] at hbyte
      have c2 := keeps hb HC0.out.1
      have c3 := keeps hb HC0.out.2
      have hr := runN_lt (nx := nx) (l := x.data.toList.take k) hc hs
      obtain ⟨hd1, hd2, hd3⟩ := dig_lt HW.out hcx
      have hlen := emsN_len nx em s (x.data.toList.take k)
      rw [List.length_take] at hlen
      have HT := hid (take_snoc hcx)
      have HR := hid (runN_snoc nx s (x.data.toList.take k) c)
      have HE := hid (emsN_snoc nx em s (x.data.toList.take k) c)
      have HI := hid (fun W => rdigit_any c W)
      rw [hd2] at HI
      have hdq : dig c < q := by omega
      obtain ⟨bn, on, bn', on', cn', hn1, hn2, hn3⟩ := HN1.out.cell hr hdq
      obtain ⟨be, oe, be', oe', ce', he1, he2, he3⟩ := HE1.out.cell hr hdq
      subst hn1 he1
      have HN := hid (And.intro hn2 hn3)
      have HEc := hid (And.intro he2 he3)
      have hn2 := keeps hb hn2
      have hn3 := keeps hb hn3
      have he2 := keeps hb he2
      have he3 := keeps hb he3
      have HBs := hid hb
      have hsz := hb.size
      have hc' := hc (runN nx s (x.data.toList.take k)) (dig c)
      generalize hS : runN nx s (x.data.toList.take k) = S at *
      generalize hD : dig c = D at *
      generalize hNX : nx S D = NX at *
      generalize hEM : em S D = EM at *
      clear hcx hd2 hD hNX hEM hb
      by_cases hem : 0 ≤ EM
      · have hRel := hid (HE.out.trans (if_pos hem))
        go_wp2_with (first
          | (go_at_call 60; refine (HI.out _).mono ?_; rintro e w' ⟨rfl, rfl⟩)
          | (at_builtin; refine wpList_push _ rfl _ _ 41 rfl w0.heap.size 3 (.int .i64 0) 1 8 Try.underlying41 Try.infoInt rfl (by decide) _ _ _ rfl hown #[.int .i64 EM] rfl (oneCell_int _ _) rfl (by unfold maxLen; omega) (by omega) hsz ?_; intro g gc w2 hown2 hg2 hb2; have hbB := HBs.out.trans hb2; have c2 := keeps hbB HC0.out.1; have hn2 := keeps hbB HN.out.1; have hn3 := keeps hbB HN.out.2))
        go_roundw
        case rel => exact ⟨k + 1, by omega, by go_num, by rw [HT.out, HR.out], by rw [HT.out, hRel.out, List.length_append, ints_snoc]; exact hown2, hbB⟩
        case measure => simp [intOf]; omega
      · have hRel := hid (HE.out.trans (if_neg hem))
        go_wp2_with (go_at_call 60; refine (HI.out _).mono ?_; rintro e w' ⟨rfl, rfl⟩)
        go_roundw
        case rel => exact ⟨k + 1, by omega, by go_num, by rw [HT.out, HR.out], by rw [HT.out, hRel.out]; exact hown, HBs.out⟩
        case measure => simp [intOf]; omega
    · have e : x.data.toList.take k = x.data.toList := take_all (by rw [ba_len]; omega)
      rw [e] at hown ⊢
      go_wp2
      go_ret2
      exact ⟨_, rfl, own_base hown HB0.out.size, bel_step HB0.out hb⟩
end Go.Proofs.Ytalklhjmnoodeaa
