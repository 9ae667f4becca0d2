/-
  integer.Gcd at numbers of one digit.
  The numbers are less than 2^32.
-/
import Derived.Test.YtieahckbbohfgaaGreatDoorRatEuc
import Derived.Stop.RegionWithIn
namespace Go.Proofs.YtieahckbbohfgaaGreatDoor
open Go.RowKit Go.Deep Go.Shelf
attribute [local go_sem] Oper.semAt_some
set_option linter.unusedVariables false

theorem store2 {w : World} {b : Nat} {x y p q : Value} {T : TypeId} {fz : Nat × Nat} (h : w.heap[b]? = some (.cells #[p, q] T fz)) : ((w.setCell ⟨b, 0, none⟩ x).setCell ⟨b, 1, none⟩ y).heap[b]? = some (.cells #[x, y] T fz) := by
  simp [World.setCell, Array.getElem?_modify, h]
theorem euclid_any (a1 a2 : Option Addr) (n1 n2 c1 c2 : Nat) (w : World) :
    Calls Tryz.prog 164 #[.slice a1 n1 c1, .slice a2 n2 c2] w fun e w' => e = .returned (.func (.func 171) #[] #[.pointer (some ⟨w.heap.size, 0, none⟩), .pointer (some ⟨w.heap.size + 1, 0, none⟩)]) ∧
      w' = (w.alloc (.cells #[.slice a1 n1 c1] 162)).alloc (.cells #[.slice a2 n2 c2] 162) := by
  go_enter Tryz.func164, Tryz.ntmps164
  go_wp2
  go_ret
  exact ⟨rfl, rfl⟩
set_option maxRecDepth 100000 in
set_option maxHeartbeats 4000000 in
theorem gcdN_any (a b : Nat) (w : World) (ha : a < 4294967296) (hb : b < 4294967296) :
    Calls Tryz.prog 143 #[.agg #[.bool false, .string (nmg a)], .agg #[.bool false, .string (nmg b)]] w fun e w' => e = .returned (.agg #[.bool false, .string (nmg (Nat.gcd a b))]) ∧ Below w.heap.size w w' := by
  obtain ⟨m, hm1, hm2⟩ := eu_end b a
  have HDa := hid (fun X => digsN_any a X (by omega))
  have HDb := hid (fun X => digsN_any b X (by omega))
  have HM1 := hid hm1
  have HM2 := hid hm2
  have hgl : Nat.gcd a b < 4294967296 := by
    have := (eu_lt ha hb m).1
    rw [hm2] at this
    exact this
  have HNu := hid (fun v X h => numberN_any v (Nat.gcd a b) X h (by omega))
  clear hm1 hm2 hgl
  generalize nmg a = mA at *
  generalize nmg b = mB at *
  refine (callsIn_wide (n := 9)).1 ?_
  refine callsIn_of_wp_marks Tryz.func143 rfl trivial ?_ rfl
  simp only [Tryz.ntmps143, List.size_toArray, List.length_cons, List.length_nil, Nat.reduceAdd, Nat.reduceSub, Array.replicate_succ, Array.replicate_zero, List.push_toArray, List.append_toArray, List.nil_append, List.cons_append]
  gi_upto_region 1 with fail
  obtain ⟨w0, hw0⟩ : ∃ w0, ((w.alloc (.cells #[.bool false, .string mA] 56)).alloc (.cells #[.bool false, .string mB] 56)).alloc (.cells #[.bool false, .string ⟨#[]⟩] 56) = w0 := ⟨_, rfl⟩
  obtain ⟨hb0, ⟨c0, c1, c2, c3⟩, hz⟩ := boxed3 hw0
  have hs0 : w0.heap.size = w.heap.size + 3 := by rw [← hw0]; simp
  rw [hw0]
  have HB0 := hid hb0
  have HZ0 := hid (show zeroI w0 (w.heap.size + 2) from hz)
  clear hw0 hb0 hz
  gi_upto_region 2 with fail
  obtain ⟨w1, hw1⟩ : ∃ w1, w0.alloc (.cells #[.slice none 0 0] 162) = w1 := ⟨_, rfl⟩
  have hb1 : Below w0.heap.size w0 w1 := by rw [← hw1]; exact bel_alloc _ _
  have hL1 : Boxed w1 (w.heap.size + 3) 162 (.slice none 0 0) := by rw [← hw1, ← hs0]; exact Boxed.new w0 _ _
  rw [hw1]
  have c0 := keeps hb1 c0
  have c1 := keeps hb1 c1
  have c2 := keeps hb1 c2
  have c3 := keeps hb1 c3
  have HB1 := hid (bel_step HB0.out hb1)
  have HZ1 := hid (HZ0.out.below hb1)
  have HL1 := hid hL1
  clear hw1 hb1 hL1 hs0
  gi_region_with (first
    | (have _g := HN2.out; clear _g; refine ⟨trivial, ?_⟩; gi_at_call 164; obtain ⟨a1, n1, k1, rfl⟩ := nt_slice HN1.out; obtain ⟨a2, n2, k2, rfl⟩ := nt_slice HN2.out; refine (callsIn_wide.2 (euclid_any a1 a2 n1 n2 k1 k2 _)).mono ?_; rintro e w4 ⟨rfl, hw4⟩; have HW4 := hid hw4; clear hw4)
    | (have _g := HN1.out; clear _g; refine ⟨trivial, ?_⟩; gi_at_call 117; refine (callsIn_wide.2 (HDb.out _)).mono ?_; rintro e w3 ⟨⟨v2, rfl, hn2⟩, hb3⟩; have HN2 := hid hn2; have HN1 := hid (HN1.out.below hb3); have HB3 := hid (bel_step HB2.out hb3); have HZ3 := hid (HZ2.out.below hb3); have HL3 := hid (Boxed.belowB HL2.out hb3); have c0 := keeps hb3 c0; have c1 := keeps hb3 c1; have c2 := keeps hb3 c2; have c3 := keeps hb3 c3; clear hn2 hb3)
    | (refine ⟨trivial, ?_⟩; gi_at_call 117; refine (callsIn_wide.2 (HDa.out _)).mono ?_; rintro e w2 ⟨⟨v1, rfl, hn1⟩, hb2⟩; have HN1 := hid hn1; have hb2 := bel_step (Below.drew (Below.refl _ w1)) hb2; have HB2 := hid (bel_step HB1.out hb2); have HZ2 := hid (HZ1.out.below hb2); have HL2 := hid (Boxed.belowB HL1.out hb2); have c0 := keeps hb2 c0; have c1 := keeps hb2 c1; have c2 := keeps hb2 c2; have c3 := keeps hb2 c3; clear hn1 hb2))
  all_goals
    have hE4 : Eu w (w.heap.size + 2) (w.heap.size + 3) w3.heap.size (a, b) 0 w4 := by
      have hw4 := HW4.out.symm
      have hb4 : Below w3.heap.size w3 w4 := by rw [← hw4]; exact (bel_alloc _ _).alloc (by simp) _
      have hx4 : Boxed w4 w3.heap.size 162 (.slice a1 n1 k1) := by rw [← hw4]; exact (Boxed.new w3 _ _).alloc _
      have hy4 : Boxed w4 (w3.heap.size + 1) 162 (.slice a2 n2 k2) := by
        have := Boxed.new (w3.alloc (.cells #[.slice a1 n1 k1] 162)) 162 (.slice a2 n2 k2)
        rw [World.size_alloc, hw4] at this
        exact this
      exact ⟨bel_step HB3.out hb4, by rw [← hw4]; simp, HZ3.out.below hb4, ⟨_, hx4, HN1.out.below hb4⟩, ⟨_, hy4, HN2.out.below hb4⟩, ⟨_, Boxed.belowB HL3.out hb4, nt_zero _⟩⟩
    have hlt3 : w.heap.size + 3 < w3.heap.size := HL3.out.lt
    have HE4 := hid hE4
    have hsz4 := hid (show w4.heap.size = w3.heap.size + 2 by rw [HW4.out]; simp)
    clear hE4 HW4 HN1 HN2 c0 c1 c2 c3 HL1 HL2 HL3 HZ0 HZ1 HZ2 HZ3 HB0 HB1 HB2 HB3 HDa HDb
    generalize w3.heap.size = b3 at *
    gi_wp2
    have hsz5 := hsz4.out
    refine range_countedE rfl (by decide) (gf := 171) (lb := #[.pointer (some ⟨b3, 0, none⟩), .pointer (some ⟨b3 + 1, 0, none⟩)]) rfl trivial (enters_of Tryz.func171 (by kernel_rfl) rfl)
      (m + 1) (EuI w (w.heap.size + 2) (w.heap.size + 3) b3 a b) (EuM w (w.heap.size + 2) (w.heap.size + 3) b3 a b) (fun k enc W h => by obtain ⟨vx, vy, n, rfl, _⟩ := h; rfl)
      (fun W o h => ?_) (by exact HE4.out) (fun k W l o o' hl ho hc h => ?_) (fun k enc W l o o' hl ho hc h => ?_) ?seq
      (fun enc => { tmps := #[.agg #[.bool false, .string mA], .agg #[.bool false, .string mB], .pointer (some ⟨w.heap.size, 0, none⟩), .pointer (some ⟨w.heap.size + 1, 0, none⟩), .pointer (some ⟨w.heap.size + 1 + 1, 0, none⟩), .pointer (some ⟨w.heap.size + 3, 0, none⟩), enc.getD 0 undef,
        .agg #[.bool false, .string mA], .slice a1 n1 k1, .agg #[.bool false, .string mB], .slice a2 n2 k2, .func (.func 171) #[] #[.pointer (some ⟨b3, 0, none⟩), .pointer (some ⟨b3 + 1, 0, none⟩)], enc.getD 0 undef, enc.getD 1 undef, undef, undef, undef], defers := [] }) ?assign ?body ?done
    · exact Eu.below h (bel_alloc _ _)
    · exact Eu.putObj h (by omega) (by omega) (by omega) o' (by omega) ho hc
    · obtain ⟨vx, vy, n, rfl, h1, h2, h3⟩ := h
      have e : ∀ g, g < b3 + 2 → (W.putObj l o').heap[g]? = W.heap[g]? := fun g hg => World.putObj_heap_other (by omega)
      exact ⟨vx, vy, n, rfl, (e _ (by omega)).trans h1, (e _ (by omega)).trans h2, Eu.putObj h3 (by omega) (by omega) (by omega) o' (by omega) ho hc⟩
    case seq =>
      intro l D r W hD hl hY hI hR
      exact euc_run l D r w (w.heap.size + 2) (w.heap.size + 3) b3 a b m W (by omega) (by omega) (by omega) (by omega) (by omega) ha hb HM1.out (by rw [HM2.out]) hY hI hR
    case assign =>
      rintro l k enc W K ⟨vx, vy, n, rfl, h1, h2, h3⟩ hK
      gi_wp2
      exact hK
    case body =>
      rintro l k enc W hk ⟨vx, vy, n, rfl, h1, h2, h3⟩
      obtain ⟨vl, l1, _⟩ := h3.last
      have cl := l1.cell
      have fl := l1.frozen
      have h4 := h3.keep (vx := vx) (by omega) (by omega) (by omega) h1
      obtain ⟨vx', x1, x2⟩ := h3.x
      have e : vx' = vx := by
        have h5 := x1.cell
        rw [h1.cell] at h5
        exact (Option.some.inj h5).symm
      subst e
      obtain ⟨ax, lx, cx, rfl⟩ := nt_slice x2
      have H4 := hid h4
      clear h3 h4 x1 x2 h1 h2 l1
      have e0 : (#[.slice ax lx cx, vy] : Array Value).getD 0 undef = .slice ax lx cx := rfl
      have e1 : (#[.slice ax lx cx, vy] : Array Value).getD 1 undef = vy := rfl
      simp only [e0, e1]
      clear e0 e1
      gi_wp2
      exact ⟨KeepsOthers.setCell _ _ _, by unfold EuI; rw [if_neg (by omega), Nat.add_sub_cancel]; exact H4.out⟩
    case done =>
      intro D W hD hI hK
      have hE : Eu w (w.heap.size + 2) (w.heap.size + 3) b3 (eu a b m) (eu a b m).1 W := by
        have := hI
        unfold EuI at this
        rw [if_neg (by omega), Nat.add_sub_cancel] at this
        exact this
      rw [HM2.out] at hE
      obtain ⟨vl, l1, l2⟩ := hE.last
      have HNm := hid (HNu.out vl W l2)
      obtain ⟨al, ll, kl, rfl⟩ := nt_slice l2
      have cl := l1.cell
      have HZ := hid hE.res
      have HBl := hid hE.bel
      have HK := hid hK
      clear hI hE l1 l2 hK
      gi_wp2_with (refine ⟨trivial, ?_⟩; gi_at_call 114; refine (callsIn_wide.2 HNm.out).mono ?_; rintro e w5 ⟨rfl, hb5⟩; have HB5 := hid (bel_step HBl.out hb5); obtain ⟨⟨z0, z1⟩, f0, f1⟩ := (HZ.out.below hb5).c; have HZ5 := hid (HZ.out.below hb5); have HK5 := hid ((hb5.block _ (Array.getElem?_eq_some_iff.1 HK.out).1).trans HK.out); clear hb5)
      obtain ⟨w6, hw6⟩ : ∃ w6, (w5.setCell ⟨w.heap.size + 1 + 1, 0, none⟩ (.bool false)).setCell ⟨w.heap.size + 1 + 1, 1, none⟩ (.string (nmg (Nat.gcd a b))) = w6 := ⟨_, rfl⟩
      have hDne : D ≠ w.heap.size + 1 + 1 := by omega
      have hK6 : w6.heap[D]? = some (.deferred (some [])) := by
        rw [← hw6]
        exact (Below.heap_setCell _ _ _ D hDne).trans ((Below.heap_setCell _ _ _ D hDne).trans HK5.out)
      have hh : w6.heap[w.heap.size + 1 + 1]? = some (.cells #[.bool false, .string (nmg (Nat.gcd a b))] 56 (0, 0)) := by
        rw [← hw6]
        exact store2 HZ5.out
      rw [hw6]
      refine ⟨by simp, .inl ⟨_, _, rfl, run_takeDeferred hK6, ?_⟩⟩
      refine ⟨.agg #[.bool false, .string (nmg (Nat.gcd a b))], ?_, rfl, ?_⟩
      · have hh2 : (w6.putObj D (.deferred none)).heap[w.heap.size + 1 + 1]? = some (.cells #[.bool false, .string (nmg (Nat.gcd a b))] 56 (0, 0)) := (World.putObj_heap_other (by omega)).trans hh
        have r0 : (w6.putObj D (.deferred none)).cell? ⟨w.heap.size + 1 + 1, 0, none⟩ = some (.bool false) := by rw [Lib.cell_of_heap hh2]; rfl
        have r1 : (w6.putObj D (.deferred none)).cell? ⟨w.heap.size + 1 + 1, 1, none⟩ = some (.string (nmg (Nat.gcd a b))) := by rw [Lib.cell_of_heap hh2]; rfl
        simp [results, Tryz.results143, go_sem, r0, r1]
      · have hb6 : Below w.heap.size w w6 := by
          rw [← hw6]
          exact (HB5.out.setCell (by show w.heap.size ≤ w.heap.size + 1 + 1; omega) _).setCell (by show w.heap.size ≤ w.heap.size + 1 + 1; omega) _
        exact hb6.trans ⟨rfl, rfl, rfl, by simp, fun g hg => World.putObj_heap_other (by omega)⟩
end Go.Proofs.YtieahckbbohfgaaGreatDoor
