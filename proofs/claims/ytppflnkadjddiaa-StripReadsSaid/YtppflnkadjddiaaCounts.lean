/-
  The walk of StripCounts: it returns true, and writes nothing that was there.
  No condition beyond what the arguments' types say.
-/
import Derived.Test.YtppflnkadjddiaaCntLaw
import Derived.Test.YtppflnkadjddiaaNeigh
import Derived.Test.YtppflnkadjddiaaIntegers
import Derived.Deep.RegionHeld3
import Derived.Test.YtppflnkadjddiaaLibTwo
namespace Go.Proofs.Ytppflnkadjddiaa
open Go.RowKit
set_option linter.unusedVariables false

/-- A number that is not negative, in a variable. -/
structure Num (X : World) (g n : Nat) : Prop where
  a0 : X.cell? ⟨g, 0, none⟩ = some (.bool false)
  a1 : X.cell? ⟨g, 1, none⟩ = some (.string (nmg n))
theorem Num.keep {X Y : World} {g n : Nat} (h : Num X g n) (hb : Below X.heap.size X Y) : Num Y g n := ⟨keeps hb h.a0, keeps hb h.a1⟩
theorem num_new (w : World) (n : Nat) : Num (w.alloc (.cells #[.bool false, .string (nmg n)] 41)) w.heap.size n := ⟨by simp [go_sem], by simp [go_sem]⟩

def rects (h : Int) (b : List Int) (n x : Nat) : Bool := adj (okP h b) (colz (side h).toNat n x)
theorem countR (h n : Int) (v : Value) (b : List Int) (w : World) (hl : Sl 1 w v b.length (ints b)) (hc : chk h b = 0) (h0 : 0 ≤ n) (h1 : n ≤ 4096) :
    Calls Try.prog 22 #[.int .i64 h, .int .i64 n, v] w fun e w' => e = .returned (.tuple #[.agg #[.bool false, .string (nmg (cntTo (rects h b n.toNat) ((side h).toNat ^ n.toNat)))], .int .i64 0]) ∧ Below w.heap.size w w' := by
  have := count_any h n v b w hl
  unfold CountPost at this
  rwa [cntE_ok hc h0 h1, cntN_eq (cntE_ok hc h0 h1)] at this
theorem ofN_any (n : Nat) (w : World) (h : (n : Int) ≤ 9223372036854775807) :
    Calls Try.prog 25 #[.int .i64 n] w fun e w' => e = .returned (.agg #[.bool false, .string (nmg n)]) ∧ Below w.heap.size w w' := by
  have := of_any (n : Int) w (by omega) h
  rwa [isg_nat, img_nat] at this
theorem compareN2_any (a b : Nat) (w : World) (ha : Fits (a : Int)) (hb : Fits (b : Int)) :
    Calls Try.prog 26 #[.agg #[.bool false, .string (nmg a)], .agg #[.bool false, .string (nmg b)]] w fun e w' => e = .returned (.int .i64 (cmpI a b)) ∧ Below w.heap.size w w' := by
  have := compareI_any (a : Int) (b : Int) w ha hb
  rwa [isg_nat, img_nat, isg_nat, img_nat] at this
theorem cmpI_le {a b : Nat} (h : a ≤ b) : cmpI (a : Int) b ≤ 0 := by unfold cmpI; split <;> (try split) <;> omega

/-- What stands while StripCounts runs. -/
structure SC (w : World) (vb : Value) (b : List Int) (g1 g2 g3 n1 n2 n3 : Nat) (X : World) : Prop where
  bel : Below w.heap.size w X
  sl : Sl 1 X vb b.length (ints b)
  m1 : Num X g1 n1
  m2 : Num X g2 n2
  m3 : Num X g3 n3
theorem SC.step {w X Z Y : World} {vb : Value} {b : List Int} {g1 g2 g3 n1 n2 n3 : Nat} (h : SC w vb b g1 g2 g3 n1 n2 n3 X) (hb : Below Z.heap.size Z Y) (h1 : Z.os = X.os ∧ Z.tape = X.tape ∧ Z.output = X.output) (h2 : Z.heap = X.heap ∨ ∃ o, Z.heap = X.heap.push o) : SC w vb b g1 g2 g3 n1 n2 n3 Y := by
  have hB := below_via hb h1 h2
  exact ⟨bel_step h.bel hB, h.sl.below hB, h.m1.keep hB, h.m2.keep hB, h.m3.keep hB⟩
theorem SC.keep {w X Y : World} {vb : Value} {b : List Int} {g1 g2 g3 n1 n2 n3 : Nat} (h : SC w vb b g1 g2 g3 n1 n2 n3 X) (hB : Below X.heap.size X Y) : SC w vb b g1 g2 g3 n1 n2 n3 Y :=
  ⟨bel_step h.bel hB, h.sl.below hB, h.m1.keep hB, h.m2.keep hB, h.m3.keep hB⟩
def SCc (g1 g2 g3 n1 n2 n3 : Nat) (X : World) : Prop :=
  X.cell? ⟨g1, 0, none⟩ = some (.bool false) ∧ X.cell? ⟨g1, 1, none⟩ = some (.string (nmg n1)) ∧ X.cell? ⟨g2, 0, none⟩ = some (.bool false) ∧ X.cell? ⟨g2, 1, none⟩ = some (.string (nmg n2)) ∧ X.cell? ⟨g3, 0, none⟩ = some (.bool false) ∧ X.cell? ⟨g3, 1, none⟩ = some (.string (nmg n3))
theorem SC.cells {w X Z : World} {vb : Value} {b : List Int} {g1 g2 g3 n1 n2 n3 : Nat} (h : SC w vb b g1 g2 g3 n1 n2 n3 X) (hB : Below X.heap.size X Z) : SCc g1 g2 g3 n1 n2 n3 Z :=
  ⟨keeps hB h.m1.a0, keeps hB h.m1.a1, keeps hB h.m2.a0, keeps hB h.m2.a1, keeps hB h.m3.a0, keeps hB h.m3.a1⟩

theorem colz_snoc (N k x : Nat) : colz N (k + 1) x = colz N k x ++ [((x / N ^ k % N : Nat) : Int)] := colz_succ N k x
theorem wrap_i64' (n : Int) : IntKind.i64.wrap n = wrap64 n := by rw [IntKind.wrap_i64]; unfold wrap64; rfl
theorem mul_small {H j : Nat} (h1 : H ≤ 4) (h2 : j ≤ 8) : ∃ r : Nat, IntKind.i64.wrap ((H : Int) * (j : Int)) = (r : Int) ∧ r = H * j ∧ r ≤ 32 := by
  have h3 : H * j ≤ 4 * 8 := Nat.mul_le_mul h1 h2
  refine ⟨H * j, ?_, rfl, h3⟩
  have e : ((H : Int) * (j : Int)) = ((H * j : Nat) : Int) := by simp
  rw [e, wrap_i64']
  exact IntWalk.wrap64_in _ ⟨by omega, by omega⟩
theorem colz_at {H N x j r : Nat} (hN : N = 2 ^ H) (hr : r = H * j) : ((x : Int) / 2 ^ r).tmod (N : Int) = ((x / N ^ j % N : Nat) : Int) := by
  have e1 : ((x : Int) / 2 ^ r) = ((x / N ^ j : Nat) : Int) := by
    rw [hN, hr, ← Nat.pow_mul, Int.natCast_ediv, Int.natCast_pow]; rfl
  rw [e1, Int.natCast_emod, Int.tmod_eq_emod_of_nonneg (Int.natCast_nonneg _)]
theorem fits_small {n : Nat} (h : n ≤ 1000000) : Fits (n : Int) := fits_pow (m := 5) (by omega) (by omega)

set_option maxRecDepth 100000 in
set_option maxHeartbeats 8000000 in
theorem stripCounts_any (a c s t : Int) (w : World) (a0 : 0 ≤ a) (a1 : a ≤ 255) (c0 : 0 ≤ c) (c1 : c ≤ 255) (s0 : 0 ≤ s) (s1 : s ≤ 65535) (t0 : 0 ≤ t) (t1 : t ≤ 65535) :
    Calls Try.prog 6 #[.int .u8 a, .int .u8 c, .int .u16 s, .int .u16 t] w fun e w' => e = .returned (.bool true) ∧ Below w.heap.size w w' := by
  obtain ⟨H, hh⟩ : ∃ H : Nat, a % 4 + 1 = (H : Int) := ⟨(a % 4 + 1).toNat, by omega⟩
  obtain ⟨m, hm⟩ : ∃ m : Nat, c % 9 = (m : Int) := ⟨(c % 9).toNat, by omega⟩
  have H1 : 1 ≤ H := by omega
  have H4 : H ≤ 4 := by omega
  have m8 : m ≤ 8 := by omega
  obtain ⟨q, hq⟩ : ∃ q : Nat, q = H * m := ⟨_, rfl⟩
  have hq32 : q ≤ 32 := by rw [hq]; exact Nat.mul_le_mul H4 m8
  have hqw : wrap64 ((H : Int) * (m : Int)) = (q : Int) := by
    rw [hq]
    have e : ((H : Int) * (m : Int)) = ((H * m : Nat) : Int) := by simp
    rw [e, ← hq]
    exact IntWalk.wrap64_in _ ⟨by omega, by omega⟩
  have HQ := hid hq
  clear hq
  by_cases h8 : q ≤ 8
  · obtain ⟨M, hM⟩ : ∃ M : Nat, M = 2 ^ q := ⟨_, rfl⟩
    have hM256 : M ≤ 256 := by rw [hM]; exact Nat.pow_le_pow_right (n := 2) (by decide) h8
    have hMw : wrap64 (2 ^ q) = (M : Int) := by
      rw [hM, IntWalk.wrap64_in _ ⟨?_, ?_⟩]
      · simp
      · exact Int.le_trans (by decide) (Int.le_of_lt (Int.pow_pos (by decide)))
      · have : ((2 : Int) ^ q) = ((2 ^ q : Nat) : Int) := by simp
        rw [this, ← hM]; omega
    have HM := hid hM
    clear hM
    obtain ⟨N, hN⟩ : ∃ N : Nat, N = (side (H : Int)).toNat := ⟨_, rfl⟩
    obtain ⟨hsw, hs2, hs16⟩ := side_wrap (H : Int) (by omega) (by omega)
    have hNi : side (H : Int) = (N : Int) := by omega
    rw [hNi] at hsw hs2 hs16
    simp only [Int.toNat_natCast] at hsw
    have HN := hid hN
    have HNi := hid hNi
    have hNp : N = 2 ^ H := by
      have h1 := HNi.out
      simp only [side, Int.toNat_natCast] at h1
      exact Int.ofNat_inj.1 (by rw [Int.natCast_pow]; exact h1.symm)
    have HNp := hid hNp
    clear hNp
    have HPow := hid (show N ^ m = M by rw [HNp.out, HM.out, HQ.out, ← Nat.pow_mul])
    clear hN hNi
    have HK := hid (chk_blkOf (H : Int) s (by omega) (by omega))
    have HKf := hid (chk_blkOf (H : Int) 65535 (by omega) (by omega))
    obtain ⟨st, hst⟩ : ∃ st, bits .or .u16 s t = st := ⟨_, rfl⟩
    have HKo := hid (chk_blkOf (H : Int) st (by omega) (by omega))
    have hst0 : 0 ≤ st ∧ st ≤ 65535 := by rw [← hst]; exact bits_within .or .u16 s t
    obtain ⟨st0, st1⟩ := hst0
    have HST := hid hst
    have HAlen := hid (show rects (H : Int) (blkOf (H : Int) s) m = rects (H : Int) (blkOf (H : Int) s) (m : Int).toNat by simp)
    obtain ⟨A, hA⟩ : ∃ A, A = cntTo (rects (H : Int) (blkOf (H : Int) s) m) M := ⟨_, rfl⟩
    obtain ⟨B, hB⟩ : ∃ B, B = cntTo (rects (H : Int) (blkOf (H : Int) st) m) M := ⟨_, rfl⟩
    have hAM : A ≤ M := by rw [hA]; exact cntTo_le _ _
    have hBM : B ≤ M := by rw [hB]; exact cntTo_le _ _
    have hAB : A ≤ B := by
      rw [hA, hB]
      apply cntTo_mono
      intro i _ hp
      refine adjGo_mono (okP_mono (blkOf_mono ?_)) _ _ hp
      intro n hn
      have e1 : st = ((s.toNat ||| t.toNat : Nat) : Int) := by rw [← HST.out]; exact u16_or s t s0 (by omega) t0 (by omega)
      rw [e1]
      obtain ⟨s', rfl⟩ : ∃ s' : Nat, s = (s' : Int) := ⟨s.toNat, by omega⟩
      exact or_bits _ _ _ hn
    have hF : cntTo (rects (H : Int) (blkOf (H : Int) 65535) m) M = M := cntTo_true (fun i _ => adj_full (by omega) (by omega) _ _)
    have R1 : ∀ (v : Value) (w : World), Sl 1 w v (blkOf (H : Int) s).length (ints (blkOf (H : Int) s)) → Calls Try.prog 22 #[.int .i64 (H : Int), .int .i64 (m : Int), v] w fun e w' => e = .returned (.tuple #[.agg #[.bool false, .string (nmg A)], .int .i64 0]) ∧ Below w.heap.size w w' := by
      intro v w hl
      have := countR (H : Int) (m : Int) v _ w hl HK.out (by omega) (by omega)
      rwa [← HN.out, Int.toNat_natCast, HPow.out, ← hA] at this
    have R2 : ∀ (v : Value) (w : World), Sl 1 w v (blkOf (H : Int) st).length (ints (blkOf (H : Int) st)) → Calls Try.prog 22 #[.int .i64 (H : Int), .int .i64 (m : Int), v] w fun e w' => e = .returned (.tuple #[.agg #[.bool false, .string (nmg B)], .int .i64 0]) ∧ Below w.heap.size w w' := by
      intro v w hl
      have := countR (H : Int) (m : Int) v _ w hl HKo.out (by omega) (by omega)
      rwa [← HN.out, Int.toNat_natCast, HPow.out, ← hB] at this
    have R3 : ∀ (v : Value) (w : World), Sl 1 w v (blkOf (H : Int) 65535).length (ints (blkOf (H : Int) 65535)) → Calls Try.prog 22 #[.int .i64 (H : Int), .int .i64 (m : Int), v] w fun e w' => e = .returned (.tuple #[.agg #[.bool false, .string (nmg M)], .int .i64 0]) ∧ Below w.heap.size w w' := by
      intro v w hl
      have := countR (H : Int) (m : Int) v _ w hl HKf.out (by omega) (by omega)
      rwa [← HN.out, Int.toNat_natCast, HPow.out, hF] at this
    have HR1 := hid R1
    have HR2 := hid R2
    have HR3 := hid R3
    have HBnd := hid (show 0 ≤ bits .or .u16 s t ∧ bits .or .u16 s t ≤ 65535 from bits_within .or .u16 s t)
    clear R1 R2 R3 HAlen
    have HA := hid hA
    have hcmp : decide (cmpI (A : Int) B ≤ 0) = true := by simpa using cmpI_le hAB
    clear hA hB hF hst
    have hbw := Below.refl w.heap.size w
    go_enter Try.func6, Try.ntmps6
    go_upto_region 6 with (first
      | (go_at_call 24; refine (lawBlocks_any _ _ _ ?_ ?_).mono ?_; (omega); (omega); rintro e w1 ⟨vb, rfl, hob, hb1⟩; have hSb := Sl.of_owns hob; clear hob)
      | (go_at_call 22; refine (HR1.out _ _ hSb).mono ?_; rintro e w2 ⟨rfl, hb2⟩))
    have hSb := hSb.below hb2
    have hbel := bel_step hb1 hb2
    have hn1 := num_new w2 A
    have hB2 : Below w2.heap.size w2 (w2.alloc (.cells #[.bool false, .string (nmg A)] 41)) := (Below.refl _ _).alloc (Nat.le_refl _) _
    have hSb := hSb.below hB2
    have hbel := bel_step hbel hB2
    clear hb1 hb2 hB2 hbw
    generalize w2.alloc (.cells #[.bool false, .string (nmg A)] 41) = w3 at *
    generalize w2.heap.size = g1 at *
    go_upto_region 7 with (first
      | (go_at_call 24; refine (lawBlocks_any _ (bits .or .u16 s t) _ HBnd.out.1 HBnd.out.2).mono ?_; rintro e w4 ⟨vc, rfl, hob, hb1⟩; have hSc := Sl.of_owns hob; rw [HST.out] at hSc; clear hob)
      | (go_at_call 22; refine (HR2.out _ _ hSc).mono ?_; rintro e w5 ⟨rfl, hb2⟩))
    have hB2 : Below w5.heap.size w5 (w5.alloc (.cells #[.bool false, .string (nmg B)] 41)) := (Below.refl _ _).alloc (Nat.le_refl _) _
    have hBB := bel_step (bel_step hb1 hb2) hB2
    have hn2 := num_new w5 B
    have hn1 := hn1.keep hBB
    have hSb := hSb.below hBB
    have hbel := bel_step hbel hBB
    clear hb1 hb2 hB2 hBB hSc
    generalize w5.alloc (.cells #[.bool false, .string (nmg B)] 41) = w6 at *
    generalize w5.heap.size = g2 at *
    go_upto_region 8 with (first
      | (go_at_call 24; refine (lawBlocks_any _ 65535 _ (by decide) (by decide)).mono ?_; rintro e w7 ⟨vc, rfl, hob, hb1⟩; have hSc := Sl.of_owns hob; clear hob)
      | (go_at_call 22; refine (HR3.out _ _ hSc).mono ?_; rintro e w8 ⟨rfl, hb2⟩))
    have hB2 : Below w8.heap.size w8 (w8.alloc (.cells #[.bool false, .string (nmg M)] 41)) := (Below.refl _ _).alloc (Nat.le_refl _) _
    have hBB := bel_step (bel_step hb1 hb2) hB2
    have hn3 := num_new w8 M
    have hn1 := hn1.keep hBB
    have hn2 := hn2.keep hBB
    have hSb := hSb.below hBB
    have hbel := bel_step hbel hBB
    clear hb1 hb2 hB2 hBB hSc
    generalize w8.alloc (.cells #[.bool false, .string (nmg M)] 41) = w9 at *
    generalize w8.heap.size = g3 at *
    have hF : SC w vb (blkOf (H : Int) s) g1 g2 g3 A B M w9 := ⟨hbel, hSb, hn1, hn2, hn3⟩
    have HF := hid hF
    clear hF hbel hSb hn1 hn2 hn3
    go_upto_region 10 with fail
    generalize blkOf (H : Int) s = b at *
    clear HR1 HR2 HR3 HKf HKo HBnd HST st0 st1
    rw [hqw, hMw]
    have HQw := hid hqw
    have HMw := hid hMw
    have HSw := hid hsw
    have HSw2 := hid (show IntKind.i64.wrap (2 ^ H) = (N : Int) by rw [wrap_i64']; exact hsw)
    clear hqw hMw hsw
    have hM1 : (M : Int) ≤ 9223372036854775807 := by omega
    go_loopg [18, 71] M (fun gk u i wr => ∃ x : Nat, gk + x = M ∧ i = .int .i64 x ∧ u = .int .i64 (cntTo (rects (H : Int) b m) x) ∧ SC w vb b g1 g2 g3 A B M wr)
    case atStart => exact ⟨0, by omega, rfl, rfl, HF.out⟩
    case round =>
      obtain ⟨x, hx, rfl, rfl, hF⟩ := hrel
      have HF2 := hid hF
      have hcx := cntTo_le (rects (H : Int) b m) x
      clear hF HF
      by_cases hxM : x < M
      · obtain ⟨wo, rfl⟩ : ∃ wo : World, wo = wr := ⟨_, rfl⟩
        have hx256 : x < 256 := by omega
        have hgk : gk = M - x := by omega
        clear hx
        go_upto_region 14 with fail
        go_loopg [20, 75] m (fun gj u i wr => ∃ j : Nat, gj + j = m ∧ i = .int .i64 j ∧ wr.ownsRow wo.heap.size 3 1 u j (ints (colz N j x)) ∧ Below wo.heap.size wo wr)
        case atStart => exact ⟨0, by omega, rfl, World.ownsRow_nil _ _ _ _, Below.refl _ _⟩
        case round =>
          obtain ⟨j, hj, rfl, hown, hbel⟩ := hrel
          by_cases hjm : j < m
          · have hlen : (colz N j x).length = j := colz_len _ _ _
            obtain ⟨r, hrw, hrj, hr32⟩ := mul_small (j := j) H4 (by omega)
            have HRj := hid hrj
            clear hrj
            obtain ⟨y, hy⟩ : ∃ y : Int, ((x : Int) / 2 ^ r).tmod (N : Int) = y := ⟨_, rfl⟩
            go_upto_region 16 with fail
            have hsw2 : IntKind.i64.wrap (2 ^ H) = (N : Int) := HSw2.out
            have hN0 : ¬ N = 0 := by omega
            go_region_law ((refine step_push (by rfl) _ _ 24 (by rfl) wo.heap.size 3 (.int .i64 0) 1 8 Try.underlying24 Try.info3 rfl (by decide) u20 j (ints (colz N j x)) (by rfl) (own_below hown (below_now ⟨rfl, rfl, rfl⟩ (.inr ⟨_, rfl⟩))) wr.heap.size #[.int .i64 y] rfl (oneCell_int _ _) (by rfl) (heap_alloc_new _ _) (by unfold maxLen; omega) (by omega) (by have := hbel.size; simp; omega) ?_; intro g gc w1 hown1 hg1 hb1))
            have HY := hid (show y = ((x / N ^ j % N : Nat) : Int) by rw [← hy]; exact colz_at HNp.out HRj.out)
            have hbA : Below wo.heap.size wr w1 := Below.trans ((below_now ⟨rfl, rfl, rfl⟩ (.inr ⟨_, rfl⟩) : Below wr.heap.size wr (wr.alloc (.cells #[.int .i64 y] 3)).drew).mono hbel.size) hb1
            clear hy hrw hsw2 hN0 hg1 hb1
            go_wp2
            go_roundg (m - (j + 1))
            case rel => exact ⟨j + 1, by omega, by go_num, by rw [colz_snoc, ints_snoc, ← HY.out]; exact hown1, hbel.trans hbA⟩
            case measure => omega
          · obtain rfl : j = m := by omega
            have hlen : (colz N j x).length = j := colz_len _ _ _
            have hS1 : Sl 1 wr u20 (colz N j x).length (ints (colz N j x)) := by rw [hlen]; exact Sl.of_owns hown
            have hF := HF2.out.keep hbel
            have HC := hid (show (colz N j x).all (okCol (H : Int)) = true by rw [HN.out]; exact colz_okCol _ _)
            have HR := hid (show rects (H : Int) b j x = adj (okP (H : Int) b) (colz N j x) by rw [rects, ← HN.out])
            have HS1 := hid hS1
            have HF3 := hid hF
            have HLen := hid hlen
            have hcl : (colz N j x).length ≤ 65536 := by omega
            clear hlen hown hS1 hF hj hjm HF2 hbel
            generalize colz N j x = C at *
            go_upto_region 19 with (go_at_call 12; refine (rowsR (H : Int) C _ _ (by omega) (by omega) hcl HC.out HS1.out).mono ?_; rintro e w3 ⟨v3, rfl, hS3, hb3⟩)
            have HF4 := hid (HF3.out.keep hb3)
            clear hb3
            go_upto_region 20 with (go_at_call 20; refine (validR (H : Int) C b _ _ _ (by omega) (by omega) hcl HC.out HK.out HF4.out.sl hS3).mono ?_; rintro e w4 ⟨rfl, hb4⟩)
            have HF5 := hid (HF4.out.keep hb4)
            clear hb4 hS3 HF4 HF3
            cases hP : adj (okP (H : Int) b) C
            · have HP := hid (show cntTo (rects (H : Int) b j) (x + 1) = cntTo (rects (H : Int) b j) x by rw [cntTo, HR.out, hP]; rfl)
              clear hP
              go_wp2
              go_roundg (M - (x + 1))
              case rel => exact ⟨x + 1, by omega, by go_num, by rw [HP.out], HF5.out⟩
              case measure => omega
            · have HP := hid (show cntTo (rects (H : Int) b j) (x + 1) = cntTo (rects (H : Int) b j) x + 1 by rw [cntTo, HR.out, hP]; rfl)
              clear hP
              go_wp2
              go_roundg (M - (x + 1))
              case rel => exact ⟨x + 1, by omega, by go_num, by rw [HP.out]; go_num, HF5.out⟩
              case measure => omega
      · obtain rfl : x = M := by omega
        have HX := hid (show cntTo (rects (H : Int) b m) x = A from HA.out.symm)
        rw [HX.out]
        clear hx hxM hcx HX HA
        go_upto_region 25 with fail
        have hF := HF2.out
        clear HF2
        have FA := hid (fits_small (n := A) (by omega))
        have FB := hid (fits_small (n := B) (by omega))
        have hqw : IntKind.i64.wrap ((H : Int) * (m : Int)) = (q : Int) := by rw [wrap_i64']; exact HQw.out
        have hMw : IntKind.i64.wrap (2 ^ q) = (x : Int) := by rw [wrap_i64']; exact HMw.out
        go_region_held3 (fun w' => w'.cell? ⟨g1, 0, none⟩ = some (.bool false) ∧ w'.cell? ⟨g1, 1, none⟩ = some (.string (nmg A)) ∧ w'.cell? ⟨g2, 0, none⟩ = some (.bool false) ∧ w'.cell? ⟨g2, 1, none⟩ = some (.string (nmg B)) ∧ w'.cell? ⟨g3, 0, none⟩ = some (.bool false) ∧ w'.cell? ⟨g3, 1, none⟩ = some (.string (nmg x)))
          (first | exact hF.cells (below_now ⟨rfl, rfl, rfl⟩ (.inl rfl)) | go_keep)
          (first
            | (go_at_call 25; refine (ofN_any _ _ ?_).mono ?_; (omega); rintro e w7 ⟨rfl, hb⟩; have hF := hF.step hb ⟨rfl, rfl, rfl⟩ (.inl rfl))
            | (go_at_call 26; refine (compareN2_any A B _ FA.out FB.out).mono ?_; rintro e w7 ⟨rfl, hb⟩; have hF := hF.step hb ⟨rfl, rfl, rfl⟩ (.inl rfl))
            | (go_at_call 10; refine (awake_any _).mono ?_; rintro e w7 ⟨rfl, hb⟩; have hF := hF.step hb ⟨rfl, rfl, rfl⟩ (.inl rfl)))
        all_goals
          go_wp2
          go_ret
          exact ⟨rfl, hF.bel⟩
  · go_enter Try.func6, Try.ntmps6
    go_wp2_with (go_at_call 10; refine (awake_any _).mono ?_; rintro e w1 ⟨rfl, hb⟩)
    go_ret
    exact ⟨rfl, hb⟩
end Go.Proofs.Ytppflnkadjddiaa
