/-
  The closure of resync.table: the number of a pair, from those of the pairs to which the letters lead.
  The parser's rows and the table's rows lie in memory.
-/
import Derived.Test.YtjcdddccnfiemaaDoorRBuild
import Derived.Test.YtjcdddccnfiemaaDoorTabLaw
namespace Go.Proofs.YtjcdddccnfiemaaDoor
open Go.RowKit Go.Deep
set_option linter.unusedVariables false

def mostV (a : Nat) (m : Int) : Int := if a = 0 then 0 else m + 1
theorem mostV_succ {nx : Nat → Nat → Nat} {T : Nat → Nat → Int} {s t a : Nat} {m : Int} (h : mostK nx T s t a = some m) (hk : ¬ T (nx s a) (nx t a) < 0) :
    mostK nx T s t (a + 1) = some (max m (T (nx s a) (nx t a))) ∧ max (mostV a m) (T (nx s a) (nx t a) + 1) = mostV (a + 1) (max m (T (nx s a) (nx t a))) := by
  refine ⟨mostK_good h hk, ?_⟩
  have hm := (mostK_some h).1
  unfold mostV
  rw [if_neg (show ¬ a + 1 = 0 by omega)]
  by_cases e : a = 0
  · subst e
    simp only [mostK, Option.some.injEq] at h
    rw [if_pos rfl]; omega
  · rw [if_neg e]; omega

theorem mostK_none_le {nx : Nat → Nat → Nat} {T : Nat → Nat → Int} {s t a q : Nat} (h : mostK nx T s t a = none) (ha : a ≤ q) : mostK nx T s t q = none := by
  obtain ⟨b, hb, h2⟩ := mostK_none_iff.1 h
  exact mostK_none_iff.2 ⟨b, by omega, h2⟩

set_option maxRecDepth 100000 in
set_option maxHeartbeats 2000000 in
theorem known_any (B1 C n q : Nat) (aN aO : Option Addr) (cN cO : Nat) (nx : Nat → Nat → Nat) (T : Nat → Nat → Int) (s t : Nat) (w : World)
    (c0 : w.cell? ⟨B1, 0, none⟩ = some (.int .i64 (q : Int))) (c2 : w.cell? ⟨B1, 2, none⟩ = some (.slice aN n cN)) (cC : w.cell? ⟨C, 0, none⟩ = some (.slice aO n cO))
    (hN : Mt w (.slice aN n cN) n q (fun i j => (nx i j : Int))) (hO : Mt w (.slice aO n cO) n n T) (hc : ∀ s a, nx s a < n) (hs : s < n) (ht : t < n) (hn : n ≤ 1000) (hq1 : 1 ≤ q) (hq : q ≤ 16)
    (hT : ∀ i < n, ∀ j < n, -1 ≤ T i j ∧ T i j ≤ 1000000) :
    Calls Tryd.prog 37 #[.int .i64 (s : Int), .int .i64 (t : Int), .pointer (some ⟨B1, 0, none⟩), .pointer (some ⟨C, 0, none⟩)] w fun e w' => e = .returned (.int .i64 (numOf (mostK nx T s t q))) ∧ Dr w w' := by
  have HC := hid (And.intro c0 (And.intro c2 cC))
  have HN := hid hN
  have HO := hid hO
  have HT := hid hT
  clear c2 cC hN hO hT
  go_enter Tryd.func37, Tryd.ntmps37
  go_upto_region 3 with fail
  clear c0
  go_loopw [7, 12] (fun u i wr => ∃ a : Nat, a ≤ q ∧ i = .int .i64 a ∧ Dr w wr ∧ ∃ m, mostK nx T s t a = some m ∧ u = .int .i64 (mostV a m)) (fun _ i _ => q - (intOf i).toNat)
  case atStart => exact ⟨0, Nat.zero_le _, rfl, Dr.refl _, 0, rfl, rfl⟩
  case round =>
    obtain ⟨a, ha, rfl, hD, m, hm, rfl⟩ := hrel
    have HD := hid hD
    obtain ⟨d0, d2, dC⟩ := HC.out
    have hb := hD.below w.heap.size
    have d0 := keeps hb d0
    have d2 := keeps hb d2
    have dC := keeps hb dC
    by_cases hlt : a < q
    · obtain ⟨b1, o1, b2, o2, k2, e1, n1, n2⟩ := (HN.out.dr hD).cell hs hlt
      obtain ⟨b3, o3, b4, o4, k4, e3, n3, n4⟩ := (HN.out.dr hD).cell ht hlt
      subst e1
      simp only [Option.some.injEq, Addr.mk.injEq, and_true] at e3
      obtain ⟨rfl, rfl⟩ := e3
      have hc1 := hc s a
      have hc2 := hc t a
      obtain ⟨b5, o5, b6, o6, k6, e5, n5, n6⟩ := (HO.out.dr hD).cell hc1 hc2
      subst e5
      have hTT := HT.out _ hc1 _ hc2
      have HM := hid hm
      have HSt := hid (fun h => mostV_succ (nx := nx) (T := T) hm h)
      have HBad := hid (fun h => mostK_bad (nx := nx) (T := T) (s := s) (t := t) (a := a) h)
      have hm0 := (mostK_some hm).1
      generalize hx1 : nx s a = x1 at *
      generalize hx2 : nx t a = x2 at *
      generalize hTk : T x1 x2 = K at *
      clear hD hb hx1 hx2 hTk hm
      by_cases hK : K = -1
      · have hb : (K == -1) = true := by simp [hK]
        have HR := hid (show mostK nx T s t (a + 1) = none from HBad.out (by omega))
        go_upto_region 5 with fail
        go_quiet (fail)
        go_wp2
        go_ret
        exact ⟨ret_int (by rw [mostK_none_le HR.out (by omega)]; rfl), HD.out.drewN _⟩
      · have hb : (K == -1) = false := by simp [hK]
        have hwk : IntKind.i64.wrap (K + 1) = K + 1 := by rw [IntKind.wrap_i64]; omega
        obtain ⟨h1, h2⟩ := HSt.out (by omega)
        have HR := hid h1
        have HV := hid h2
        clear h1 h2
        go_upto_region 5 with fail
        go_quiet (fail)
        clear hwk
        go_wp2
        go_roundw
        case rel => exact ⟨a + 1, by omega, by go_num, HD.out.drewN _, _, HR.out, by rw [← HV.out]⟩
        case measure => simp [intOf]; omega
    · have e : a = q := by omega
      subst e
      have HM := hid hm
      go_wp2
      go_ret
      exact ⟨ret_int (by rw [HM.out, mostV, if_neg (by omega)]; rfl), HD.out⟩
end Go.Proofs.YtjcdddccnfiemaaDoor
