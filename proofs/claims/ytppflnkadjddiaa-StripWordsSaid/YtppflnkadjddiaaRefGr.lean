/-
  The reference's Graph of a strip.
  No condition.
-/
import Derived.Test.YtppflnkadjddiaaRefEss
import Derived.Test.YtppflnkadjddiaaEdgeList
namespace Go.Proofs.Ytppflnkadjddiaa
open Go.RowKit Go.Sort
set_option linter.unusedVariables false

/-- The graph of a strip: its columns, the states that stay, its edges. -/
def strE (h : Int) (l : List Int) : List Edge := gE h l (side h).toNat ((side h).toNat * (side h).toNat)
def strS (h : Int) (l : List Int) : List Int := ess (strE h l) (upTo (side h).toNat)
def gL (h : Int) (l : List Int) : Int := if chk h l = 0 then side h else 0
def gS (h : Int) (l : List Int) : Int := if chk h l = 0 then ((strS h l).length : Int) else 0
def gG (h : Int) (l : List Int) : List Edge := if chk h l = 0 then partE (strS h l) (strE h l) else []
def GraphPost (h : Int) (l : List Int) (w : World) (e : Ending) (w' : World) : Prop :=
  ∃ u, e = .returned (.tuple #[.agg #[.int .i64 (gL h l), .int .i64 (gS h l), u], .int .i64 (chk h l)]) ∧ Sl 3 w' u (gG h l).length (ecells (gG h l)) ∧ Below w.heap.size w w'
theorem gG_bad {h : Int} {l : List Int} (hc : ¬ chk h l = 0) : gL h l = 0 ∧ gS h l = 0 ∧ gG h l = [] := ⟨if_neg hc, if_neg hc, if_neg hc⟩
theorem gG_good {h : Int} {l : List Int} (hc : chk h l = 0) : gL h l = side h ∧ gS h l = ((strS h l).length : Int) ∧ gG h l = partE (strS h l) (strE h l) := ⟨if_pos hc, if_pos hc, if_pos hc⟩
/-- The result's cells. -/
structure ResG (w : World) (wx : World) : Prop where
  bel : Below w.heap.size w wx
  r0 : wx.cell? ⟨w.heap.size, 0, none⟩ = some (.int .i64 0)
  r1 : wx.cell? ⟨w.heap.size, 1, none⟩ = some (.int .i64 0)
  r2 : wx.cell? ⟨w.heap.size, 2, none⟩ = some (.slice none 0 0)
  rf : ∀ j, wx.frozen? ⟨w.heap.size, j, none⟩ = false
  lo : w.heap.size < wx.heap.size
theorem ResG.keep {w wx wy : World} {B : Nat} (h : ResG w wx) (hb : Below B wx wy) (hB : w.heap.size + 1 ≤ B) : ResG w wy :=
  ⟨h.bel.trans (hb.mono (by omega)), (hb.cell (p := ⟨w.heap.size, 0, none⟩) hB).trans h.r0, (hb.cell (p := ⟨w.heap.size, 1, none⟩) hB).trans h.r1, (hb.cell (p := ⟨w.heap.size, 2, none⟩) hB).trans h.r2, fun j => (hb.frozen (p := ⟨w.heap.size, j, none⟩) hB).trans (h.rf j), Nat.lt_of_lt_of_le h.lo hb.size⟩
theorem ResG.on {w wx wy : World} (h : ResG w wx) (hb : Below wx.heap.size wx wy) : ResG w wy := h.keep hb h.lo
theorem ResG.start (w : World) : ResG w (w.alloc (.cells #[.int .i64 0, .int .i64 0, .slice none 0 0] 55)) :=
  ⟨(Below.refl _ _).alloc (Nat.le_refl _) _, by simp, by simp, by simp, fun j => frozen_laid (Below.refl _ _) j, by simp⟩
theorem ResG.store {w wx : World} (h : ResG w wx) (a b c : Value) : Below w.heap.size w (((wx.setCell ⟨w.heap.size, 0, none⟩ a).setCell ⟨w.heap.size, 1, none⟩ b).setCell ⟨w.heap.size, 2, none⟩ c) :=
  ((h.bel.setCell (p := ⟨w.heap.size, 0, none⟩) (Nat.le_refl _) _).setCell (p := ⟨w.heap.size, 1, none⟩) (Nat.le_refl _) _).setCell (p := ⟨w.heap.size, 2, none⟩) (Nat.le_refl _) _
/-- Behind the store of the result, and a block. -/
theorem ResG.full {w wx : World} (h : ResG w wx) (a b c : Value) (o : Obj) :
    ((((wx.setCell ⟨w.heap.size, 0, none⟩ a).setCell ⟨w.heap.size, 1, none⟩ b).setCell ⟨w.heap.size, 2, none⟩ c).alloc o).cell? ⟨w.heap.size, 0, none⟩ = some a ∧
    ((((wx.setCell ⟨w.heap.size, 0, none⟩ a).setCell ⟨w.heap.size, 1, none⟩ b).setCell ⟨w.heap.size, 2, none⟩ c).alloc o).cell? ⟨w.heap.size, 1, none⟩ = some b ∧
    ((((wx.setCell ⟨w.heap.size, 0, none⟩ a).setCell ⟨w.heap.size, 1, none⟩ b).setCell ⟨w.heap.size, 2, none⟩ c).alloc o).cell? ⟨w.heap.size, 2, none⟩ = some c := by
  have k : ∀ (W : World) (j : Nat) (v : Value), W.cell? ⟨w.heap.size, j, none⟩ = some v → (W.alloc o).cell? ⟨w.heap.size, j, none⟩ = some v := fun W j v hc => keeps ((Below.refl _ _).alloc (Nat.le_refl _) _) hc
  refine ⟨k _ _ _ ?_, k _ _ _ ?_, k _ _ _ ?_⟩
  · rw [World.cell?_setCell_other _ _ _ _ (by simp), World.cell?_setCell_other _ _ _ _ (by simp)]; exact World.cell?_setCell_same _ _ _ h.r0
  · rw [World.cell?_setCell_other _ _ _ _ (by simp)]; exact World.cell?_setCell_same _ _ _ (by rw [World.cell?_setCell_other _ _ _ _ (by simp)]; exact h.r1)
  · exact World.cell?_setCell_same _ _ _ (by rw [World.cell?_setCell_other _ _ _ _ (by simp), World.cell?_setCell_other _ _ _ _ (by simp)]; exact h.r2)
/-- The edges so far. -/
def LG (w : World) (h : Int) (l : List Int) (n c : Nat) (gk : Nat) (u i : Value) (wr : World) : Prop :=
  ∃ e : Nat, gk + e = n ∧ i = .int .i64 e ∧ wr.ownsRow (w.heap.size + 1) 64 3 u (gE h l n (c * n + e)).length (ecells (gE h l n (c * n + e))) ∧ ResG w wr
def LH (w : World) (h : Int) (l : List Int) (n : Nat) (gk : Nat) (u i : Value) (wr : World) : Prop :=
  ∃ c : Nat, gk + c = n ∧ i = .int .i64 c ∧ wr.ownsRow (w.heap.size + 1) 64 3 u (gE h l n (c * n + 0)).length (ecells (gE h l n (c * n + 0))) ∧ ResG w wr
theorem lt_mul {n c e : Nat} (hc : c < n) (he : e < n) (h16 : n ≤ 16) : c * n + e < 256 := by
  have h1 : c * n ≤ 15 * n := Nat.mul_le_mul_right n (by omega)
  omega
theorem set_below {B g : Nat} {w : World} {e : TypeId} {sz : Nat} {v : Value} {n : Nat} {xs : List Value} (h : w.ownsRow B e sz v n xs) (hg : g < B) (a b c : Value) : (((w.setCell ⟨g, 0, none⟩ a).setCell ⟨g, 1, none⟩ b).setCell ⟨g, 2, none⟩ c).ownsRow B e sz v n xs :=
  ownsRow_setCell_below (ownsRow_setCell_below (ownsRow_setCell_below h hg _) hg _) hg _

set_option maxRecDepth 100000 in
set_option maxHeartbeats 4000000 in
theorem refGr_any (h : Int) (v : Value) (l : List Int) (w : World) (hl : Sl 1 w v l.length (ints l)) :
    Calls Try.prog 30 #[.int .i64 h, v] w (GraphPost h l w) := by
  have hlw := refCheck_any h l v (w.alloc (.cells #[.int .i64 0, .int .i64 0, .slice none 0 0] 55)) (hl.below ((Below.refl _ _).alloc (Nat.le_refl _) _))
  have HR0 := hid (ResG.start w)
  have HL := hid hl
  clear hl
  by_cases hc : chk h l = 0
  · obtain ⟨g1, g2, g3⟩ := gG_good hc
    obtain ⟨⟨h1, h4⟩, _⟩ := chk_range hc
    obtain ⟨H, rfl⟩ : ∃ H : Nat, h = (H : Int) := ⟨h.toNat, by omega⟩
    obtain ⟨hsw, hs2, hs16⟩ := side_wrap (H : Int) h1 h4
    obtain ⟨N, hNs⟩ : ∃ N : Nat, side (H : Int) = (N : Int) := ⟨(side (H : Int)).toNat, by omega⟩
    have hE : strE (H : Int) l = gE (H : Int) l N (N * N) := by rw [strE, hNs]; rfl
    have hS : strS (H : Int) l = ess (gE (H : Int) l N (N * N)) (upTo N) := by rw [strS, hE, hNs]; rfl
    rw [hNs] at hs2 hs16 g1
    rw [hS] at g2
    rw [hS, hE] at g3
    rw [hc] at hlw
    have HSz := hid (fun w => show Calls Try.prog 49 #[.int .i64 (H : Int)] w fun e w' => e = .returned (.int .i64 (N : Int)) ∧ w = w' by
      have := refSize_any (H : Int) w (by omega) (by omega)
      rw [Int.toNat_natCast] at this
      have e : (2 : Int) ^ H = (N : Int) := by rw [← hNs]; simp [side]
      rwa [e] at this)
    have HG := hid (And.intro hc (And.intro g1 (And.intro g2 g3)))
    have HFine := hid (gE_fine (H : Int) l (n := N) (by omega) (by omega))
    clear hE hS hNs hc hsw g1 g2 g3
    go_enter Try.func30, Try.ntmps30
    go_upto_region 5 with (first | (go_at_call 33; refine hlw.mono ?_; rintro e w' ⟨rfl, nd, rfl⟩) | (go_at_call 49; refine (HSz.out _).mono ?_; rintro e w1 ⟨rfl, rfl⟩))
    clear hlw
    have HR := hid (show ResG w ((w.alloc (.cells #[.int .i64 0, .int .i64 0, .slice none 0 0] 55)).drewN nd) from HR0.out.keep (below_drewN (Below.refl _ _) nd) (Nat.le_refl _))
    generalize (w.alloc (.cells #[.int .i64 0, .int .i64 0, .slice none 0 0] 55)).drewN nd = W at *
    clear HR0
    go_upto_region 7 with fail
    go_loopg [8, 9] N (fun gk u i wr => LH w (H : Int) l N gk u i wr)
    case atStart => exact ⟨0, by omega, rfl, by rw [Nat.zero_mul, Nat.add_zero, gE_zero]; exact own_base (own_empty W _ _) HR.out.lo, HR.out.on ((Below.refl _ _).alloc (Nat.le_refl _) _)⟩
    case round =>
      obtain ⟨c, hcn, rfl, hown, hR⟩ := hrel
      have HOw := hid hown
      have HRo := hid hR
      clear hown hR HR
      by_cases hcN : c < N
      · have HNx := hid (gE_next (H : Int) l N c)
        go_upto_region 10 with fail
        obtain ⟨wo, rfl⟩ : ∃ wo : World, wo = wr := ⟨_, rfl⟩
        go_loopg [8, 10] N (fun gk u i wr => LG w (H : Int) l N c gk u i wr)
        case atStart => exact ⟨0, by omega, rfl, HOw.out, HRo.out⟩
        case round =>
          obtain ⟨e, hen, rfl, hown, hR⟩ := hrel
          have HRi := hid hR
          have HOi := hid hown
          clear hR hown HOw HRo
          by_cases heN : e < N
          · have hlt := lt_mul hcN heN (by omega)
            have hlen := gE_len (H : Int) l N (c * N + e)
            have hbs1 := refBeside_any H v l c e wr (by omega) (by omega) (by omega) (by omega) (by omega) (by omega) (HL.out.below HRi.out.bel)
            cases hP : okP (H : Int) l c e
            · have HA := hid (gE_no heN hP)
              rw [hP] at hbs1
              have HBs := hid hbs1
              clear hP hbs1
              go_wp2_with (go_at_call 46; refine HBs.out.mono ?_; rintro e' w1 ⟨rfl, rfl⟩)
              go_roundg (N - (e + 1))
              case rel => exact ⟨e + 1, by omega, by go_num, by rw [HA.out]; exact HOi.out, HRi.out⟩
              case measure => omega
            · have HA := hid (gE_yes heN hP)
              rw [hP] at hbs1
              have HBs := hid hbs1
              have hlo := HRi.out.lo
              have hown := HOi.out
              clear hP hbs1
              generalize gE (H : Int) l N (c * N + e) = es at *
              go_wp2_with (first
                | (go_at_call 46; refine HBs.out.mono ?_; rintro e' w1 ⟨rfl, rfl⟩)
                | (at_builtin; refine wpList_push _ rfl _ _ 53 rfl (w.heap.size + 1) 64 (.agg #[.int .i64 0, .int .i64 0, .int .i64 0]) 3 24 Try.underlying53 Try.infoEdge rfl (by decide) _ _ _ rfl hown #[.int .i64 (c : Int), .int .i64 (e : Int), .int .i64 (e : Int)] rfl (by simp [Value.oneCell']) rfl (by unfold maxLen; omega) (by omega) (by omega) ?_; intro g3 gc3 w3 hown3 hg3 hb3))
              have HR3 := hid (HRi.out.keep hb3 (Nat.le_refl _))
              clear hg3 hown
              go_roundg (N - (e + 1))
              case rel => exact ⟨e + 1, by omega, by go_num, by rw [HA.out, ecells_snoc, List.length_append]; exact hown3, HR3.out⟩
              case measure => omega
          · obtain rfl : N = e := by omega
            go_wp2
            go_roundg (N - (c + 1))
            case rel => exact ⟨c + 1, by omega, by go_num, by rw [← HNx.out]; exact HOi.out, HRi.out⟩
            case measure => omega
      · obtain rfl : N = c := by omega
        rw [Nat.add_zero] at HOw
        obtain ⟨au, cu, rfl⟩ := own_slice HOw.out
        have hSl := Sl.of_owns HOw.out
        clear hcn hcN HSz
        generalize gE (H : Int) l N (N * N) = es at *
        go_wp2_with (go_at_call 55; refine (refEss_any (N : Int) (N : Int) _ es _ HFine.out hSl).mono ?_; rintro e w2 ⟨u, v2, rfl, ho, hb⟩; rw [Int.toNat_natCast]; rw [Int.toNat_natCast] at ho; obtain ⟨ae, ce, rfl⟩ := own_slice ho; have HRe := hid (HRo.out.on hb); obtain ⟨_, r0, r1, r2, rf, hlo⟩ := HRe.out; have f0 := rf 0; have f1 := rf 1; have f2 := rf 2; clear rf hSl)
        obtain ⟨q0, q1, q2⟩ := HRe.out.full (.int .i64 (N : Int)) (.int .i64 ((ess es (upTo N)).length : Int)) (.slice ae (partE (ess es (upTo N)) es).length ce) (.cells #[.int .i64 (N : Int), .int .i64 ((ess es (upTo N)).length : Int), .slice ae (partE (ess es (upTo N)) es).length ce] 55)
        have hSt := HRe.out.store (.int .i64 (N : Int)) (.int .i64 ((ess es (upTo N)).length : Int)) (.slice ae (partE (ess es (upTo N)) es).length ce)
        have hSl := (Sl.of_owns (set_below ho HRo.out.lo (.int .i64 (N : Int)) (.int .i64 ((ess es (upTo N)).length : Int)) (.slice ae (partE (ess es (upTo N)) es).length ce))).below ((Below.refl _ _).alloc (Nat.le_refl _) (.cells #[.int .i64 (N : Int), .int .i64 ((ess es (upTo N)).length : Int), .slice ae (partE (ess es (upTo N)) es).length ce] 55))
        refine bodyPost_ret (v := .tuple #[.agg #[.int .i64 (N : Int), .int .i64 ((ess es (upTo N)).length : Int), .slice ae (partE (ess es (upTo N)) es).length ce], .int .i64 0]) ?_ rfl ⟨.slice ae (partE (ess es (upTo N)) es).length ce, by rw [HG.out.1, HG.out.2.1, HG.out.2.2.1], by rw [HG.out.2.2.2]; exact hSl, hSt.alloc hSt.size _⟩
        simp only [results, Try.results30]
        simp [go_sem, q0, q1, q2]
  · obtain ⟨g1, g2, g3⟩ := gG_bad hc
    have HG := hid (And.intro g1 (And.intro g2 g3))
    have hcb : ((chk h l) != 0) = true := by simp [hc]
    clear g1 g2 g3 hc
    unfold GraphPost
    generalize chk h l = C at *
    go_enter Try.func30, Try.ntmps30
    go_upto_region 2 with (go_at_call 33; refine hlw.mono ?_; rintro e w' ⟨rfl, nd, rfl⟩)
    clear hlw
    go_wp2
    refine bodyPost_ret (v := .tuple #[.agg #[.int .i64 0, .int .i64 0, .slice none 0 0], .int .i64 C]) ?_ rfl ⟨.slice none 0 0, by rw [HG.out.1, HG.out.2.1], by rw [HG.out.2.2]; exact Sl.nil _ _, ?_⟩
    · simp [results, Try.results30, go_sem]
    · exact (HR0.out.keep (below_drewN (Below.refl _ _) nd) (Nat.le_refl _)).store _ _ _
end Go.Proofs.Ytppflnkadjddiaa
