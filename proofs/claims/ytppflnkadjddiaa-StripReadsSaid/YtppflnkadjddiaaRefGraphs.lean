/-
  The reference's comparison of edges, its Check at a valid graph, Has and index.
  The reference's Check at a valid graph.
  The part of a graph on a set of states: the reference's Part.
  Conditions: No condition. No condition beyond the graph being valid. No condition beyond at most 1024 edges.
-/
import Derived.Test.YtppflnkadjddiaaEdges
namespace Go.Proofs.Ytppflnkadjddiaa
open Go.RowKit Go.Sort
set_option linter.unusedVariables false

theorem cmpL_differ {l r : List Int} {k : Nat} {x y : Int} (hx : l[k]? = some x) (hy : r[k]? = some y) (hne : ¬ x = y) (h : cmpL l r = cmpL (l.drop k) (r.drop k)) : cmpL l r = cmpZ x y := by
  rw [h, drop_cons hx, drop_cons hy, cmpL, if_neg (fun h => hne (cmpZ_zero.1 h))]
theorem cmpL_same {l r : List Int} {k : Nat} {x y : Int} (hx : l[k]? = some x) (hy : r[k]? = some y) (he : x = y) (h : cmpL l r = cmpL (l.drop k) (r.drop k)) : cmpL l r = cmpL (l.drop (k + 1)) (r.drop (k + 1)) := by
  rw [h, drop_cons hx, drop_cons hy, cmpL, if_pos (cmpZ_zero.2 he)]

theorem lit3 (w : World) (x : Edge) (g : Nat) (hg : g = w.heap.size) (e : TypeId) : Sl 1 (w.alloc (.cells #[.int .i64 x.f, .int .i64 x.l, .int .i64 x.t] e)) (.slice (some ⟨g, 0, none⟩) 3 3) 3 (ints x.nums) := by
  subst hg
  refine ⟨_, 3, rfl, rfl, Nat.le_refl _, by omega, .inr ⟨_, 0, rfl, ?_⟩⟩
  intro j v hj
  have e' : ∀ g : Nat, (⟨g, 0 + j, none⟩ : Addr) = (⟨g, 0, none⟩ : Addr).add j := fun g => by unfold Addr.add; split <;> simp_all
  rw [e']
  exact cells_new w #[.int .i64 x.f, .int .i64 x.l, .int .i64 x.t] e j v hj
theorem below_drew2 {w w' : World} (h : Below w.heap.size w w') : Below w.heap.size w w'.drew := h.trans ⟨rfl, rfl, rfl, Nat.le_refl _, fun _ _ => rfl⟩
theorem refCmp_cut (wq : World) (x y : Edge) (e : TypeId) : Sl 1 ((wq.alloc (.cells #[.int .i64 x.f, .int .i64 x.l, .int .i64 x.t] e)).alloc (.cells #[.int .i64 y.f, .int .i64 y.l, .int .i64 y.t] e)).drew (.slice (some ⟨wq.heap.size, 0, none⟩) 3 3) 3 (ints x.nums) ∧
    Sl 1 ((wq.alloc (.cells #[.int .i64 x.f, .int .i64 x.l, .int .i64 x.t] e)).alloc (.cells #[.int .i64 y.f, .int .i64 y.l, .int .i64 y.t] e)).drew (.slice (some ⟨wq.heap.size + 1, 0, none⟩) 3 3) 3 (ints y.nums) ∧
    Below wq.heap.size wq ((wq.alloc (.cells #[.int .i64 x.f, .int .i64 x.l, .int .i64 x.t] e)).alloc (.cells #[.int .i64 y.f, .int .i64 y.l, .int .i64 y.t] e)).drew :=
  ⟨(lit3 wq x _ rfl e).below (below_drew2 ((Below.refl _ _).alloc (Nat.le_refl _) _)), (lit3 _ y _ (by simp) e).below (below_drew2 (Below.refl _ _)), below_drew2 (((Below.refl _ _).alloc (Nat.le_refl _) _).alloc (by simp) _)⟩
set_option maxRecDepth 100000 in
set_option maxHeartbeats 2000000 in
theorem refCmp_any (x y : Edge) (w : World) :
    Calls Try.prog 102 #[.agg #[.int .i64 x.f, .int .i64 x.l, .int .i64 x.t], .agg #[.int .i64 y.f, .int .i64 y.l, .int .i64 y.t]] w fun e w' => e = .returned (.int .i64 (cmpE x y)) ∧ Below w.heap.size w w' := by
  go_enter Try.func102, Try.ntmps102
  go_upto_region 1 with fail
  have HBe := hid (((Gr.refl w).alloc (.cells #[.int .i64 x.f, .int .i64 x.l, .int .i64 x.t] 64)).alloc (.cells #[.int .i64 y.f, .int .i64 y.l, .int .i64 y.t] 64)).below
  obtain ⟨wq, hwq⟩ : ∃ wq, (w.alloc (.cells #[.int .i64 x.f, .int .i64 x.l, .int .i64 x.t] 64)).alloc (.cells #[.int .i64 y.f, .int .i64 y.l, .int .i64 y.t] 64) = wq := ⟨_, rfl⟩
  have c0 : wq.cell? ⟨w.heap.size, 0, none⟩ = some (.int .i64 x.f) := by rw [← hwq]; simp
  have c1 : wq.cell? ⟨w.heap.size, 1, none⟩ = some (.int .i64 x.l) := by rw [← hwq]; simp
  have c2 : wq.cell? ⟨w.heap.size, 2, none⟩ = some (.int .i64 x.t) := by rw [← hwq]; simp
  have c3 : wq.cell? ⟨w.heap.size + 1, 0, none⟩ = some (.int .i64 y.f) := by rw [← hwq]; simp
  have c4 : wq.cell? ⟨w.heap.size + 1, 1, none⟩ = some (.int .i64 y.l) := by rw [← hwq]; simp
  have c5 : wq.cell? ⟨w.heap.size + 1, 2, none⟩ = some (.int .i64 y.t) := by rw [← hwq]; simp
  rw [hwq] at HBe ⊢
  have hlt0 : w.heap.size < wq.heap.size := by rw [← hwq]; simp; try omega
  have hlt1 : w.heap.size + 1 < wq.heap.size := by rw [← hwq]; simp; try omega
  clear hwq
  go_cut [5, 6] (fun u v wx => Sl 1 wx u 3 (ints x.nums) ∧ Sl 1 wx v 3 (ints y.nums) ∧ Below wq.heap.size wq wx)
  case first =>
    go_region_held3 (fun w' => w'.cell? ⟨w.heap.size, 0, none⟩ = some (.int .i64 x.f) ∧ w'.cell? ⟨w.heap.size, 1, none⟩ = some (.int .i64 x.l) ∧ w'.cell? ⟨w.heap.size, 2, none⟩ = some (.int .i64 x.t) ∧ w'.cell? ⟨w.heap.size + 1, 0, none⟩ = some (.int .i64 y.f) ∧ w'.cell? ⟨w.heap.size + 1, 1, none⟩ = some (.int .i64 y.l) ∧ w'.cell? ⟨w.heap.size + 1, 2, none⟩ = some (.int .i64 y.t))
      (first | exact ⟨c0, c1, c2, c3, c4, c5⟩ | go_keep)
      (fail)
    · go_wp2_with fail
      go_meet
      exact refCmp_cut wq x y _
    · go_wp2_with fail
      go_meet
      obtain ⟨h1, h2, h3⟩ := refCmp_cut wq y x 3
      exact ⟨h2, h1, h3⟩
  case rest =>
    obtain ⟨hS1, hS2, hb⟩ := hcut
    have H1 := hid hS1
    have H2 := hid hS2
    have HB := hid (bel_step HBe.out hb)
    have hn1 : x.nums.length = 3 := rfl
    have hn2 : y.nums.length = 3 := rfl
    obtain ⟨ao1, cap1, rfl, _, m1, m2, _⟩ := hS1
    obtain ⟨ao2, cap2, rfl, _, m3, m4, _⟩ := hS2
    clear hb c0 c1 c2 c3 c4 c5 hlt0 hlt1 HBe
    go_wp2_with fail
    go_loopw [7] (fun i wr => ∃ k : Nat, k ≤ 3 ∧ i = .int .i64 k ∧ Dr wc wr ∧ Hid (cmpE x y = cmpL (x.nums.drop k) (y.nums.drop k))) (fun i _ => 3 - (intOf i).toNat)
    case atStart => exact ⟨0, by omega, rfl, Dr.refl _, hid rfl⟩
    case round =>
      obtain ⟨k, hk, rfl, hD, HE⟩ := hrel
      have HD := hid hD
      clear hD
      by_cases hlt : k < 3
      · obtain ⟨a, ha⟩ := some_of_lt (l := x.nums) (k := k) (by omega)
        obtain ⟨b, hb⟩ := some_of_lt (l := y.nums) (k := k) (by omega)
        obtain ⟨b1, o1, rfl, d1⟩ := (H1.out.dr HD.out).cell (ints_get ha)
        obtain ⟨b2, o2, rfl, d2⟩ := (H2.out.dr HD.out).cell (ints_get hb)
        have hk1 : (k : Int) < 3 := by omega
        by_cases he : a = b
        · have hne1 : decide (a < b) = false := by simp; omega
          have hne2 : decide (b < a) = false := by simp; omega
          have HN := hid (cmpL_same ha hb he HE.out)
          clear ha hb he
          go_upto_region 5 with fail
          go_quiet (fail)
          go_upto_region 7 with fail
          go_quiet (fail)
          go_wp2
          go_roundw
          case rel => exact ⟨k + 1, by omega, by go_num, HD.out.drewN _, HN⟩
          case measure => simp [intOf]; omega
        · have HN := hid (cmpL_differ ha hb he HE.out)
          clear ha hb
          by_cases hab : a < b
          · have hne1 : decide (a < b) = true := by simp; omega
            have HZ := hid (HN.out.trans (cmpZ_lt hab))
            clear hab he
            go_upto_region 5 with fail
            go_quiet (fail)
            go_wp2
            go_ret
            exact ⟨ret_int HZ.out.symm, HB.out.trans ((HD.out.drewN _).below _)⟩
          · have hne1 : decide (a < b) = false := by simp; omega
            have hne2 : decide (b < a) = true := by simp; omega
            have HZ := hid (HN.out.trans (cmpZ_gt (by omega)))
            clear hab he
            go_upto_region 5 with fail
            go_quiet (fail)
            go_upto_region 7 with fail
            go_quiet (fail)
            go_wp2
            go_ret
            exact ⟨ret_int HZ.out.symm, HB.out.trans (((HD.out.drewN _).drewN _).below _)⟩
      · have HZ := hid (show cmpE x y = 0 by rw [HE.out, drop_all (by omega), drop_all (by omega)]; rfl)
        go_wp2
        go_ret
        exact ⟨ret_int HZ.out.symm, HB.out.trans (HD.out.below _)⟩

set_option maxHeartbeats 1000000 in
theorem refHas9_any (v : Value) (l : List Int) (n : Int) (w : World) (hl : Sl 1 w v l.length (ints l)) :
    Calls Try.prog 87 #[v, .int .i64 n] w fun e w' => e = .returned (.bool (hasB l n)) ∧ w = w' := by
  obtain ⟨ao, cap, rfl, _, _, hm1, _⟩ := id hl
  have HL := hid hl
  clear hl
  go_enter Try.func87, Try.ntmps87
  go_wp2
  go_loop [5] (fun i => ∃ k : Nat, k ≤ l.length ∧ i = .int .i64 k ∧ Hid (hasB l n = hasB (l.drop k) n)) (fun i => l.length - (intOf i).toNat)
  case atStart => exact ⟨0, by omega, rfl, hid rfl⟩
  case round =>
    obtain ⟨k, hk, rfl, HE⟩ := hrel
    by_cases hlt : k < l.length
    · obtain ⟨x, hx⟩ := some_of_lt hlt
      obtain ⟨b, o, rfl, c1⟩ := HL.out.cell (ints_get hx)
      have HX := hid hx
      clear hx
      by_cases hn : x = n
      · have hb : (x == n) = true := by simp [hn]
        have HN := hid hn
        clear hn
        go_wp2
        go_ret
        refine ⟨ret_bool ?_, rfl⟩
        rw [HE.out, drop_cons HX.out, HN.out]
        simp [hasB]
      · have hb : (x == n) = false := by simp [hn]
        have HN := hid hn
        clear hn
        go_wp2
        go_round
        case rel =>
          refine ⟨k + 1, by omega, by go_num, hid ?_⟩
          rw [HE.out, drop_cons HX.out]
          have : ¬ n = x := fun e => HN.out e.symm
          simp [hasB, this]
        case measure => simp [intOf]; omega
    · go_wp2
      go_ret
      exact ⟨ret_bool (by rw [HE.out, drop_all (by omega)]; rfl), rfl⟩

/-- The first place of a number, or -1. -/
def idxOf (n : Int) : Nat → List Int → Int
  | _, [] => -1
  | i, a :: l => if a = n then (i : Int) else idxOf n (i + 1) l
set_option maxHeartbeats 1000000 in
theorem refIndex_any (v : Value) (l : List Int) (n : Int) (w : World) (hl : Sl 1 w v l.length (ints l)) :
    Calls Try.prog 103 #[v, .int .i64 n] w fun e w' => e = .returned (.int .i64 (idxOf n 0 l)) ∧ w = w' := by
  obtain ⟨ao, cap, rfl, _, _, hm1, _⟩ := id hl
  have HL := hid hl
  clear hl
  go_enter Try.func103, Try.ntmps103
  go_wp2
  go_loop [5] (fun i => ∃ k : Nat, k ≤ l.length ∧ i = .int .i64 k ∧ Hid (idxOf n 0 l = idxOf n k (l.drop k))) (fun i => l.length - (intOf i).toNat)
  case atStart => exact ⟨0, by omega, rfl, hid rfl⟩
  case round =>
    obtain ⟨k, hk, rfl, HE⟩ := hrel
    by_cases hlt : k < l.length
    · obtain ⟨x, hx⟩ := some_of_lt hlt
      obtain ⟨b, o, rfl, c1⟩ := HL.out.cell (ints_get hx)
      have HX := hid hx
      clear hx
      by_cases hn : x = n
      · have hb : (x == n) = true := by simp [hn]
        have HN := hid hn
        clear hn
        go_wp2
        go_ret
        exact ⟨ret_int (by rw [HE.out, drop_cons HX.out, idxOf, if_pos HN.out]), rfl⟩
      · have hb : (x == n) = false := by simp [hn]
        have HN := hid hn
        clear hn
        go_wp2
        go_round
        case rel => exact ⟨k + 1, by omega, by go_num, hid (by rw [HE.out, drop_cons HX.out, idxOf, if_neg HN.out])⟩
        case measure => simp [intOf]; omega
    · go_wp2
      go_ret
      exact ⟨ret_int (by rw [HE.out, drop_all (by omega)]; rfl), rfl⟩
end Go.Proofs.Ytppflnkadjddiaa

namespace Go.Proofs.Ytppflnkadjddiaa
open Go.RowKit Go.Sort
set_option linter.unusedVariables false

set_option maxRecDepth 100000 in
set_option maxHeartbeats 2000000 in
theorem refGCheck_any (L S : Int) (v : Value) (es : List Edge) (w : World) (hF : GFine L S es) (hl : Sl 3 w v es.length (ecells es)) :
    Calls Try.prog 86 #[.agg #[.int .i64 L, .int .i64 S, v]] w fun e w' => e = .returned (.int .i64 0) ∧ Below w.heap.size w w' := by
  obtain ⟨ao, cap, rfl, _, hc1, hm1, _⟩ := id hl
  have HL := hid hl
  obtain ⟨l0, l1, s0, s1, len, hmem, hasc⟩ := hF
  have HM := hid hmem
  have HA := hid hasc
  clear hl hmem hasc
  go_enter Try.func86, Try.ntmps86
  go_upto_region 7 with fail
  obtain ⟨w1, hw1⟩ : ∃ w1, w.alloc (.cells #[.int .i64 L, .int .i64 S, .slice ao es.length cap] 55) = w1 := ⟨_, rfl⟩
  rw [hw1]
  have b1 : Below w.heap.size w w1 := by rw [← hw1]; exact (Below.refl _ _).alloc (Nat.le_refl _) _
  have c0 : w1.cell? ⟨w.heap.size, 0, none⟩ = some (.int .i64 L) := by rw [← hw1]; simp
  have c1 : w1.cell? ⟨w.heap.size, 1, none⟩ = some (.int .i64 S) := by rw [← hw1]; simp
  have c2 : w1.cell? ⟨w.heap.size, 2, none⟩ = some (.slice ao es.length cap) := by rw [← hw1]; simp
  have HL1 := hid (HL.out.below b1)
  have HB1 := hid b1
  clear hw1 b1 HL
  go_wp2_with fail
  go_loopw [3] (fun i wr => ∃ k : Nat, k ≤ es.length ∧ i = .int .i64 k ∧ Below w1.heap.size w1 wr) (fun i _ => es.length - (intOf i).toNat)
  case atStart => exact ⟨0, by omega, rfl, Below.refl _ _⟩
  case round =>
    obtain ⟨k, hk, rfl, hbel⟩ := hrel
    have d0 := keeps hbel c0
    have d1 := keeps hbel c1
    have d2 := keeps hbel c2
    have HBel := hid hbel
    have C0 := hid (And.intro c0 (And.intro c1 c2))
    clear c0 c1 c2
    by_cases hlt : k < es.length
    · obtain ⟨x, hx⟩ := some_of_lt hlt
      obtain ⟨b, o, rfl, e0, e1, e2⟩ := (HL1.out.below hbel).edge hx
      obtain ⟨f0, f1, t0, t1, x0, x1⟩ := HM.out x (List.mem_of_getElem? hx)
      have HX := hid hx
      clear hx hbel
      go_upto_region 11 with fail
      obtain ⟨wx, hwx⟩ : ∃ wx, wr.alloc (.cells #[.int .i64 x.f, .int .i64 x.l, .int .i64 x.t] 64) = wx := ⟨_, rfl⟩
      have hbx : Below wr.heap.size wr wx := by rw [← hwx]; exact (Below.refl _ _).alloc (Nat.le_refl _) _
      have g0 := keeps hbx d0
      have g1 := keeps hbx d1
      have g2 := keeps hbx d2
      have x0' : wx.cell? ⟨wr.heap.size, 0, none⟩ = some (.int .i64 x.f) := by rw [← hwx]; simp
      have x1' : wx.cell? ⟨wr.heap.size, 1, none⟩ = some (.int .i64 x.l) := by rw [← hwx]; simp
      have x2' : wx.cell? ⟨wr.heap.size, 2, none⟩ = some (.int .i64 x.t) := by rw [← hwx]; simp
      have HLx := hid ((HL1.out.below HBel.out).below hbx)
      have HBx := hid (bel_step HBel.out hbx)
      rw [hwx]
      clear hwx hbx d0 d1 d2 e0 e1 e2
      go_upto_region 13 with fail
      clear g0 g1 f0 f1 t0 t1 x0 x1 l0 l1 s0 s1
      by_cases hk0 : k = 0
      · subst hk0
        have h0 : decide (0 < (0 : Int)) = false := by decide
        go_quiet (fail)
        clear h0
        go_wp2
        go_roundw
        case rel => exact ⟨1, by omega, rfl, below_drewN HBx.out _⟩
        case measure => simp [intOf]; omega
      · obtain ⟨y, hy⟩ := some_of_lt (l := es) (k := k - 1) (by omega)
        obtain ⟨b', o', hbo, y0, y1, y2⟩ := HLx.out.edge hy
        simp only [Option.some.injEq, Addr.mk.injEq, and_true] at hbo
        obtain ⟨rfl, rfl⟩ := hbo
        have HC := hid (HA.out (k - 1) y x hy (by rw [show k - 1 + 1 = k by omega]; exact HX.out))
        have hp : decide (0 < k) = true := by simp; omega
        have hpos : 0 < k := by omega
        have hkm : IntKind.i64.wrap ((k : Int) - 1) = (k : Int) - 1 := IntWalk.i64_in _ (by omega)
        have hk3 : (0 : Int) ≤ (k : Int) - 1 := by omega
        have hk4 : (k : Int) - 1 < (es.length : Int) := by omega
        have hk5 : ((k : Int) - 1).toNat = k - 1 := by omega
        have hk6 : (1 : Int) ≤ (k : Int) := by omega
        have HW := hid (refCmp_any y x)
        clear hy
        go_region_held3 (fun w' => w'.cell? ⟨w.heap.size, 2, none⟩ = some (.slice (some ⟨b, o, none⟩) es.length cap) ∧ w'.cell? ⟨b, o + (k - 1) * 3, none⟩ = some (.int .i64 y.f) ∧ w'.cell? ⟨b, o + (k - 1) * 3 + 1, none⟩ = some (.int .i64 y.l) ∧ w'.cell? ⟨b, o + (k - 1) * 3 + 2, none⟩ = some (.int .i64 y.t) ∧ w'.cell? ⟨wr.heap.size, 0, none⟩ = some (.int .i64 x.f) ∧ w'.cell? ⟨wr.heap.size, 1, none⟩ = some (.int .i64 x.l) ∧ w'.cell? ⟨wr.heap.size, 2, none⟩ = some (.int .i64 x.t))
          (first | exact ⟨g2, y0, y1, y2, x0', x1', x2'⟩ | go_keep)
          (first
            | (go_at_call 102; refine (HW.out _).mono ?_; rintro e w3 ⟨rfl, hb3⟩; rw [HC.out]; have g2 := keeps hb3 g2; have y0 := keeps hb3 y0; have y1 := keeps hb3 y1; have y2 := keeps hb3 y2; have x0' := keeps hb3 x0'; have x1' := keeps hb3 x1'; have x2' := keeps hb3 x2'))
        have HN := hid (bel_step HBx.out hb3)
        clear hb3 g2 y0 y1 y2 x0' x1' x2' hkm hk3 hk4 hk5 hp
        go_wp2
        go_roundw
        case rel => exact ⟨k + 1, by omega, by go_num, HN.out⟩
        case measure => simp [intOf]; omega
    · go_wp2
      go_ret
      exact ⟨rfl, bel_step HB1.out HBel.out⟩
end Go.Proofs.Ytppflnkadjddiaa

namespace Go.Proofs.Ytppflnkadjddiaa
open Go.RowKit Go.Sort
set_option linter.unusedVariables false
theorem Try.infoEdge : (Try.prog.info? 64).map (fun i => (i.zero, i.size, i.bytes)) = some (some (.agg #[.int .i64 0, .int .i64 0, .int .i64 0]), 3, 24) := by kernel_rfl

/-- An edge's place in the part, if both its ends lie in the set. -/
def part1 (st : List Int) (x : Edge) : Option Edge := if 0 ≤ idxOf x.f 0 st ∧ 0 ≤ idxOf x.t 0 st then some ⟨idxOf x.f 0 st, x.l, idxOf x.t 0 st⟩ else none
def partE (st : List Int) (es : List Edge) : List Edge := es.filterMap (part1 st)
theorem partE_yes {st : List Int} {es : List Edge} {k : Nat} {x y : Edge} (hx : es[k]? = some x) (h : part1 st x = some y) : partE st (es.take (k + 1)) = partE st (es.take k) ++ [y] := by
  rw [take_snoc hx, partE, partE, List.filterMap_append]; simp [h]
theorem partE_no {st : List Int} {es : List Edge} {k : Nat} {x : Edge} (hx : es[k]? = some x) (h : part1 st x = none) : partE st (es.take (k + 1)) = partE st (es.take k) := by
  rw [take_snoc hx, partE, partE, List.filterMap_append]; simp [h]
theorem partE_len (st : List Int) (es : List Edge) : (partE st es).length ≤ es.length := List.length_filterMap_le _ _

theorem own_slice {w : World} {base : Nat} {e : TypeId} {sz : Nat} {v : Value} {n : Nat} {xs : List Value} (h : w.ownsRow base e sz v n xs) : ∃ ao cap, v = .slice ao n cap := by
  rcases h.2 with ⟨hv, h0⟩ | ⟨g, cap, cur, hv, _⟩
  · exact ⟨none, 0, by rw [hv, h0]⟩
  · exact ⟨_, cap, hv⟩
/-- The graph that is built: in the block g, its row behind. -/
structure OutG (w0 : World) (g : Nat) (L N : Int) (es : List Edge) (wr : World) : Prop where
  bel : Below w0.heap.size w0 wr
  lo : w0.heap.size ≤ g
  hi : g < wr.heap.size
  c0 : wr.cell? ⟨g, 0, none⟩ = some (.int .i64 L)
  c1 : wr.cell? ⟨g, 1, none⟩ = some (.int .i64 N)
  row : ∃ u, wr.cell? ⟨g, 2, none⟩ = some u ∧ wr.ownsRow (g + 1) 64 3 u es.length (ecells es)
  f2 : wr.frozen? ⟨g, 2, none⟩ = false
theorem OutG.keep {w0 : World} {g : Nat} {L N : Int} {es : List Edge} {wr w' : World} (h : OutG w0 g L N es wr) (hb : Below wr.heap.size wr w') : OutG w0 g L N es w' := by
  obtain ⟨u, hu, hr⟩ := h.row
  exact ⟨h.bel.trans (hb.mono h.bel.size), h.lo, Nat.lt_of_lt_of_le h.hi hb.size, keeps hb h.c0, keeps hb h.c1, ⟨u, keeps hb hu, own_below hr hb⟩, keeps_frozen hb hu h.f2⟩
/-- Behind an append and the store of the new slice. -/
theorem OutG.push {w0 : World} {g : Nat} {L N : Int} {es es' : List Edge} {wr w' : World} {u : Value} (h : OutG w0 g L N es wr) (hb : Below (g + 1) wr w') (hr : w'.ownsRow (g + 1) 64 3 u es'.length (ecells es')) : OutG w0 g L N es' (w'.setCell ⟨g, 2, none⟩ u) := by
  obtain ⟨u0, hu0, _⟩ := h.row
  have hb0 := hb.mono (show w0.heap.size ≤ g + 1 by have := h.lo; omega)
  have k : ∀ (j : Nat) (v : Value), wr.cell? ⟨g, j, none⟩ = some v → w'.cell? ⟨g, j, none⟩ = some v := fun j v hc => (hb.cell (p := ⟨g, j, none⟩) (Nat.lt_succ_self g)).trans hc
  refine ⟨(h.bel.trans hb0).setCell (by exact h.lo) _, h.lo, ?_, ?_, ?_, ⟨u, World.cell?_setCell_same _ _ _ (k 2 _ hu0), ownsRow_setCell_below hr (Nat.lt_succ_self g) _⟩, ?_⟩
  · rw [World.size_setCell]; exact Nat.lt_of_lt_of_le h.hi hb.size
  · rw [World.cell?_setCell_other _ _ _ _ (by simp)]; exact k 0 _ h.c0
  · rw [World.cell?_setCell_other _ _ _ _ (by simp)]; exact k 1 _ h.c1
  · rw [World.frozen?_setCell]; exact (hb.frozen (Nat.lt_succ_self g)).trans h.f2

set_option maxRecDepth 100000 in
set_option maxHeartbeats 2000000 in
theorem refPart_any (L S : Int) (v v2 : Value) (es : List Edge) (st : List Int) (w : World) (hl : Sl 3 w v es.length (ecells es)) (hs : Sl 1 w v2 st.length (ints st)) (hn : es.length ≤ 1024) :
    Calls Try.prog 88 #[.agg #[.int .i64 L, .int .i64 S, v], v2] w fun e w' => ∃ u, e = .returned (.agg #[.int .i64 L, .int .i64 (st.length : Int), u]) ∧ w'.ownsRow w.heap.size 64 3 u (partE st es).length (ecells (partE st es)) ∧ Below w.heap.size w w' := by
  obtain ⟨ao, cap, rfl, _, hc1, hm1, _⟩ := id hl
  obtain ⟨ao2, cap2, rfl, _, hc2, hm2, _⟩ := id hs
  have HL := hid hl
  have HS := hid hs
  clear hl hs
  go_enter Try.func88, Try.ntmps88
  go_upto_region 2 with fail
  obtain ⟨w0, hw0⟩ : ∃ w0, (w.alloc (.cells #[.int .i64 L, .int .i64 S, .slice ao es.length cap] 55)).alloc (.cells #[.int .i64 0, .int .i64 0, .slice none 0 0] 55) = w0 := ⟨_, rfl⟩
  have hsz : w.heap.size + 1 + 1 = w0.heap.size := by rw [← hw0]; simp
  have hb0 : Below w.heap.size w w0 := by rw [← hw0]; exact ((Below.refl _ _).alloc (Nat.le_refl _) _).alloc (by simp) _
  have c2 : w0.cell? ⟨w.heap.size, 2, none⟩ = some (.slice ao es.length cap) := by rw [← hw0]; simp
  have r0 : w0.cell? ⟨w.heap.size + 1, 0, none⟩ = some (.int .i64 0) := by rw [← hw0]; simp
  have r1 : w0.cell? ⟨w.heap.size + 1, 1, none⟩ = some (.int .i64 0) := by rw [← hw0]; simp
  have r2 : w0.cell? ⟨w.heap.size + 1, 2, none⟩ = some (.slice none 0 0) := by rw [← hw0]; simp
  have rf : ∀ j, w0.frozen? ⟨w.heap.size + 1, j, none⟩ = false := by
    intro j
    rw [← hw0, show (⟨w.heap.size + 1, j, none⟩ : Addr) = ⟨(w.alloc (.cells #[.int .i64 L, .int .i64 S, .slice ao es.length cap] 55)).heap.size, j, none⟩ by rw [World.size_alloc]]
    exact frozen_laid (Below.refl _ _) j
  have HR := hid (And.intro r0 (And.intro r1 (And.intro r2 rf)))
  have HC2 := hid c2
  have HB0 := hid hb0
  have HL0 := hid (HL.out.below hb0)
  have HS0 := hid (HS.out.below hb0)
  rw [hw0, hsz]
  clear hw0 hb0 c2 r0 r1 r2 rf HL HS
  have hO : OutG w0 w0.heap.size L st.length (partE st (es.take 0)) (w0.alloc (.cells #[.int .i64 L, .int .i64 st.length, .slice none 0 0] 55)) := by
    refine ⟨(Below.refl _ _).alloc (Nat.le_refl _) _, Nat.le_refl _, by simp, by simp, by simp, ⟨.slice none 0 0, by simp, World.ownsRow_nil _ _ _ _⟩, frozen_laid (Below.refl _ _) 2⟩
  obtain ⟨w1, hw1⟩ : ∃ w1, w0.alloc (.cells #[.int .i64 L, .int .i64 st.length, .slice none 0 0] 55) = w1 := ⟨_, rfl⟩
  rw [hw1] at hO ⊢
  clear hw1
  go_wp2_with fail
  go_loopw [6] (fun i wr => ∃ k : Nat, k ≤ es.length ∧ i = .int .i64 k ∧ OutG w0 w0.heap.size L st.length (partE st (es.take k)) wr) (fun i _ => es.length - (intOf i).toNat)
  case atStart => exact ⟨0, by omega, rfl, hO⟩
  case round =>
    obtain ⟨k, hk, rfl, hO⟩ := hrel
    have HO := hid hO
    have d2 := keeps hO.bel HC2.out
    clear hO
    by_cases hlt : k < es.length
    · obtain ⟨x, hx⟩ := some_of_lt hlt
      obtain ⟨b, o, rfl, e0, e1, e2⟩ := (HL0.out.below HO.out.bel).edge hx
      have HX := hid hx
      clear hx
      go_upto_region 6 with fail
      obtain ⟨wx, hwx⟩ : ∃ wx, wr.alloc (.cells #[.int .i64 x.f, .int .i64 x.l, .int .i64 x.t] 64) = wx := ⟨_, rfl⟩
      have hbx : Below wr.heap.size wr wx := by rw [← hwx]; exact (Below.refl _ _).alloc (Nat.le_refl _) _
      have g2 := keeps hbx d2
      have x0 : wx.cell? ⟨wr.heap.size, 0, none⟩ = some (.int .i64 x.f) := by rw [← hwx]; simp
      have x1 : wx.cell? ⟨wr.heap.size, 1, none⟩ = some (.int .i64 x.l) := by rw [← hwx]; simp
      have x2 : wx.cell? ⟨wr.heap.size, 2, none⟩ = some (.int .i64 x.t) := by rw [← hwx]; simp
      have HSx := hid ((HS0.out.below HO.out.bel).below hbx)
      have HOx := hid (HO.out.keep hbx)
      rw [hwx]
      clear hwx hbx d2 e0 e1 e2 HO
      have HP := hid (show part1 st x = if 0 ≤ idxOf x.f 0 st ∧ 0 ≤ idxOf x.t 0 st then some ⟨idxOf x.f 0 st, x.l, idxOf x.t 0 st⟩ else none from rfl)
      go_quiet ((go_at_call 103; exact quietS (refIndex_any _ st _ _ (HSx.out.dr ⟨_, rfl⟩))))
      generalize idxOf x.f 0 st = F at *
      generalize idxOf x.t 0 st = T at *
      have HOy := hid (HOx.out.keep (below_drewN (Below.refl _ _) nq))
      by_cases hf : 0 ≤ F
      · by_cases ht : 0 ≤ T
        · have HY := hid (partE_yes HX.out (HP.out.trans (if_pos ⟨hf, ht⟩)))
          have hlen := partE_len st (es.take k)
          rw [List.length_take] at hlen
          obtain ⟨wy, hwy⟩ : ∃ wy, wx.drewN nq = wy := ⟨_, rfl⟩
          have y1 : wy.cell? ⟨wr.heap.size, 1, none⟩ = some (.int .i64 x.l) := by rw [← hwy]; exact x1
          rw [hwy] at HOy ⊢
          clear hwy x0 x1 x2 g2 HOx HSx
          generalize hPk : partE st (es.take k) = Pk at *
          obtain ⟨u, hu, hrow⟩ := HOy.out.row
          have f2 := HOy.out.f2
          have hhi := HOy.out.hi
          go_wp2_with (at_builtin; refine wpList_push _ rfl _ _ 53 rfl (w0.heap.size + 1) 64 (.agg #[.int .i64 0, .int .i64 0, .int .i64 0]) 3 24 Try.underlying53 Try.infoEdge rfl (by decide) _ _ _ rfl hrow #[.int .i64 F, .int .i64 x.l, .int .i64 T] rfl (by simp [Value.oneCell']) rfl (by unfold maxLen; omega) (by omega) (by omega) ?_; intro g3 gc3 w3 hown3 hg3 hb3; have k2 := (hb3.cell (p := ⟨w0.heap.size, 2, none⟩) (Nat.lt_succ_self _)).trans hu; have kf := (hb3.frozen (p := ⟨w0.heap.size, 2, none⟩) (Nat.lt_succ_self _)).trans f2)
          go_roundw
          case rel => exact ⟨k + 1, by omega, by go_num, by rw [HY.out]; exact HOy.out.push hb3 (by rw [ecells_snoc, List.length_append]; exact hown3)⟩
          case measure => simp [intOf]; omega
        · have HN := hid (partE_no HX.out (HP.out.trans (if_neg (fun h => ht h.2))))
          go_wp2
          go_roundw
          case rel => exact ⟨k + 1, by omega, by go_num, by rw [HN.out]; exact HOy.out⟩
          case measure => simp [intOf]; omega
      · have HN := hid (partE_no HX.out (HP.out.trans (if_neg (fun h => hf h.1))))
        go_wp2
        go_roundw
        case rel => exact ⟨k + 1, by omega, by go_num, by rw [HN.out]; exact HOy.out⟩
        case measure => simp [intOf]; omega
    · have e : partE st (es.take k) = partE st es := by rw [take_all (by omega)]
      rw [e] at HO
      obtain ⟨u, hu, hrow⟩ := HO.out.row
      have k0 := HO.out.c0
      have k1 := HO.out.c1
      obtain ⟨r0, r1, r2, rf⟩ := HR.out
      have q0 := keeps HO.out.bel r0
      have q1 := keeps HO.out.bel r1
      have q2 := keeps HO.out.bel r2
      have f0 := keeps_frozen HO.out.bel r0 (rf 0)
      have f1 := keeps_frozen HO.out.bel r1 (rf 1)
      have f2 := keeps_frozen HO.out.bel r2 (rf 2)
      have hne : ¬ w.heap.size + 1 = w0.heap.size := by omega
      have HBw := hid (HB0.out.trans (HO.out.bel.mono HB0.out.size))
      clear r0 r1 r2 rf HR
      obtain ⟨aw, cw, rfl⟩ := own_slice hrow
      go_wp2
      refine bodyPost_ret (v := .agg #[.int .i64 L, .int .i64 (st.length : Int), .slice aw (partE st es).length cw]) ?_ rfl ⟨_, rfl, ?_, ?_⟩
      · simp [results, Try.results88, go_sem, q0, q1, q2]
      · exact own_base (ownsRow_setCell_below (ownsRow_setCell_below (ownsRow_setCell_below hrow (by show w.heap.size + 1 < w0.heap.size + 1; omega) _) (by show w.heap.size + 1 < w0.heap.size + 1; omega) _) (by show w.heap.size + 1 < w0.heap.size + 1; omega) _) (by omega)
      · exact ((HBw.out.setCell (p := ⟨w.heap.size + 1, 0, none⟩) (by show w.heap.size ≤ w.heap.size + 1; omega) _).setCell (p := ⟨w.heap.size + 1, 1, none⟩) (by show w.heap.size ≤ w.heap.size + 1; omega) _).setCell (p := ⟨w.heap.size + 1, 2, none⟩) (by show w.heap.size ≤ w.heap.size + 1; omega) _
end Go.Proofs.Ytppflnkadjddiaa
