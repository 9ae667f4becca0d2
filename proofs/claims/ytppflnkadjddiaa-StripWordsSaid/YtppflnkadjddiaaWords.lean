/-
  The walk of StripWords: it returns true, and writes nothing that was there.
  No condition beyond what the arguments' types say.
-/
import Derived.Test.YtppflnkadjddiaaStripGr
import Derived.Test.YtppflnkadjddiaaWordsLaw
import Derived.Test.YtppflnkadjddiaaOut
import Derived.Test.YtppflnkadjddiaaNeigh
namespace Go.Proofs.Ytppflnkadjddiaa
open Go.RowKit Go.Sort
set_option linter.unusedVariables false

/-- The graph's cells, in the world where the loops begin. -/
structure WG (w : World) (g : Nat) (N S : Int) (ao : Option Addr) (cap : Nat) (G : List Edge) (W : World) : Prop where
  bel : RowKit.Below w.heap.size w W
  c0 : W.cell? ⟨g, 0, none⟩ = some (.int .i64 N)
  c1 : W.cell? ⟨g, 1, none⟩ = some (.int .i64 S)
  c2 : W.cell? ⟨g, 2, none⟩ = some (.slice ao G.length cap)
  sl : Sl 3 W (.slice ao G.length cap) G.length (ecells G)
theorem WG.keep {w W W' : World} {g : Nat} {N S : Int} {ao : Option Addr} {cap : Nat} {G : List Edge} (h : WG w g N S ao cap G W) (hb : RowKit.Below W.heap.size W W') : WG w g N S ao cap G W' :=
  ⟨bel_step h.bel hb, keeps hb h.c0, keeps hb h.c1, keeps hb h.c2, h.sl.below hb⟩
theorem partE_none (es : List Edge) : partE [] es = [] := by
  rw [partE, List.filterMap_eq_nil_iff]
  intro x _
  rw [part1, if_neg (by simp [idxOf])]
theorem outI_len (es : List Edge) (s : Int) : (outI es s).length = (leavs es s es.length).length := idxs_len _
theorem outI_le (es : List Edge) (s : Int) : (outI es s).length ≤ es.length := by
  rw [outI_len]
  have := List.length_filterMap_le (leav1 es s) (List.range es.length)
  simpa [leavs] using this
theorem outI_get {es : List Edge} {s : Int} {j : Nat} (hj : j < (outI es s).length) : ∃ (k : Nat) (y : Edge), (outI es s)[j]? = some (k : Int) ∧ es[k]? = some y ∧ y.f = s := by
  rw [outI_len] at hj
  obtain ⟨x, hx⟩ := some_of_lt hj
  obtain ⟨h1, h2⟩ := leavs_get hx
  exact ⟨x.1, x.2, by rw [outI, idxs, List.getElem?_map, hx]; rfl, h1, h2⟩

set_option maxRecDepth 100000 in
set_option maxHeartbeats 8000000 in
theorem stripWords_any (a s : Int) (v : Value) (l : List Int) (w : World) (ha0 : 0 ≤ a) (ha1 : a ≤ 255) (s0 : 0 ≤ s) (s1 : s ≤ 65535) (hl : Sl 1 w v l.length (l.map (.int .u8))) (hb : ∀ x ∈ l, 0 ≤ x ∧ x ≤ 255) :
    Calls Try.prog 9 #[.int .u8 a, .int .u16 s, v] w fun e w' => e = .returned (.bool true) ∧ Below w.heap.size w w' := by
  have HS := hid hl
  obtain ⟨ao, cap, rfl, _, hc1, hm1, hs⟩ := hl
  clear hs
  have HB := hid hb
  clear hb
  obtain ⟨h, hh⟩ : ∃ h, a % 4 + 1 = h := ⟨_, rfl⟩
  have h1 : 1 ≤ h := by omega
  have h4 : h ≤ 4 := by omega
  have hck := chk_blkOf h s h1 h4
  have HLB := hid (lawBlocks_any h s)
  obtain ⟨hsw, hs2, hs16⟩ := side_wrap h h1 h4
  obtain ⟨N, hNs⟩ : ∃ N : Nat, side h = (N : Int) := ⟨(side h).toNat, by omega⟩
  have hsw2 : IntKind.i64.wrap (2 ^ h.toNat) = (N : Int) := by rw [show (2 : Int) ^ h.toNat = side h from rfl, hNs]; exact IntWalk.i64_in _ (by omega)
  rw [hNs] at hsw hs2 hs16
  have HNs := hid hNs
  generalize blkOf h s = B at *
  obtain ⟨g1, g2, g3⟩ := gG_good hck
  have hSt := strS_len h B
  rw [hNs, Int.toNat_natCast] at hSt
  have HStates := hid (show ∀ p : Nat, p < (strS h B).length → 0 < (outI (partE (strS h B) (strE h B)) p).length from fun p hp => by rw [outI_len]; exact leaves_some hp)
  have HPath := hid (fun C p y (hP : Path h B C p) hy hf => hP.step (y := y) hy hf)
  have HStart := hid (fun hp => Path.start (h := h) (l := B) hp)
  have HSame := hid (fun y z hy hz he => same_to (h := h) (l := B) (y := y) (z := z) hy hz he)
  have hfin0 : GFine N N (strE h B) := by
    have := gE_fine h B (n := N) (by omega) (by omega)
    rw [strE, hNs, Int.toNat_natCast]; exact this
  have hpr0 : (strE h B).Pairwise (fun x y => cmpE x y = -1) := gE_pairs _ _ _ _
  have HFine := hid (partE_fine hfin0 (strS_asc h B) hpr0 (by omega))
  have HNil := hid (fun (h0 : (strS h B).length = 0) => show (partE (strS h B) (strE h B)).length = 0 by rw [List.length_eq_zero_iff.1 h0, partE_none]; rfl)
  rw [hNs] at g1
  have HP1 := hid (fun C p (hP : Path h B C p) => And.intro hP.p0 (And.intro hP.p1 (And.intro hP.ok hP.col)))
  have HQ := hid (And.intro hck (And.intro g1 (And.intro g2 g3)))
  clear hck g1 g2 g3 hNs hfin0 hpr0
  generalize hstl : (strS h B).length = sn at *
  generalize hG : partE (strS h B) (strE h B) = G at *
  clear hstl hG
  go_enter Try.func9, Try.ntmps9
  go_upto_region 3 with (go_at_call 24; refine (HLB.out _ ?_ ?_).mono ?_; (omega); (omega); rintro e w1 ⟨vb, rfl, hob, hb1⟩; have hSb := Sl.of_owns hob; clear hob)
  have HSb := hid hSb
  have HB1 := hid hb1
  clear hSb hb1 HLB
  go_upto_region 4 with (go_at_call 29; refine (stripGr_any _ _ B _ HSb.out).mono ?_; rintro e w2 ⟨u, rfl, hS2, hb2⟩; rw [HQ.out.1, HQ.out.2.1, HQ.out.2.2.1]; rw [HQ.out.2.2.2] at hS2; obtain ⟨a2, p2, rfl, _⟩ := id hS2)
  have hbx : Below w2.heap.size w2 (w2.alloc (.cells #[.int .i64 (N : Int), .int .i64 (sn : Int), .slice a2 G.length p2] 55)) := (Below.refl _ _).alloc (Nat.le_refl _) _
  have hWG : WG w w2.heap.size (N : Int) (sn : Int) a2 p2 G (w2.alloc (.cells #[.int .i64 (N : Int), .int .i64 (sn : Int), .slice a2 G.length p2] 55)) :=
    ⟨bel_step (bel_step HB1.out hb2) hbx, by simp, by simp, by simp, hS2.below hbx⟩
  have HSb2 := hid ((HSb.out.below hb2).below hbx)
  have HWG := hid hWG
  have HCk := hid (fun W h => gcheck_any (N : Int) (sn : Int) (.slice a2 G.length p2) G W HFine.out h)
  clear hbx hWG hS2 hb2 HSb HB1
  generalize w2.alloc (.cells #[.int .i64 (N : Int), .int .i64 (sn : Int), .slice a2 G.length p2] 55) = W at *
  generalize w2.heap.size = g9 at *
  have c0 := HWG.out.c0
  have c1 := HWG.out.c1
  have c2 := HWG.out.c2
  have hgt : decide (N < sn) = false := by simp; omega
  go_region_held3 (fun w' => w'.cell? ⟨g9, 0, none⟩ = some (.int .i64 (N : Int)) ∧ w'.cell? ⟨g9, 1, none⟩ = some (.int .i64 (sn : Int)) ∧ w'.cell? ⟨g9, 2, none⟩ = some (.slice a2 G.length p2))
    (first | exact ⟨c0, c1, c2⟩ | go_keep)
    (first
      | (go_at_call 36; refine (HCk.out _ ?_).mono ?_; (exact HWG.out.sl.dr ⟨1, rfl⟩); rintro e w5 ⟨rfl, hb5⟩; have c0 := keeps hb5 c0; have c1 := keeps hb5 c1; have c2 := keeps hb5 c2))
  have HW5 := hid (HWG.out.keep (bel_step ((Below.refl W.heap.size W).drew) hb5))
  have HSb5 := hid (HSb2.out.below (bel_step ((Below.refl W.heap.size W).drew) hb5))
  clear hb5 HWG HSb2 HCk hgt
  by_cases hlen : 12 < l.length
  · go_wp2_with (go_at_call 10; refine (awake_any _).mono ?_; rintro e w6 ⟨rfl, hb6⟩)
    go_ret
    exact ⟨rfl, bel_step HW5.out.bel hb6⟩
  · by_cases hsn : sn = 0
    · have hG0 := HNil.out hsn
      have hz : decide (sn = 0) = true := by simp [hsn]
      have hz2 : decide (G.length = 0) = true := by simp [hG0]
      go_wp2_with (go_at_call 10; refine (awake_any _).mono ?_; rintro e w6 ⟨rfl, hb6⟩)
      go_ret
      exact ⟨rfl, bel_step HW5.out.bel hb6⟩
    · have HSt0 := hid (HStart.out (by omega))
      have hGl := HFine.out.len
      go_upto_region 11 with fail
      clear c0 c1 c2
      go_loopw [11, 12, 87] (fun up uc i wr => ∃ (k : Nat) (p : Int) (C : List Int), k ≤ l.length ∧ i = .int .i64 k ∧ up = .int .i64 p ∧ C.length = k ∧ wr.ownsRow w5.heap.size 3 1 uc C.length (ints C) ∧ Path h B C p ∧ Below w5.heap.size w5 wr) (fun _ _ i _ => l.length - (intOf i).toNat)
      case atStart => exact ⟨0, 0, [], by omega, rfl, rfl, rfl, World.ownsRow_nil _ _ _ _, HSt0.out, Below.refl _ _⟩
      case round =>
        obtain ⟨k, p, C, hk, rfl, rfl, hCk, hown, hP, hbel⟩ := hrel
        have HOw := hid hown
        have HP := hid hP
        obtain ⟨p0, p1, _, _⟩ := HP1.out C p hP
        obtain ⟨pn, rfl⟩ : ∃ pn : Nat, p = (pn : Int) := ⟨p.toNat, by omega⟩
        have HWr := hid (HW5.out.keep hbel)
        have HBel := hid hbel
        have HCk := hid hCk
        have hCl : C.length ≤ 12 := by omega
        clear hown hP hbel hCk
        by_cases hlt : k < l.length
        · obtain ⟨x, hx⟩ := some_of_lt hlt
          obtain ⟨hx0, hx1⟩ := HB.out x (List.mem_of_getElem? hx)
          obtain ⟨b, o, rfl, d0⟩ := (HS.out.below HWr.out.bel).cell (show (l.map (Value.int .u8))[k]? = some (Value.int .u8 x) by rw [List.getElem?_map, hx]; rfl)
          have hpos := HStates.out pn (by omega)
          have hole := outI_le G (pn : Int)
          obtain ⟨j, hj⟩ : ∃ j : Nat, x % ((outI G (pn : Int)).length : Int) = (j : Int) := ⟨(x % ((outI G (pn : Int)).length : Int)).toNat, by rw [Int.toNat_of_nonneg]; exact Int.emod_nonneg _ (by omega)⟩
          have hjl : j < (outI G (pn : Int)).length := by have := Int.emod_lt_of_pos x (show 0 < ((outI G (pn : Int)).length : Int) by omega); omega
          obtain ⟨kk, y, hg, hy, hyf⟩ := outI_get hjl
          have HG := hid hg
          have HY := hid hy
          have HYf := hid hyf
          have hkk := lt_of_some hy
          obtain ⟨be, oe, rfl, _, _, _⟩ := HW5.out.sl.edge hy
          have HKey := hid (fun w7 (hb : Below w5.heap.size w5 w7) => show w7.cell? ⟨g9, 2, none⟩ = some (.slice (some ⟨be, oe, none⟩) G.length p2) ∧ w7.cell? ⟨be, oe + kk * 3, none⟩ = some (.int .i64 (pn : Int)) ∧ w7.cell? ⟨be, oe + kk * 3 + 1, none⟩ = some (.int .i64 y.l) ∧ w7.cell? ⟨be, oe + kk * 3 + 2, none⟩ = some (.int .i64 y.t) by
            obtain ⟨b', o', e, q0, q1, q2⟩ := (HW5.out.keep hb).sl.edge HY.out
            simp only [Option.some.injEq, Addr.mk.injEq, and_true] at e
            obtain ⟨rfl, rfl⟩ := e
            exact ⟨(HW5.out.keep hb).c2, by rw [← HYf.out]; exact q0, q1, q2⟩)
          have c0 := HWr.out.c0
          have c1 := HWr.out.c1
          have c2 := HWr.out.c2
          clear hx hg hy hyf
          have hgl : decide (G.length ≤ kk) = false := by simp; omega
          have hn0 : ¬ (outI G (pn : Int)).length = 0 := by omega
          go_upto_region 14 with (go_at_call 37; refine (out_any (N : Int) (sn : Int) (pn : Int) _ G _ HFine.out (by omega) (by omega) HWr.out.sl).mono ?_; rintro e w6 ⟨uo, rfl, hoo, hb6⟩; obtain ⟨ax, px, rfl⟩ := own_slice hoo)
          obtain ⟨bo, oo, rfl, d1⟩ := (Sl.of_owns hoo).cell (ints_get HG.out)
          have HB6 := hid (HBel.out.trans (hb6.mono HBel.out.size))
          have HO6 := hid (own_below HOw.out hb6)
          have hsz6 := HB6.out.size
          obtain ⟨k2, e0, e1, e2⟩ := HKey.out _ HB6.out
          clear c0 c1 c2 hoo hb6 d0 HOw HBel HG
          generalize (outI G (pn : Int)).length = n1 at *
          have hidx : (kk : Int) < (G.length : Int) := by omega
          go_wp2_with (at_builtin; refine wpList_push _ rfl _ _ 24 rfl w5.heap.size 3 (.int .i64 0) 1 8 Try.underlying24 Try.info3 rfl (by decide) _ _ _ rfl HO6.out #[.int .i64 y.l] rfl (oneCell_int _ _) rfl (by unfold maxLen; omega) (by omega) hsz6 ?_; intro g3 gc3 w7 hown7 hg7 hb7; obtain ⟨k2, e0, e1, e2⟩ := HKey.out _ (HB6.out.trans hb7))
          have HO7 := hid hown7
          have HB7 := hid (HB6.out.trans hb7)
          clear hown7 hg7 hb7 k2 e0 e1 e2
          go_roundw
          case rel => exact ⟨_, _, _, _, _, _, _, _, ⟨k + 1, by omega, by go_num, y.t, rfl, C ++ [y.l], by simp [HCk.out], by rw [ints_snoc, List.length_append]; exact HO7.out, HPath.out C _ y HP.out (List.mem_of_getElem? HY.out) HYf.out, HB7.out⟩, rfl, rfl, rfl, rfl, rfl, rfl, rfl, rfl⟩
          case measure => simp [intOf]; omega
        · have HPa := hid (HP1.out C _ HP.out)
          have HSC := hid (Sl.of_owns HOw.out)
          obtain ⟨ac, pc, rfl⟩ := own_slice HOw.out
          obtain ⟨Wo, hWo⟩ : ∃ Wo : World, Wo = wr := ⟨_, rfl⟩
          rw [← hWo] at HWr HBel HSC HOw ⊢
          clear hWo HOw
          have c2 := HWr.out.c2
          go_upto_region 23 with fail
          clear c2
          go_loopw [150] (fun i wi => ∃ n : Nat, n ≤ G.length ∧ i = .int .i64 n ∧ Below Wo.heap.size Wo wi) (fun i _ => G.length - (intOf i).toNat)
          case atStart => exact ⟨0, by omega, rfl, Below.refl _ _⟩
          case round =>
            obtain ⟨n, hn, rfl, hbel⟩ := hrel
            have HWi := hid (HWr.out.keep hbel)
            have HBi := hid hbel
            clear hbel
            by_cases hln : n < G.length
            · obtain ⟨x, hx⟩ := some_of_lt hln
              obtain ⟨be, oe, rfl, e0, e1, e2⟩ := HWi.out.sl.edge hx
              have c2 := HWi.out.c2
              have HX := hid hx
              clear hx
              go_upto_region 25 with fail
              obtain ⟨wx, hwx⟩ : ∃ wx, wr.alloc (.cells #[.int .i64 x.f, .int .i64 x.l, .int .i64 x.t] 64) = wx := ⟨_, rfl⟩
              have hbx : Below wr.heap.size wr wx := by rw [← hwx]; exact (Below.refl _ _).alloc (Nat.le_refl _) _
              have x1 : wx.cell? ⟨wr.heap.size, 1, none⟩ = some (.int .i64 x.l) := by rw [← hwx]; simp
              have x2 : wx.cell? ⟨wr.heap.size, 2, none⟩ = some (.int .i64 x.t) := by rw [← hwx]; simp
              have HWx := hid (HWi.out.keep hbx)
              have HBx := hid (bel_step HBi.out hbx)
              have HXc := hid (And.intro x1 x2)
              rw [hwx]
              clear hwx hbx e0 e1 e2 c2 x1 x2 HWi HBi
              obtain ⟨gx, hgx⟩ : ∃ gx, gx = wr.heap.size := ⟨_, rfl⟩
              rw [← hgx] at HXc ⊢
              clear hgx
              have c2 := HWx.out.c2
              go_upto_region 26 with fail
              clear c2
              go_loopw [157] (fun i wj => ∃ m : Nat, m ≤ G.length ∧ i = .int .i64 m ∧ Below wx.heap.size wx wj) (fun i _ => G.length - (intOf i).toNat)
              case atStart => exact ⟨0, by omega, rfl, Below.refl _ _⟩
              case round =>
                obtain ⟨m, hm, rfl, hbel⟩ := hrel
                have HBj := hid hbel
                clear hbel
                by_cases hlm : m < G.length
                · obtain ⟨y, hy⟩ := some_of_lt hlm
                  obtain ⟨be', oe', hbe, e0, e1, e2⟩ := (HWx.out.keep HBj.out).sl.edge hy
                  simp only [Option.some.injEq, Addr.mk.injEq, and_true] at hbe
                  obtain ⟨rfl, rfl⟩ := hbe
                  have HS2 := hid (HSame.out x y (List.mem_of_getElem? HX.out) (List.mem_of_getElem? hy))
                  clear hy
                  go_upto_region 28 with fail
                  obtain ⟨wy, hwy⟩ : ∃ wy, wr.alloc (.cells #[.int .i64 y.f, .int .i64 y.l, .int .i64 y.t] 64) = wy := ⟨_, rfl⟩
                  have hby : Below wr.heap.size wr wy := by rw [← hwy]; exact (Below.refl _ _).alloc (Nat.le_refl _) _
                  have y1 : wy.cell? ⟨wr.heap.size, 1, none⟩ = some (.int .i64 y.l) := by rw [← hwy]; simp
                  have y2 : wy.cell? ⟨wr.heap.size, 2, none⟩ = some (.int .i64 y.t) := by rw [← hwy]; simp
                  have z1 := keeps hby (keeps HBj.out HXc.out.1)
                  have z2 := keeps hby (keeps HBj.out HXc.out.2)
                  have HBy := hid (bel_step HBj.out hby)
                  rw [hwy]
                  clear hwy hby e0 e1 e2
                  by_cases ht : x.t = y.t
                  · have b1 : (x.t == y.t) = true := by simp [ht]
                    have b2 : (x.l != y.l) = false := by simp [HS2.out ht]
                    clear ht
                    go_wp2
                    go_roundw
                    case rel => exact ⟨m + 1, by omega, by go_num, HBy.out⟩
                    case measure => simp [intOf]; omega
                  · have b1 : (x.t == y.t) = false := by simp [ht]
                    clear ht
                    go_wp2
                    go_roundw
                    case rel => exact ⟨m + 1, by omega, by go_num, HBy.out⟩
                    case measure => simp [intOf]; omega
                · have HBn := hid (bel_step HBx.out HBj.out)
                  go_wp2
                  go_roundw
                  case rel => exact ⟨n + 1, by omega, by go_num, HBn.out⟩
                  case measure => simp [intOf]; omega
            · obtain ⟨_, _, hok, hcol⟩ := HPa.out
              have HOK := hid hok
              have HCO := hid hcol
              clear hok hcol
              go_upto_region 33 with (go_at_call 12; refine (rowsR h C _ _ h1 h4 (by omega) HCO.out (HSC.out.below HBi.out)).mono ?_; rintro e w8 ⟨v8, rfl, hS8, hb8⟩)
              have HB8 := hid (bel_step HBi.out hb8)
              have hSb8 := HSb5.out.below (bel_step HBel.out HB8.out)
              clear hb8
              go_wp2_with (first
                | (go_at_call 20; refine (validR h C B _ _ _ h1 h4 (by omega) HCO.out HQ.out.1 hSb8 hS8).mono ?_; rintro e w9 ⟨rfl, hb9⟩; rw [HOK.out])
                | (go_at_call 10; refine (awake_any _).mono ?_; rintro e w10 ⟨rfl, hb10⟩))
              go_ret
              exact ⟨rfl, bel_step (bel_step (bel_step HWr.out.bel HB8.out) hb9) hb10⟩
end Go.Proofs.Ytppflnkadjddiaa
