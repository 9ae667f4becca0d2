/-
  strip.Graph.
  No condition.
-/
import Derived.Test.YtppflnkadjddiaaRefGr
import Derived.Test.YtppflnkadjddiaaGraphEss
import Derived.Test.YtppflnkadjddiaaMake
namespace Go.Proofs.Ytppflnkadjddiaa
open Go.RowKit Go.Sort
set_option linter.unusedVariables false

/-- What stands while Graph runs: the result's cells, and the table of the blocks. -/
structure SG (w : World) (l : List Int) (g7 : Nat) (wx : World) : Prop where
  res : ResG w wx
  tab : ∀ j, j < 16 → wx.cell? ⟨g7, j, none⟩ = some (.bool (l.contains (j : Int)))
  lo : w.heap.size < g7
  hi : g7 < wx.heap.size
theorem SG.keep {w wx wy : World} {l : List Int} {g7 B : Nat} (h : SG w l g7 wx) (hb : Below B wx wy) (hB : g7 < B) : SG w l g7 wy :=
  ⟨h.res.keep hb (by have := h.lo; omega), fun j hj => (hb.cell (p := ⟨g7, j, none⟩) hB).trans (h.tab j hj), h.lo, Nat.lt_of_lt_of_le h.hi hb.size⟩
theorem SG.on {w wx wy : World} {l : List Int} {g7 : Nat} (h : SG w l g7 wx) (hb : Below wx.heap.size wx wy) : SG w l g7 wy := h.keep hb h.hi
theorem SG.start {w w1 : World} {l : List Int} {c : Array Value} {e : TypeId} (hb : Below (w.heap.size + 1) (w.alloc (.cells #[.int .i64 0, .int .i64 0, .slice none 0 0] 55)) w1)
    (ht : (w1.alloc (.cells c e)).there w1.heap.size 0 (tabL l).toArray.size) : SG w l w1.heap.size ((w1.alloc (.cells c e)).setCells w1.heap.size 0 (tabL l)) := by
  have hs := hb.size
  rw [World.size_alloc] at hs
  have h1 : Below (w.heap.size + 1) w1 ((w1.alloc (.cells c e)).setCells w1.heap.size 0 (tabL l)) := below_setCells ((Below.refl _ _).alloc hs _) hs _ _
  have ht' : (w1.alloc (.cells c e)).there w1.heap.size 0 (tabL l).length := by rw [tabA_size] at ht; rw [tabL_len]; exact ht
  refine ⟨((ResG.start w).keep hb (Nat.le_refl _)).keep h1 (Nat.le_refl _), ?_, by omega, ?_⟩
  · intro j hj
    have := World.rangeAt_setCells_same _ _ _ _ ht' j _ (tabL_get l hj)
    rwa [Nat.zero_add] at this
  · have h2 : Below (w.heap.size + 1) (w1.alloc (.cells c e)) ((w1.alloc (.cells c e)).setCells w1.heap.size 0 (tabL l)) := below_setCells (Below.refl _ _) hs _ _
    have := h2.size
    rw [World.size_alloc] at this
    omega
/-- Behind Make: its graph lies in block g. -/
structure MG (w : World) (N : Nat) (es : List Edge) (g : Nat) (u : Value) (wx : World) : Prop where
  res : ResG w wx
  c0 : wx.cell? ⟨g, 0, none⟩ = some (.int .i64 (N : Int))
  c1 : wx.cell? ⟨g, 1, none⟩ = some (.int .i64 (N : Int))
  c2 : wx.cell? ⟨g, 2, none⟩ = some u
  sl : Sl 3 wx u es.length (ecells es)
theorem zg_keep {W w2 : World} (hb : Below (W.alloc (.cells #[.int .i64 0, .int .i64 0, .slice none 0 0] 55)).heap.size (W.alloc (.cells #[.int .i64 0, .int .i64 0, .slice none 0 0] 55)) w2) :
    w2.cell? ⟨W.heap.size, 0, none⟩ = some (.int .i64 0) ∧ w2.cell? ⟨W.heap.size, 1, none⟩ = some (.int .i64 0) ∧ w2.cell? ⟨W.heap.size, 2, none⟩ = some (.slice none 0 0) ∧ w2.frozen? ⟨W.heap.size, 0, none⟩ = false ∧ w2.frozen? ⟨W.heap.size, 1, none⟩ = false ∧ w2.frozen? ⟨W.heap.size, 2, none⟩ = false := by
  have r := ResG.start W
  exact ⟨keeps hb r.r0, keeps hb r.r1, keeps hb r.r2, keeps_frozen hb r.r0 (r.rf 0), keeps_frozen hb r.r1 (r.rf 1), keeps_frozen hb r.r2 (r.rf 2)⟩
theorem zg_drew {W w2 : World} (hb : Below (W.drew.alloc (.cells #[.int .i64 0, .int .i64 0, .slice none 0 0] 55)).heap.size (W.drew.alloc (.cells #[.int .i64 0, .int .i64 0, .slice none 0 0] 55)) w2) :
    w2.cell? ⟨W.heap.size, 0, none⟩ = some (.int .i64 0) ∧ w2.cell? ⟨W.heap.size, 1, none⟩ = some (.int .i64 0) ∧ w2.cell? ⟨W.heap.size, 2, none⟩ = some (.slice none 0 0) ∧ w2.frozen? ⟨W.heap.size, 0, none⟩ = false ∧ w2.frozen? ⟨W.heap.size, 1, none⟩ = false ∧ w2.frozen? ⟨W.heap.size, 2, none⟩ = false := zg_keep (W := W.drew) hb
theorem MG.after {w W w2 : World} {N : Nat} {es : List Edge} {u : Value} (h : ResG w W.drew) (hb : Below W.drew.heap.size W.drew w2) (ho : w2.ownsRow W.drew.heap.size 64 3 u es.length (ecells es)) :
    MG w N es w2.heap.size u (w2.alloc (.cells #[.int .i64 (N : Int), .int .i64 (N : Int), u] 55)) := by
  have hb2 : Below w2.heap.size w2 (w2.alloc (.cells #[.int .i64 (N : Int), .int .i64 (N : Int), u] 55)) := (Below.refl _ _).alloc (Nat.le_refl _) _
  exact ⟨(h.on hb).on hb2, by simp, by simp, by simp, (Sl.of_owns ho).below hb2⟩
theorem MG.before {w W w2 : World} {N : Nat} {es : List Edge} {u : Value} (h : ResG w W.drew) (hb : Below (W.drew.alloc (.cells #[.int .i64 0, .int .i64 0, .slice none 0 0] 55)).heap.size (W.drew.alloc (.cells #[.int .i64 0, .int .i64 0, .slice none 0 0] 55)) w2)
    (ho : w2.ownsRow (W.drew.alloc (.cells #[.int .i64 0, .int .i64 0, .slice none 0 0] 55)).heap.size 64 3 u es.length (ecells es)) :
    MG w N es W.heap.size u (((w2.setCell ⟨W.heap.size, 0, none⟩ (.int .i64 (N : Int))).setCell ⟨W.heap.size, 1, none⟩ (.int .i64 (N : Int))).setCell ⟨W.heap.size, 2, none⟩ u) := by
  obtain ⟨q0, q1, q2, _, _, _⟩ := zg_drew hb
  have hlo : w.heap.size < W.heap.size := h.lo
  have hsz : (W.drew.alloc (.cells #[.int .i64 0, .int .i64 0, .slice none 0 0] 55)).heap.size = W.heap.size + 1 := by simp
  rw [hsz] at ho
  have hr2 : ResG w w2 := (h.keep (B := W.drew.heap.size) ((Below.refl _ _).alloc (Nat.le_refl _) _) hlo).on hb
  have hb3 : Below W.heap.size w2 (((w2.setCell ⟨W.heap.size, 0, none⟩ (.int .i64 (N : Int))).setCell ⟨W.heap.size, 1, none⟩ (.int .i64 (N : Int))).setCell ⟨W.heap.size, 2, none⟩ u) := (((Below.refl _ _).setCell (p := ⟨W.heap.size, 0, none⟩) (Nat.le_refl _) _).setCell (p := ⟨W.heap.size, 1, none⟩) (Nat.le_refl _) _).setCell (p := ⟨W.heap.size, 2, none⟩) (Nat.le_refl _) _
  refine ⟨hr2.keep hb3 hlo, ?_, ?_, ?_, Sl.of_owns (set_below ho (Nat.lt_succ_self _) _ _ _)⟩
  · rw [World.cell?_setCell_other _ _ _ _ (by simp), World.cell?_setCell_other _ _ _ _ (by simp)]; exact World.cell?_setCell_same _ _ _ q0
  · rw [World.cell?_setCell_other _ _ _ _ (by simp)]; exact World.cell?_setCell_same _ _ _ (by rw [World.cell?_setCell_other _ _ _ _ (by simp)]; exact q1)
  · exact World.cell?_setCell_same _ _ _ (by rw [World.cell?_setCell_other _ _ _ _ (by simp), World.cell?_setCell_other _ _ _ _ (by simp)]; exact q2)
def LP (w : World) (h : Int) (l : List Int) (g7 n c : Nat) (gk : Nat) (u i : Value) (wr : World) : Prop :=
  ∃ e : Nat, gk + e = n ∧ i = .int .i64 e ∧ wr.ownsRow (g7 + 1) 64 3 u (gE h l n (c * n + e)).length (ecells (gE h l n (c * n + e))) ∧ SG w l g7 wr
def LQ (w : World) (h : Int) (l : List Int) (g7 n : Nat) (gk : Nat) (u i : Value) (wr : World) : Prop :=
  ∃ c : Nat, gk + c = n ∧ i = .int .i64 c ∧ wr.ownsRow (g7 + 1) 64 3 u (gE h l n (c * n + 0)).length (ecells (gE h l n (c * n + 0))) ∧ SG w l g7 wr

set_option maxRecDepth 100000 in
set_option maxHeartbeats 8000000 in
theorem stripGr_any (h : Int) (v : Value) (l : List Int) (w : World) (hl : Sl 1 w v l.length (ints l)) :
    Calls Try.prog 29 #[.int .i64 h, v] w (GraphPost h l w) := by
  have hlw := check_any h l v (w.alloc (.cells #[.int .i64 0, .int .i64 0, .slice none 0 0] 55)) (hl.below ((Below.refl _ _).alloc (Nat.le_refl _) _))
  have HR0 := hid (ResG.start w)
  by_cases hc : chk h l = 0
  · have htb := table_any l v (w.alloc (.cells #[.int .i64 0, .int .i64 0, .slice none 0 0] 55)) (hl.below ((Below.refl _ _).alloc (Nat.le_refl _) _)) (chk_range hc).2
    have HL := hid hl
    clear hl
    obtain ⟨g1, g2, g3⟩ := gG_good hc
    obtain ⟨⟨h1, h4⟩, _⟩ := chk_range hc
    obtain ⟨hsw, hs2, hs16⟩ := side_wrap h h1 h4
    obtain ⟨N, hNs⟩ : ∃ N : Nat, side h = (N : Int) := ⟨(side h).toNat, by omega⟩
    have hE : strE h l = gE h l N (N * N) := by rw [strE, hNs]; rfl
    have hS : strS h l = ess (gE h l N (N * N)) (upTo N) := by rw [strS, hE, hNs]; rfl
    have HNs := hid hNs
    rw [hNs] at hsw hs2 hs16 g1
    rw [hS] at g2
    rw [hS, hE] at g3
    rw [hc] at hlw
    have HG := hid (And.intro hc (And.intro g1 (And.intro g2 g3)))
    have HFine := hid (gE_fine h l (n := N) (by omega) (by omega))
    have HPairs := hid (gE_pairs h l N (N * N))
    have HLen := hid (gE_len h l N)
    clear hE hS hNs hc g1 g2 g3
    go_enter Try.func29, Try.ntmps29
    go_upto_region 4 with (go_at_call 32; refine hlw.mono ?_; rintro e w' ⟨rfl, rfl⟩)
    clear hlw
    go_cut [7] (fun u7 wx => ∃ g7, u7 = .pointer (some ⟨g7, 0, none⟩) ∧ SG w l g7 wx)
    case first =>
      have HI := hid (show (Try.prog.info? 76).map (·.size) = some (tabL l).toArray.size by rw [tabA_size]; kernel_rfl)
      have HT := hid htb
      clear htb
      go_wp2_with (first
        | (go_at_call 44; refine HT.out.mono ?_; rintro e w1 ⟨rfl, hb⟩; rw [World.size_alloc] at hb; have hth := fun c => there_new w1 76 c (tabA_size l))
        | (refine wpList_store_mid rfl 76 _ _ rfl w1.heap.size 0 (tabL l).toArray rfl rfl (hth _ rfl) HI.out (tabL_one l) ?_))
      go_meet
      exact ⟨w1.heap.size, rfl, SG.start hb (hth _ rfl)⟩
    case rest =>
      obtain ⟨g7, rfl, hC⟩ := hcut
      clear htb
      have HC := hid hC
      clear hC HR0
      have h7 := HC.out.hi
      go_upto_region 7 with fail
      rw [hsw]
      go_loopg [8, 26] N (fun gk u i wr => LQ w h l g7 N gk u i wr)
      case atStart => exact ⟨0, by omega, rfl, by rw [Nat.zero_mul, Nat.add_zero, gE_zero]; exact World.ownsRow_nil _ _ _ _, HC.out⟩
      case round =>
        obtain ⟨c, hcn, rfl, hown, hR⟩ := hrel
        have HOw := hid hown
        have HRo := hid hR
        clear hown hR HC h7
        by_cases hcN : c < N
        · have HNx := hid (gE_next h l N c)
          go_upto_region 10 with fail
          rw [hsw]
          obtain ⟨wo, rfl⟩ : ∃ wo : World, wo = wr := ⟨_, rfl⟩
          go_loopg [8, 31] N (fun gk u i wr => LP w h l g7 N c gk u i wr)
          case atStart => exact ⟨0, by omega, rfl, HOw.out, HRo.out⟩
          case round =>
            obtain ⟨e, hen, rfl, hown, hR⟩ := hrel
            have HRi := hid hR
            have HOi := hid hown
            clear hR hown HOw HRo
            by_cases heN : e < N
            · have hlt := lt_mul hcN heN (by omega)
              have hlen := HLen.out (c * N + e)
              have hbs : Calls Try.prog 45 _ _ (fun e' w' => e' = .returned (.bool (okP h l c e)) ∧ Below wr.heap.size wr w') := beside_any g7 (fun j => l.contains (j : Int)) h c e wr h1 h4 (by omega) (by omega) (by omega) (by omega) (blks_range h c e (by omega) (by omega) (fun h' => by subst h'; have := HNs.out; simp [side] at this; omega) (fun h' => by subst h'; have := HNs.out; simp [side] at this; omega)) HRi.out.hi HRi.out.tab
              have hlo := HRi.out.hi
              cases hP : okP h l c e
              · have HA := hid (gE_no heN hP)
                rw [hP] at hbs
                have HBs := hid hbs
                clear hP hbs
                go_wp2_with (go_at_call 45; refine HBs.out.mono ?_; rintro e' w1 ⟨rfl, hb⟩)
                have HO2 := hid (own_below HOi.out hb)
                have HR2 := hid (HRi.out.on hb)
                clear hb
                go_roundg (N - (e + 1))
                case rel => exact ⟨e + 1, by omega, by go_num, by rw [HA.out]; exact HO2.out, HR2.out⟩
                case measure => omega
              · have HA := hid (gE_yes heN hP)
                rw [hP] at hbs
                have HBs := hid hbs
                have hown := HOi.out
                clear hP hbs HOi
                generalize gE h l N (c * N + e) = es at *
                go_upto_region 13 with (go_at_call 45; refine HBs.out.mono ?_; rintro e' w1 ⟨rfl, hb⟩)
                have hown1 := own_below hown hb
                have HR2 := hid (HRi.out.on hb)
                have hlo1 := HR2.out.hi
                clear hb hown
                go_wp2_with (at_builtin; refine wpList_push _ rfl _ _ 53 rfl (g7 + 1) 64 (.agg #[.int .i64 0, .int .i64 0, .int .i64 0]) 3 24 Try.underlying53 Try.infoEdge rfl (by decide) _ _ _ rfl hown1 #[.int .i64 (c : Int), .int .i64 (e : Int), .int .i64 (e : Int)] rfl (by simp [Value.oneCell']) rfl (by unfold maxLen; omega) (by omega) (by omega) ?_; intro g3 gc3 w3 hown3 hg3 hb3)
                have HR3 := hid (HR2.out.keep hb3 (Nat.lt_succ_self _))
                clear hg3 hown1
                go_roundg (N - (e + 1))
                case rel => exact ⟨e + 1, by omega, by go_num, by rw [HA.out, ecells_snoc, List.length_append]; exact hown3, HR3.out⟩
                case measure => omega
            · obtain rfl : N = e := by omega
              go_wp2
              go_roundg (N - (c + 1))
              case rel => exact ⟨c + 1, by omega, by go_num, by rw [← HNx.out]; exact HOi.out, HRi.out⟩
              case measure => omega
        · obtain rfl : N = c := by omega
          rw [Nat.add_zero] at HOw
          have hln := HLen.out (N * N)
          have hnn : N * N ≤ 16 * 16 := Nat.mul_le_mul (by omega) (by omega)
          clear hcn hcN HLen
          generalize gE h l N (N * N) = es at *
          have HM := hid (fun W h => make_any (g7 + 1) (N : Int) (N : Int) u8 es W HFine.out HPairs.out h)
          have HOd := hid (show wr.drew.ownsRow (g7 + 1) 64 3 u8 es.length (ecells es) from own_drewN HOw.out 1)
          have HRd := hid (show ResG w wr.drew from HRo.out.res.on (below_drewN (Below.refl _ _) 1))
          have hsw2 : IntKind.i64.wrap (2 ^ h.toNat) = (N : Int) := by rw [show (2 : Int) ^ h.toNat = side h from rfl, HNs.out]; exact IntWalk.i64_in _ (by omega)
          have hh0 : 0 ≤ h := by omega
          have HMa := hid (HM.out (wr.drew.alloc (.cells #[.int .i64 0, .int .i64 0, .slice none 0 0] 55)) (HOd.out.alloc _))
          clear HPairs hln hnn HRo HOw
          go_upto_region 16 with fail
          go_cut [11, 12] (fun u11 u12 wx => ∃ g u, u11 = .pointer (some ⟨g, 0, none⟩) ∧ u12 = .int .i64 0 ∧ MG w N es g u wx)
          case first =>
            go_region_with (first
              | (go_at_call 53; refine (HMa.out).mono ?_; rintro e w2 ⟨u, rfl, hO2, hb2⟩; obtain ⟨a2, p2, rfl⟩ := own_slice hO2; have HO2 := hid hO2; have HB2 := hid hb2; clear hO2; obtain ⟨q0, q1, q2, f0, f1, f2⟩ := zg_drew hb2)
              | (go_at_call 53; refine (HM.out _ HOd.out).mono ?_; rintro e w2 ⟨u, rfl, hO2, hb2⟩; obtain ⟨a2, p2, rfl⟩ := own_slice hO2; have HO2 := hid hO2; have HB2 := hid hb2; clear hO2))
            all_goals
              go_wp2_with fail
              go_meet
              first
                | exact ⟨_, _, rfl, rfl, MG.after HRd.out HB2.out HO2.out⟩
                | exact ⟨_, _, rfl, rfl, MG.before HRd.out HB2.out HO2.out⟩
          case rest =>
            obtain ⟨g, u, rfl, rfl, hMG⟩ := hcut
            obtain ⟨hres, m0, m1, m2, hsl⟩ := hMG
            obtain ⟨a3, p3, rfl, _⟩ := id hsl
            have HRe := hid hres
            have HSl := hid hsl
            clear hres hsl HM HOd HRd HMa
            go_wp2_with (go_at_call 54; refine (graphEss_any (N : Int) (N : Int) _ es _ HFine.out (by omega) HSl.out).mono ?_; rintro e w3 ⟨u3, v3, rfl, ho, hb3⟩; rw [Int.toNat_natCast]; rw [Int.toNat_natCast] at ho; obtain ⟨ae, ce, rfl⟩ := own_slice ho; have HRf := hid (HRe.out.on hb3); obtain ⟨_, r0, r1, r2, rf, hlo3⟩ := HRf.out; have f0 := rf 0; have f1 := rf 1; have f2 := rf 2; clear rf)
            obtain ⟨q0, q1, q2⟩ := HRf.out.full (.int .i64 (N : Int)) (.int .i64 ((ess es (upTo N)).length : Int)) (.slice ae (partE (ess es (upTo N)) es).length ce) (.cells #[.int .i64 (N : Int), .int .i64 ((ess es (upTo N)).length : Int), .slice ae (partE (ess es (upTo N)) es).length ce] 55)
            have hSt := HRf.out.store (.int .i64 (N : Int)) (.int .i64 ((ess es (upTo N)).length : Int)) (.slice ae (partE (ess es (upTo N)) es).length ce)
            have hSf := (Sl.of_owns (set_below ho HRe.out.lo (.int .i64 (N : Int)) (.int .i64 ((ess es (upTo N)).length : Int)) (.slice ae (partE (ess es (upTo N)) es).length ce))).below ((Below.refl _ _).alloc (Nat.le_refl _) (.cells #[.int .i64 (N : Int), .int .i64 ((ess es (upTo N)).length : Int), .slice ae (partE (ess es (upTo N)) es).length ce] 55))
            refine bodyPost_ret (v := .tuple #[.agg #[.int .i64 (N : Int), .int .i64 ((ess es (upTo N)).length : Int), .slice ae (partE (ess es (upTo N)) es).length ce], .int .i64 0]) ?_ rfl ⟨.slice ae (partE (ess es (upTo N)) es).length ce, by rw [HG.out.1, HG.out.2.1, HG.out.2.2.1], by rw [HG.out.2.2.2]; exact hSf, hSt.alloc hSt.size _⟩
            simp only [results, Try.results29]
            simp [go_sem, q0, q1, q2]
  · obtain ⟨g1, g2, g3⟩ := gG_bad hc
    have HG := hid (And.intro g1 (And.intro g2 g3))
    have hcb : ((chk h l) != 0) = true := by simp [hc]
    clear g1 g2 g3 hc hl
    unfold GraphPost
    generalize chk h l = C at *
    go_enter Try.func29, Try.ntmps29
    go_upto_region 2 with (go_at_call 32; refine hlw.mono ?_; rintro e w' ⟨rfl, rfl⟩)
    clear hlw
    go_wp2
    refine bodyPost_ret (v := .tuple #[.agg #[.int .i64 0, .int .i64 0, .slice none 0 0], .int .i64 C]) ?_ rfl ⟨.slice none 0 0, by rw [HG.out.1, HG.out.2.1], by rw [HG.out.2.2]; exact Sl.nil _ _, ?_⟩
    · simp [results, Try.results29, go_sem]
    · exact HR0.out.bel
end Go.Proofs.Ytppflnkadjddiaa
