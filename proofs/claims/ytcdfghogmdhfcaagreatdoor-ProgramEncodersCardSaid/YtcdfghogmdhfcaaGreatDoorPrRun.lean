/-
  program.run: what a valid program computes.
  The program is valid, the bits are as many as its inputs.
-/
import Derived.Test.YtcdfghogmdhfcaaGreatDoorPrCheck
namespace Go.Proofs.YtcdfghogmdhfcaaGreatDoor
open Go.RowKit
set_option linter.unusedVariables false

theorem Tryz.infoU8 : (Tryz.prog.info? 5).map (fun i => (i.zero, i.size, i.bytes)) = some (some (.int .u8 0), 1, 1) := by kernel_rfl
def bitN (b : Bool) : Int := if b then 1 else 0
/-- Bits as bytes 0 and 1. -/
def u8s (l : List Bool) : List Value := l.map fun b => .int .u8 (bitN b)
theorem u8s_len (l : List Bool) : (u8s l).length = l.length := by simp [u8s]
theorem u8s_get {l : List Bool} {k : Nat} (h : k < l.length) : (u8s l)[k]? = some (.int .u8 (bitN (l.getD k false))) := by
  simp [u8s, h]
theorem u8s_snoc (l : List Bool) (b : Bool) : u8s (l ++ [b]) = u8s l ++ [.int .u8 (bitN b)] := by simp [u8s]
theorem u8s_one (l : List Bool) : ∀ u ∈ u8s l, u.oneCell' = true := by
  intro u hu
  simp only [u8s, List.mem_map] at hu
  obtain ⟨b, _, rfl⟩ := hu
  rfl
theorem bitN_range (b : Bool) : 0 ≤ bitN b ∧ bitN b ≤ 1 := by cases b <;> decide
/-- What the operations compute. -/
theorem op1_any (x y : Int) (w : World) : Calls Tryz.prog 69 #[.int .u8 x, .int .u8 y] w fun e w' => e = .returned (.int .u8 0) ∧ w = w' := by
  go_enter Tryz.func69, Tryz.ntmps69
  go_wp2
  go_ret
  exact ⟨rfl, rfl⟩
theorem op2_any (x y : Int) (w : World) : Calls Tryz.prog 70 #[.int .u8 x, .int .u8 y] w fun e w' => e = .returned (.int .u8 1) ∧ w = w' := by
  go_enter Tryz.func70, Tryz.ntmps70
  go_wp2
  go_ret
  exact ⟨rfl, rfl⟩
theorem op3_any (x y : Bool) (w : World) : Calls Tryz.prog 71 #[.int .u8 (bitN x), .int .u8 (bitN y)] w fun e w' => e = .returned (.int .u8 (bitN (x && y))) ∧ w = w' := by
  have h : bits .and .u8 (bitN x) (bitN y) = bitN (x && y) := by cases x <;> cases y <;> kernel_rfl
  generalize bitN x = X at *
  generalize bitN y = Y at *
  go_enter Tryz.func71, Tryz.ntmps71
  go_wp2
  go_ret
  exact ⟨rfl, rfl⟩
theorem op4_any (x y : Bool) (w : World) : Calls Tryz.prog 72 #[.int .u8 (bitN x), .int .u8 (bitN y)] w fun e w' => e = .returned (.int .u8 (bitN (x != y))) ∧ w = w' := by
  have h : bits .xor .u8 (bitN x) (bitN y) = bitN (x != y) := by cases x <;> cases y <;> kernel_rfl
  generalize bitN x = X at *
  generalize bitN y = Y at *
  go_enter Tryz.func72, Tryz.ntmps72
  go_wp2
  go_ret
  exact ⟨rfl, rfl⟩
theorem op5_any (x : Bool) (y : Int) (w : World) : Calls Tryz.prog 73 #[.int .u8 (bitN x), .int .u8 y] w fun e w' => e = .returned (.int .u8 (bitN (!x))) ∧ w = w' := by
  have h : bitN (!x) = 1 - bitN x := by cases x <;> rfl
  have hr := bitN_range x
  rw [h]
  generalize bitN x = X at *
  clear h
  obtain ⟨h0, h1⟩ := hr
  go_enter Tryz.func73, Tryz.ntmps73
  go_wp2
  go_ret
  exact ⟨rfl, rfl⟩

set_option maxRecDepth 100000 in
set_option maxHeartbeats 1000000 in
theorem cloneU8_any (v : Value) (l : List Bool) (w : World) (hl : Sl 1 w v l.length (u8s l)) (hn : l.length ≤ 1000000) :
    Calls Tryz.prog 81 #[v] w fun e w' => ∃ v', e = .returned v' ∧ w'.ownsRow w.heap.size 5 1 v' l.length (u8s l) ∧ Below w.heap.size w w' := by
  obtain ⟨ao, cap, rfl, h1, h2, h3, h4⟩ := hl
  have hnil := Lib.run_eql_slice_nil (P := Tryz.prog) w 54 5 ao l.length cap 0 0 Tryz.underlying54
  cases ao with
  | none =>
    have hn0 : l.length = 0 := by
      rcases h4 with h | ⟨b, o, h, _⟩
      · exact h
      · cases h
    have hl0 : l = [] := List.length_eq_zero_iff.1 hn0
    subst hl0
    clear h4 h1 hn0
    rw [Option.isNone_none] at hnil
    simp only [List.length_nil] at hnil ⊢
    go_enter Tryz.func81, Tryz.ntmps81
    go_wp2
    go_ret
    exact ⟨_, rfl, World.ownsRow_nil _ _ _ _, Below.refl _ _⟩
  | some a =>
    rw [Option.isNone_some] at hnil
    have hnews : ∀ j u, (u8s l)[j]? = some u → w.cell? (a.add j) = some u := fun j u hj => by
      rcases h4 with h | ⟨b, o, h, hc⟩
      · have := lt_of_some hj
        rw [u8s_len] at this
        omega
      · cases h
        have e : (⟨b, o, none⟩ : Addr).add j = ⟨b, o + j, none⟩ := by unfold Addr.add; split <;> simp_all
        rw [e]
        exact hc j u hj
    have HN := hid hnews
    clear hnews h4
    obtain ⟨i0, hi, hz0, hz1, hz2⟩ := info_parts Tryz.infoU8
    go_enter Tryz.func81, Tryz.ntmps81
    go_wp2_with (at_builtin; refine wpList_append_own _ rfl _ _ 54 rfl w.heap.size 5 i0 (.int .u8 0) 1 1 Tryz.underlying54 hi hz0 hz1 hz2 rfl (by decide) _ 0 [] rfl (own_empty w 5 1) a l.length cap (u8s l) rfl (by simp [u8s_len]) (fun j u hj => keeps (bel_alloc _ _) (HN.out j u hj)) (u8s_one l) (by unfold maxLen; omega) (by omega) (by simp) ?_; intro v' w1 hown hg _)
    go_ret
    rw [Nat.zero_add, List.nil_append] at hown
    exact ⟨_, rfl, hown, ((Below.refl w.heap.size w).alloc (Nat.le_refl _) _).grown hg (by simp) (fun k hk => ((own_empty w 5 1).lt k hk).1)⟩
theorem opB1 (a b : Bool) : opB 1 a b = false := rfl
theorem opB2 (a b : Bool) : opB 2 a b = true := rfl
theorem bitN_false : bitN false = 0 := rfl
theorem bitN_true : bitN true = 1 := rfl
/-- A bit of a row that the call owns. -/
theorem own_bit {w : World} {base n j : Nat} {ao : Option Addr} {cap : Nat} {l : List Bool} (h : w.ownsRow base 5 1 (.slice ao n cap) n (u8s l)) (hj : j < l.length) :
    ∃ g, ao = some ⟨g, 0, none⟩ ∧ w.cell? ⟨g, j, none⟩ = some (.int .u8 (bitN (l.getD j false))) := by
  rcases h.2 with ⟨h1, h2⟩ | ⟨g, cap', cur, h1, _⟩
  · have := h.1
    rw [u8s_len] at this
    omega
  · simp only [Value.slice.injEq] at h1
    obtain ⟨rfl, _, _⟩ := h1
    refine ⟨g, rfl, ?_⟩
    obtain ⟨b, o, e, hc⟩ := (Sl.of_owns h).cell (u8s_get hj)
    simp only [Option.some.injEq, Addr.mk.injEq, and_true] at e
    obtain ⟨rfl, rfl⟩ := e
    rwa [Nat.zero_add] at hc
set_option maxRecDepth 100000 in
set_option maxHeartbeats 4000000 in
theorem prun_any (n : Int) (vc vo vi : Value) (c : List Ins) (o : List Int) (l : List Bool) (w : World) (hc : Sl 3 w vc c.length (icells c)) (ho : Sl 1 w vo o.length (ints o)) (hl : Sl 1 w vi l.length (u8s l)) (hn : (l.length : Int) = n) (he : progErr n c o = 0) :
    Calls Tryz.prog 44 #[.agg #[.int .i64 n, vc, vo], vi] w fun e w' => ∃ v, e = .returned v ∧ w'.ownsRow w.heap.size 5 1 v o.length (u8s (poutsV l c o)) ∧ Below w.heap.size w w' := by
  have HC := hid hc
  have HO := hid ho
  have HL := hid hl
  have HOps := hid operations_any
  obtain ⟨hn0, hn24, hc6, ho6, hce, hoe⟩ := progErr_zero.1 he
  have HCl := hid (fun X h => cloneU8_any vi l X h (by omega))
  have HCE := hid (pcodeErr_at.1 hce)
  have HOE := hid hoe
  have hl24 : l.length ≤ 24 := by omega
  obtain ⟨ac, cc, rfl, _, hc1, hc2, hc3⟩ := hc
  obtain ⟨ao, co, rfl, _, ho1, ho2, ho3⟩ := ho
  clear hc3 ho3 hl he hce hoe
  go_enter Tryz.func44, Tryz.ntmps44
  go_upto_region 1 with fail
  obtain ⟨w0, hw0⟩ : ∃ w0, w.alloc (.cells #[.int .i64 n, .slice ac c.length cc, .slice ao o.length co] 28) = w0 := ⟨_, rfl⟩
  obtain ⟨hb0, c0, c1, c2⟩ := boxP hw0
  rw [hw0]
  have HB0 := hid hb0
  clear hw0 hb0
  go_upto_region 3 with (first
    | (go_at_call 42; refine (HOps.out _).mono ?_; rintro e w1 ⟨rfl, hb1⟩)
    | (refine wpList_store_ops w1 _ rfl _ _ rfl rfl rfl rfl ?_; intro w2 hOps2 hb2 hlt2; have HB2 := hid (bel_step (bel_step HB0.out hb1) hb2))
    | (go_at_call 81; refine (HCl.out _ (HL.out.below HB2.out)).mono ?_; rintro e w3 ⟨v3, rfl, hown3, hb3⟩))
  have HOp := hid hOps2
  have HG := hid hlt2
  have HB3 := hid hb3
  have HOw := hid hown3
  have c0 := keeps hb2 (keeps hb1 c0)
  have c1 := keeps hb2 (keeps hb1 c1)
  have c2 := keeps hb2 (keeps hb1 c2)
  have HSz := hid HB2.out.size
  have e1 := keeps hb3 c1
  generalize w1.heap.size = g at *
  clear hOps2 hb1 hb2 hb3 hlt2 HB0 HOps hown3
  go_wp2_with fail
  clear e1
  go_loopw [6, 21] (fun vv i wr => ∃ k : Nat, k ≤ c.length ∧ i = .int .i64 k ∧ Below w2.heap.size w2 wr ∧ wr.ownsRow w2.heap.size 5 1 vv (l.length + k) (u8s (pvals l (c.take k)))) (fun _ i _ => c.length - (intOf i).toNat)
  case atStart => exact ⟨0, Nat.zero_le _, rfl, HB3.out, HOw.out⟩
  case round =>
    obtain ⟨k, hk, rfl, hbr, hown⟩ := hrel
    obtain ⟨av, cv, rfl⟩ := own_slice hown
    have HBr := hid hbr
    have HOwn := hid hown
    have d0 := keeps hbr c0
    have d1 := keeps hbr c1
    have d2 := keeps hbr c2
    have HOr := hid (HOp.out.below hbr HG.out)
    have C0 := hid (And.intro c0 (And.intro c1 c2))
    clear c0 c1 c2 hbr hown
    rename World => wm
    by_cases hlt : k < c.length
    · obtain ⟨x, hx⟩ := some_of_lt hlt
      have hv := insErr_zero.1 (HCE.out k x hx)
      have HT := hid (show c.take (k + 1) = c.take k ++ [x] from take_snoc hx)
      have HPv := hid (pvals_snoc l (c.take k) x)
      have HPl := hid (show (pvals l (c.take k)).length = l.length + k by rw [pvals_len, List.length_take]; omega)
      obtain ⟨b, off, rfl, x0, x1, x2⟩ := Sl.ins ((HC.out.below HB2.out).below HBr.out) hx
      clear hx
      obtain ⟨op, a, bb⟩ := x
      go_upto_region 6 with fail
      obtain ⟨wx, hwx⟩ : ∃ wx, wm.alloc (.cells #[.int .i64 op, .int .i64 a, .int .i64 bb] 47) = wx := ⟨_, rfl⟩
      obtain ⟨hbx, y0, y1, y2⟩ := boxI (x := ⟨op, a, bb⟩) hwx
      simp only at y0 y1 y2
      rw [hwx]
      have HBx := hid (HBr.out.trans (hbx.mono HBr.out.size))
      have HSx := hid HBx.out.size
      have HOx := hid (HOp.out.below HBx.out HG.out)
      have HOwx := hid (own_below HOwn.out hbx)
      clear hwx hbx x0 x1 x2 d0 d1 d2 HOr HBr HOwn
      generalize wm.heap.size = gx at *
      rcases hv with ⟨h1, h2, h3⟩ | ⟨h1, h2, h3, h4⟩ | ⟨h1, h2, h3, h4, h5⟩
      · simp only at h1 h2 h3
        subst h2 h3
        rcases h1 with rfl | rfl
        · simp only [opB1] at HPv
          have q1 := HOx.out.at' (j := 4) (v := .int .i64 0) rfl
          have q2 := HOx.out.at' (j := 5) (v := .func (.func 69) #[] #[]) rfl
          go_wp2_with (first
            | (go_at_call 69; refine (op1_any _ _ _).mono ?_; rintro e w4 ⟨rfl, rfl⟩)
            | (at_builtin; refine wpList_push wx rfl _ _ 54 rfl w2.heap.size 5 (.int .u8 0) 1 1 Tryz.underlying54 Tryz.infoU8 rfl (by decide) (.slice av (l.length + k) cv) (l.length + k) (u8s (pvals l (c.take k))) rfl HOwx.out #[.int .u8 0] rfl (oneCell_int _ _) rfl (by unfold maxLen; omega) (by omega) HSx.out ?_; intro gv capv w5 hown5 hg5 hb5))
          go_roundw
          case rel => exact ⟨k + 1, by omega, by go_num, HBx.out.trans hb5, by rw [HT.out, HPv.out, u8s_snoc]; exact hown5⟩
          case measure => simp [intOf]; omega
        · simp only [opB2] at HPv
          have q1 := HOx.out.at' (j := 7) (v := .int .i64 0) rfl
          have q2 := HOx.out.at' (j := 8) (v := .func (.func 70) #[] #[]) rfl
          go_wp2_with (first
            | (go_at_call 70; refine (op2_any _ _ _).mono ?_; rintro e w4 ⟨rfl, rfl⟩)
            | (at_builtin; refine wpList_push wx rfl _ _ 54 rfl w2.heap.size 5 (.int .u8 0) 1 1 Tryz.underlying54 Tryz.infoU8 rfl (by decide) (.slice av (l.length + k) cv) (l.length + k) (u8s (pvals l (c.take k))) rfl HOwx.out #[.int .u8 1] rfl (oneCell_int _ _) rfl (by unfold maxLen; omega) (by omega) HSx.out ?_; intro gv capv w5 hown5 hg5 hb5))
          go_roundw
          case rel => exact ⟨k + 1, by omega, by go_num, HBx.out.trans hb5, by rw [HT.out, HPv.out, u8s_snoc]; exact hown5⟩
          case measure => simp [intOf]; omega
      · simp only at h1 h2 h3 h4
        subst h1 h4
        obtain ⟨gr, rfl, va⟩ := own_bit (j := a.toNat) HOwx.out (by rw [HPl.out]; omega)
        have ha : a < (l.length : Int) + k := by omega
        rw [opB_not] at HPv
        generalize (pvals l (c.take k)).getD a.toNat false = A at *
        have q1 := HOx.out.at' (j := 16) (v := .int .i64 1) rfl
        have q2 := HOx.out.at' (j := 17) (v := .func (.func 73) #[] #[]) rfl
        go_wp2_with (first
          | (go_at_call 73; refine (op5_any A 0 _).mono ?_; rintro e w4 ⟨rfl, rfl⟩)
          | (at_builtin; refine wpList_push wx rfl _ _ 54 rfl w2.heap.size 5 (.int .u8 0) 1 1 Tryz.underlying54 Tryz.infoU8 rfl (by decide) (.slice (some ⟨gr, 0, none⟩) (l.length + k) cv) (l.length + k) (u8s (pvals l (c.take k))) rfl HOwx.out #[.int .u8 (bitN (!A))] rfl (oneCell_int _ _) rfl (by unfold maxLen; omega) (by omega) HSx.out ?_; intro gv capv w5 hown5 hg5 hb5))
        go_roundw
        case rel => exact ⟨k + 1, by omega, by go_num, HBx.out.trans hb5, by rw [HT.out, HPv.out, u8s_snoc]; exact hown5⟩
        case measure => simp [intOf]; omega
      · simp only at h1 h2 h3 h4 h5
        obtain ⟨gr, rfl, va⟩ := own_bit (j := a.toNat) HOwx.out (by rw [HPl.out]; omega)
        obtain ⟨gr', e, vb⟩ := own_bit (j := bb.toNat) HOwx.out (by rw [HPl.out]; omega)
        simp only [Option.some.injEq, Addr.mk.injEq, and_true] at e
        subst e
        have ha : a < (l.length : Int) + k := by omega
        have hb : bb < (l.length : Int) + k := by omega
        generalize (pvals l (c.take k)).getD a.toNat false = A at *
        generalize (pvals l (c.take k)).getD bb.toNat false = B at *
        rcases h1 with rfl | rfl
        · rw [opB_and] at HPv
          have q1 := HOx.out.at' (j := 10) (v := .int .i64 2) rfl
          have q2 := HOx.out.at' (j := 11) (v := .func (.func 71) #[] #[]) rfl
          go_wp2_with (first
            | (go_at_call 71; refine (op3_any A B _).mono ?_; rintro e w4 ⟨rfl, rfl⟩)
            | (at_builtin; refine wpList_push wx rfl _ _ 54 rfl w2.heap.size 5 (.int .u8 0) 1 1 Tryz.underlying54 Tryz.infoU8 rfl (by decide) (.slice (some ⟨gr, 0, none⟩) (l.length + k) cv) (l.length + k) (u8s (pvals l (c.take k))) rfl HOwx.out #[.int .u8 (bitN (A && B))] rfl (oneCell_int _ _) rfl (by unfold maxLen; omega) (by omega) HSx.out ?_; intro gv capv w5 hown5 hg5 hb5))
          go_roundw
          case rel => exact ⟨k + 1, by omega, by go_num, HBx.out.trans hb5, by rw [HT.out, HPv.out, u8s_snoc]; exact hown5⟩
          case measure => simp [intOf]; omega
        · rw [opB_xor] at HPv
          have q1 := HOx.out.at' (j := 13) (v := .int .i64 2) rfl
          have q2 := HOx.out.at' (j := 14) (v := .func (.func 72) #[] #[]) rfl
          go_wp2_with (first
            | (go_at_call 72; refine (op4_any A B _).mono ?_; rintro e w4 ⟨rfl, rfl⟩)
            | (at_builtin; refine wpList_push wx rfl _ _ 54 rfl w2.heap.size 5 (.int .u8 0) 1 1 Tryz.underlying54 Tryz.infoU8 rfl (by decide) (.slice (some ⟨gr, 0, none⟩) (l.length + k) cv) (l.length + k) (u8s (pvals l (c.take k))) rfl HOwx.out #[.int .u8 (bitN (A != B))] rfl (oneCell_int _ _) rfl (by unfold maxLen; omega) (by omega) HSx.out ?_; intro gv capv w5 hown5 hg5 hb5))
          go_roundw
          case rel => exact ⟨k + 1, by omega, by go_num, HBx.out.trans hb5, by rw [HT.out, HPv.out, u8s_snoc]; exact hown5⟩
          case measure => simp [intOf]; omega
    · have hkc : k = c.length := by omega
      have HPv := hid (show c.take k = c by rw [hkc]; exact take_all (Nat.le_refl _))
      have HOwn := hid (show wm.ownsRow w2.heap.size 5 1 (.slice av (l.length + k) cv) (l.length + k) (u8s (pvals l c)) by have := HOwn.out; rwa [HPv.out] at this)
      have HLen := hid (show (pvals l c).length = l.length + k by rw [pvals_len, hkc])
      have HOm := hid (HO.out.below (HB2.out.trans (HBr.out.mono HB2.out.size)))
      have HKC := hid hkc
      clear hkc d0 d1 C0 HOr
      go_wp2_with fail
      go_loopw [12, 59] (fun vv i wr => ∃ j : Nat, j ≤ o.length ∧ i = .int .i64 j ∧ Below wm.heap.size wm wr ∧ wr.ownsRow wm.heap.size 5 1 vv j (u8s (poutsV l c (o.take j)))) (fun _ i _ => o.length - (intOf i).toNat)
      case atStart => exact ⟨0, Nat.zero_le _, rfl, Below.refl _ _, World.ownsRow_nil _ _ _ _⟩
      case round =>
        obtain ⟨j, hj, rfl, hbj, howj⟩ := hrel
        have HBj := hid hbj
        have HOj := hid howj
        have HSj := hid hbj.size
        obtain ⟨aj, cj, rfl⟩ := own_slice howj
        clear hbj howj
        rename World => wk
        by_cases hlt2 : j < o.length
        · obtain ⟨x, hx⟩ := some_of_lt hlt2
          have hxo := HOE.out x (List.mem_of_getElem? hx)
          have HT := hid (show poutsV l c (o.take (j + 1)) = poutsV l c (o.take j) ++ [(pvals l c).getD x.toNat false] by rw [take_snoc hx]; simp [poutsV])
          obtain ⟨b', o', rfl, e1⟩ := (HOm.out.below HBj.out).cell (ints_get hx)
          have hx1 : x < (l.length : Int) + k := by have := HKC.out; omega
          have hx0 := hxo.1
          obtain ⟨gr, rfl, va⟩ := own_bit (j := x.toNat) (own_below HOwn.out HBj.out) (by rw [HLen.out]; omega)
          clear hx hxo
          generalize (pvals l c).getD x.toNat false = X at *
          go_wp2_with (at_builtin; refine wpList_push wk rfl _ _ 54 rfl wm.heap.size 5 (.int .u8 0) 1 1 Tryz.underlying54 Tryz.infoU8 rfl (by decide) (.slice aj j cj) j (u8s (poutsV l c (o.take j))) rfl HOj.out #[.int .u8 (bitN X)] rfl (oneCell_int _ _) rfl (by unfold maxLen; omega) (by omega) HSj.out ?_; intro gv capv w5 hown5 hg5 hb5)
          go_roundw
          case rel => exact ⟨j + 1, by omega, by go_num, HBj.out.trans hb5, by rw [HT.out, u8s_snoc]; exact hown5⟩
          case measure => simp [intOf]; omega
        · have hjo : j = o.length := by omega
          have HE := hid (show wk.ownsRow w.heap.size 5 1 (.slice aj j cj) o.length (u8s (poutsV l c o)) by
            have h1 := HOj.out
            rw [hjo, take_all (Nat.le_refl _)] at h1
            rw [hjo]
            exact own_base h1 (Nat.le_trans HB2.out.size HBr.out.size))
          clear hjo
          go_wp2
          go_ret
          exact ⟨_, rfl, HE.out, HB2.out.trans ((HBr.out.mono HB2.out.size).trans (HBj.out.mono (Nat.le_trans HB2.out.size HBr.out.size)))⟩
end Go.Proofs.YtcdfghogmdhfcaaGreatDoor
