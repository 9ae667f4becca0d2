/-
  The reference's maker in memory: bit.
  The code and the list lie in rows that the caller owns; not longer than 60000.
-/
import Derived.Test.YtcdfghogmdhfcaaGreatDoorRfMakM
namespace Go.Proofs.YtcdfghogmdhfcaaGreatDoor
open Go.RowKit Go.Deep
set_option linter.unusedVariables false

theorem rf_found {N d : Nat} {fr k : Int} {t : List UInt8} {rs : RSt} (h : rlook rs.made (rfKey fr t) = some k) : rfBit N d fr t rs = (k, rs) := by
  cases d with
  | zero => rw [rfBit]; unfold rfStep; rw [h]
  | succ d => rw [rfBit]; unfold rfStep; rw [h]
theorem rf_const {N d : Nat} {fr : Int} {t : List UInt8} {rs : RSt} (h : rlook rs.made (rfKey fr t) = none) (hc : conT t = true) : rfBit N d fr t rs = (((N + rs.code.length : Nat) : Int), rs.put [⟨if t.take 1 = [49] then 2 else 1, 0, 0⟩] (rfKey fr t) ((N + rs.code.length : Nat) : Int)) := by
  cases d with
  | zero => rw [rfBit]; unfold rfStep; rw [h]; dsimp only; rw [if_pos hc]
  | succ d => rw [rfBit]; unfold rfStep; rw [h]; dsimp only; rw [if_pos hc]
theorem rf_half {N d : Nat} {fr : Int} {t : List UInt8} {rs : RSt} (h : rlook rs.made (rfKey fr t) = none) (hc : conT t = false) (hh : halfT t = true) : rfBit N (d + 1) fr t rs = rfBit N d (fr + 1) (t.take (t.length / 2)) rs := by
  rw [rfBit]; unfold rfStep; rw [h]; dsimp only; rw [if_neg (by rw [hc]; decide), if_pos hh]
theorem rf_three {N d : Nat} {fr : Int} {t : List UInt8} {rs : RSt} {L H : Int × RSt} (h : rlook rs.made (rfKey fr t) = none) (hc : conT t = false) (hh : halfT t = false) (h2 : rfBit N d (fr + 1) (t.take (t.length / 2)) rs = L) (h3 : rfBit N d (fr + 1) (t.drop (t.length / 2)) L.2 = H) :
    rfBit N (d + 1) fr t rs = (((N + H.2.code.length + 2 : Nat) : Int), H.2.put [⟨4, L.1, H.1⟩, ⟨3, fr, ((N + H.2.code.length : Nat) : Int)⟩, ⟨4, L.1, ((N + H.2.code.length + 1 : Nat) : Int)⟩] (rfKey fr t) ((N + H.2.code.length + 2 : Nat) : Int)) := by
  rw [rfBit]; unfold rfStep; rw [h]; dsimp only; rw [if_neg (by rw [hc]; decide), if_neg (by rw [hh]; decide)]
  subst h2 h3
  rfl
/-- How long the program and the list become. -/
theorem rf_len {N : Nat} : ∀ {d : Nat} {fr : Int} {t : List UInt8} {rs : RSt}, t.length = 2 ^ d → rs.made.length ≤ rs.code.length → (rfBit N d fr t rs).2.made.length ≤ (rfBit N d fr t rs).2.code.length ∧ (rfBit N d fr t rs).2.code.length + 3 ≤ rs.code.length + 4 * 2 ^ d := by
  intro d
  induction d with
  | zero =>
    intro fr t rs ht hm
    cases hl : rlook rs.made (rfKey fr t) with
    | some k => rw [rf_found hl]; exact ⟨hm, by show rs.code.length + 3 ≤ _; omega⟩
    | none =>
      have hc : conT t = true := by
        match t, ht with
        | [a], _ => exact conT_single a
      rw [rf_const hl hc]
      simp only [RSt.put, List.length_append, List.length_cons, List.length_nil]
      omega
  | succ d ih =>
    intro fr t rs ht hm
    have hp := two_pow_pos d
    have hp2 : 2 ^ (d + 1) = 2 * 2 ^ d := by rw [Nat.pow_succ, Nat.mul_comm]
    cases hl : rlook rs.made (rfKey fr t) with
    | some k => rw [rf_found hl]; exact ⟨hm, by show rs.code.length + 3 ≤ _; omega⟩
    | none =>
      cases hc : conT t with
      | true =>
        rw [rf_const hl hc]
        simp only [RSt.put, List.length_append, List.length_cons, List.length_nil]
        omega
      | false =>
        have h1 : (t.take (t.length / 2)).length = 2 ^ d := by rw [List.length_take, ht, hp2]; omega
        have h2 : (t.drop (t.length / 2)).length = 2 ^ d := by rw [List.length_drop, ht, hp2]; omega
        obtain ⟨a1, a2⟩ := ih (fr := fr + 1) h1 hm
        cases hh : halfT t with
        | true => rw [rf_half hl hc hh]; exact ⟨a1, by omega⟩
        | false =>
          obtain ⟨b1, b2⟩ := ih (fr := fr + 1) h2 a1
          rw [rf_three hl hc hh rfl rfl]
          simp only [RSt.put, List.length_append, List.length_cons, List.length_nil]
          omega
theorem strB_eq {a b : List UInt8} : strB a = strB b ↔ a = b := ⟨fun h => by rw [← strB_list a, h, strB_list], fun h => by rw [h]⟩
theorem made_ne {w : World} {B bm om n cl m sz : Nat} {e : TypeId} {xs : List Value} (ho : w.ownsRow B e sz (.slice (some ⟨bm, om, none⟩) n cl) m xs) {b k : Nat} {t : TypeId} {f : Nat → Value} (hr : w.rowIs b t k f) (hne : t ≠ e) : bm ≠ b := fun e' => by
  obtain ⟨_, cur, hc⟩ := own_block ho (g := bm) rfl
  obtain ⟨c, hc2⟩ := hr
  rw [e', hc2.1] at hc
  simp only [Option.some.injEq, Obj.cells.injEq] at hc
  exact hne hc.2.1
/-- What bit yields. -/
def BPost (B N : Nat) (ao : Option Addr) (no co : Nat) (w : World) (r : Int × RSt) (e : Ending) (w' : World) : Prop :=
  ∃ vc' vl', e = .returned (.tuple #[.agg #[.int .i64 (N : Int), vc', .slice ao no co, vl'], .int .i64 r.1]) ∧ RMs B w' vc' vl' r.2 ∧ KT B w w'
def BitOk (B N : Nat) (ao : Option Addr) (no co d : Nat) : Prop :=
  ∀ (fr : Nat) (t : List UInt8) (rs : RSt) (vc vl : Value) (w : World), RMs B w vc vl rs → fr + d = N → t.length = 2 ^ d → t.length ≤ 65536 → rs.made.length ≤ rs.code.length → rs.code.length + 4 * 2 ^ d ≤ 60000 →
    Calls Tryz.prog 28 #[.agg #[.int .i64 (N : Int), vc, .slice ao no co, vl], .string (strB t), .int .i64 (fr : Int)] w (BPost B N ao no co w (rfBit N d (fr : Int) t rs))
/-- The maker's box and the result's. -/
structure MkS (B N : Nat) (w : World) (g : Nat) (vo : Value) (W : World) (vc vl : Value) (rs : RSt) : Prop where
  g0 : w.heap.size ≤ g
  r : RMs B W vc vl rs
  m : W.rowIs g 66 4 (rmf N vc vo vl)
  z : W.rowIs (g + 1) 66 4 (rmf 0 (.slice none 0 0) (.slice none 0 0) (.slice none 0 0))
  k : KT B w W
theorem mk_cells {W : World} {g : Nat} {f : Nat → Value} (h : W.rowIs g 66 4 f) :
    (W.cell? ⟨g, 0, none⟩ = some (f 0) ∧ W.cell? ⟨g, 1, none⟩ = some (f 1) ∧ W.cell? ⟨g, 2, none⟩ = some (f 2) ∧ W.cell? ⟨g, 3, none⟩ = some (f 3)) ∧ W.frozen? ⟨g, 0, none⟩ = false ∧ W.frozen? ⟨g, 1, none⟩ = false ∧ W.frozen? ⟨g, 2, none⟩ = false ∧ W.frozen? ⟨g, 3, none⟩ = false :=
  ⟨⟨h.cell (by omega), h.cell (by omega), h.cell (by omega), h.cell (by omega)⟩, h.frozen 0, h.frozen 1, h.frozen 2, h.frozen 3⟩
theorem MkS.below {B N : Nat} {w : World} {g : Nat} {vo : Value} {W W' : World} {vc vl : Value} {rs : RSt} (h : MkS B N w g vo W vc vl rs) (hb : Below W.heap.size W W') : MkS B N w g vo W' vc vl rs :=
  ⟨h.g0, h.r.below hb, row_below h.m hb, row_below h.z hb, h.k.trans (KT.of hb)⟩
/-- A step of the maker: its result, in its own box. -/
theorem MkS.put {B N : Nat} {w : World} {g : Nat} {vo : Value} {W W' : World} {vc vl vc' vl' : Value} {rs rs' : RSt} (h : MkS B N w g vo W vc vl rs) (hr : RMs B W' vc' vl' rs') (hk : KT B W W') :
    MkS B N w g vo ((((W'.setCell ⟨g, 0, none⟩ (.int .i64 N)).setCell ⟨g, 1, none⟩ vc').setCell ⟨g, 2, none⟩ vo).setCell ⟨g, 3, none⟩ vl') vc' vl' rs' :=
  have hm := hk.row h.m (by decide) (by decide)
  ⟨h.g0, hr.put hm _ _ _ _, mk_put (B := B) hm, ((((hk.row h.z (by decide) (by decide)).setOther (by show g + 1 ≠ g; omega) _).setOther (by show g + 1 ≠ g; omega) _).setOther (by show g + 1 ≠ g; omega) _).setOther (by show g + 1 ≠ g; omega) _, (h.k.trans hk).put h.g0 _ _ _ _⟩
/-- The result's box is written. -/
theorem MkS.fin {B N : Nat} {w : World} {g : Nat} {vo : Value} {W W' : World} {vc vl vc' vl' : Value} {rs rs' : RSt} (h : MkS B N w g vo W vc vl rs) (hr : RMs B W' vc' vl' rs') (hk : KT B W W') (x0 x1 x2 x3 : Value) :
    RMs B ((((W'.setCell ⟨g + 1, 0, none⟩ x0).setCell ⟨g + 1, 1, none⟩ x1).setCell ⟨g + 1, 2, none⟩ x2).setCell ⟨g + 1, 3, none⟩ x3) vc' vl' rs' ∧
    KT B w ((((W'.setCell ⟨g + 1, 0, none⟩ x0).setCell ⟨g + 1, 1, none⟩ x1).setCell ⟨g + 1, 2, none⟩ x2).setCell ⟨g + 1, 3, none⟩ x3) :=
  ⟨hr.put (hk.row h.z (by decide) (by decide)) _ _ _ _, (h.k.trans hk).put (Nat.le_succ_of_le h.g0) _ _ _ _⟩
/-- One entry more in the list. -/
theorem MkS.push {B N : Nat} {w : World} {g : Nat} {vo : Value} {W W' : World} {vc vl vl' : Value} {rs : RSt} {e : MMade} (h : MkS B N w g vo W vc vl rs) (hg : W.grownBy W' vl.ownBlock) (ho : W'.ownsRow B 119 3 vl' (rs.made.length + 1) (mcells rs.made ++ [.string (strB e.1.2), .int .i64 e.1.1, .int .i64 e.2])) :
    MkS B N w g vo (W'.setCell ⟨g, 3, none⟩ vl') vc vl' ⟨rs.code, rs.made ++ [e]⟩ := by
  have hk := KT.grow h.r.l (.inr rfl) hg
  have hm := hk.row h.m (by decide) (by decide)
  have hr : RMs B W' vc vl' ⟨rs.code, rs.made ++ [e]⟩ := ⟨Nat.le_trans h.r.lb hk.size, own_grown h.r.c hg (own_apart h.r.c h.r.l (by decide)), by
    show W'.ownsRow B 119 3 vl' (rs.made ++ [e]).length (mcells (rs.made ++ [e]))
    rw [List.length_append, mcells_snoc]
    exact ho⟩
  refine ⟨h.g0, hr.set hm (by decide) (by decide) 3 _, (hm.set 3 _).congr fun i hi => ?_, (hk.row h.z (by decide) (by decide)).setOther (by show g + 1 ≠ g; omega) _, (h.k.trans hk).set (a := ⟨g, 3, none⟩) h.g0 _⟩
  have : i = 0 ∨ i = 1 ∨ i = 2 ∨ i = 3 := by omega
  rcases this with rfl | rfl | rfl | rfl <;> rfl
theorem bit_from {B N : Nat} {ao : Option Addr} {no co : Nat} {W X : World} {f : FuncId} {args : Array Value} {r : Int × RSt} (h : Calls Tryz.prog f args X (BPost B N ao no co X r)) (hX : Dr W X) : Calls Tryz.prog f args X (BPost B N ao no co W r) :=
  h.mono fun e w' hp => by
    obtain ⟨a, b, h1, h2, h3⟩ := hp
    exact ⟨a, b, h1, h2, (KT.of (hX.below _)).trans h3⟩
set_option maxRecDepth 100000 in
set_option maxHeartbeats 8000000 in
theorem rbit_step (B N : Nat) (ao : Option Addr) (no co d : Nat) (hN : N ≤ 24) (hIH : ∀ d', d = d' + 1 → BitOk B N ao no co d') : BitOk B N ao no co d := by
  intro fr t rs vc vl w h hfr htl ht6 hml hcl
  have HR := hid h
  obtain ⟨av, cv, rfl⟩ := own_slice h.c
  obtain ⟨al, cl, rfl⟩ := own_slice h.l
  have hp1 := two_pow_pos d
  have hne : 1 ≤ t.length := by omega
  have hcl2 : rs.code.length ≤ 59996 := by omega
  have HT := hid (And.intro htl (And.intro hfr hcl))
  have HCo := hid (fun X => rconst_any t X ht6)
  clear h htl hcl hp1
  have HI := hid hIH
  clear hIH
  obtain ⟨R, hR⟩ : ∃ R, rfBit N d (fr : Int) t rs = R := ⟨_, rfl⟩
  rw [hR]
  have HRe := hid hR
  clear hR
  unfold BPost
  go_enter Tryz.func28, Tryz.ntmps28
  go_upto_region 1 with fail
  obtain ⟨w2, hw2⟩ : ∃ w2, (w.alloc (.cells #[.int .i64 (N : Int), .slice av rs.code.length cv, .slice ao no co, .slice al rs.made.length cl] 66)).alloc (.cells #[.int .i64 0, .slice none 0 0, .slice none 0 0, .slice none 0 0] 66) = w2 := ⟨_, rfl⟩
  obtain ⟨hb2, hs2, hr1, hr2⟩ := mk_boxes hw2
  rw [hw2]
  clear hw2
  have HR2 := hid (HR.out.below hb2)
  have HK2 := hid (KT.of (B := B) hb2)
  have HR1 := hid hr1
  have HRr2 := hid hr2
  have HLb := hid HR2.out.lb
  have c1 := hr1.cell (i := 1) (by omega)
  simp only [rmf] at c1
  obtain ⟨g, hg⟩ : ∃ g, w.heap.size = g := ⟨_, rfl⟩
  have HGe := hid hg
  rw [hg] at HR1 HRr2 c1 ⊢
  clear hr1 hr2 hb2 hs2 hg
  have hmx : ¬ (65536 : Int) < (rs.code.length : Int) := by omega
  have htI : (1 : Int) ≤ (t.length : Int) := by omega
  have hsz := strB_size t
  have HKe := hid (show rfKey (fr : Int) t = if conT t = true then (-1, t.take 1) else ((fr : Int), t) from rfl)
  have HTk := hid (show (strB t).extract 0 1 = strB (t.take 1) by
    apply ByteArray.ext; apply Array.toList_inj.1
    rw [ByteArray.data_extract, Array.toList_extract, List.extract_eq_take_drop, strB_list, strB_list]
    simp)
  obtain ⟨⟨kf, kt⟩, hk⟩ : ∃ K, rfKey (fr : Int) t = K := ⟨_, rfl⟩
  have HKf := hid hk
  go_upto_if 29 with (go_at_call 58; refine (HCo.out _).mono ?_; rintro e w3 ⟨rfl, hD3⟩; have HD3 := hid hD3; clear hD3)
  clear hmx c1
  go_cut [8, 9] (fun u8 u9 w' => u8 = .string (strB kt) ∧ u9 = .int .i64 kf ∧ w3 = w')
  case first =>
    rw [HKe.out] at hk
    by_cases hcon : conT t = true
    · rw [if_pos hcon] at hk
      obtain ⟨rfl, rfl⟩ := Prod.mk.inj hk
      clear hk
      rw [hcon]
      go_wp2
      rw [HTk.out]
      go_meet
      exact ⟨rfl, rfl, rfl⟩
    · rw [if_neg hcon] at hk
      obtain ⟨rfl, rfl⟩ := Prod.mk.inj hk
      clear hk
      rw [Bool.eq_false_iff.2 hcon]
      go_wp2
      go_meet
      exact ⟨rfl, rfl, rfl⟩
  case rest =>
    obtain ⟨rfl, rfl, hww⟩ := hcut
    subst hww
    clear hk
    have HR3 := hid (HR2.out.below (HD3.out.below _))
    have HK3 := hid (HK2.out.trans (KT.of (HD3.out.below _)))
    have HM1 := hid ((KT.of (B := B) (HD3.out.below _)).row HR1.out (by decide) (by decide))
    have HM2 := hid ((KT.of (B := B) (HD3.out.below _)).row HRr2.out (by decide) (by decide))
    clear HR2 HK2 HR1 HRr2 HD3 HLb
    have c0 := HM1.out.cell (i := 0) (by omega)
    have c1 := HM1.out.cell (i := 1) (by omega)
    have c2 := HM1.out.cell (i := 2) (by omega)
    have c3 := HM1.out.cell (i := 3) (by omega)
    have z0 := HM2.out.cell (i := 0) (by omega)
    have z1 := HM2.out.cell (i := 1) (by omega)
    have z2 := HM2.out.cell (i := 2) (by omega)
    have z3 := HM2.out.cell (i := 3) (by omega)
    have y0 := HM2.out.frozen 0
    have y1 := HM2.out.frozen 1
    have y2 := HM2.out.frozen 2
    have y3 := HM2.out.frozen 3
    simp only [rmf] at c0 c1 c2 c3 z0 z1 z2 z3
    generalize hML : rs.made.length = ML at *
    have HML := hid hML
    clear hML
    go_upto_region 7 with fail
    go_loop [10] (fun i => ∃ k : Nat, k ≤ ML ∧ i = .int .i64 (k : Int) ∧ Hid (rlook (rs.made.drop k) (kf, kt) = rlook rs.made (kf, kt))) (fun i => ML - (intOf i).toNat)
    case atStart => exact ⟨0, Nat.zero_le _, rfl, hid rfl⟩
    case round =>
      obtain ⟨k, hk, rfl, HLk⟩ := hrel
      by_cases hlt : k < ML
      · obtain ⟨e, he⟩ := some_of_lt (l := rs.made) (k := k) (by rw [HML.out]; exact hlt)
        have HRo := HR3.out.l
        rw [HML.out] at HRo
        obtain ⟨bm, om, rfl, x0, x1, x2⟩ := Sl.made (Sl.of_owns HRo) he
        have HDr := hid (show rlook (rs.made.drop k) (kf, kt) = if e.1 = (kf, kt) then some e.2 else rlook (rs.made.drop (k + 1)) (kf, kt) by
          obtain ⟨h1, h2⟩ := List.getElem?_eq_some_iff.1 he
          rw [List.drop_eq_getElem_cons h1, h2]; rfl)
        have hltI : (k : Int) < (ML : Int) := by omega
        have hbne := made_ne HRo HM2.out (by decide)
        clear he HRo
        obtain ⟨⟨ef, et⟩, ek⟩ := e
        dsimp only at x0 x1 x2
        by_cases h1 : et = kt
        · have h1' := h1.symm
          subst h1'
          clear h1
          by_cases h2 : ef = kf
          · subst h2
            have HF := hid (show R = (ek, rs) by
              rw [← HRe.out]
              refine rf_found ?_
              rw [HKf.out, ← HLk.out, HDr.out, if_pos rfl])
            go_upto_region 10 with fail
            go_region
            all_goals
              go_wp2_with fail
              refine bodyPost_ret (v := .tuple #[.agg #[.int .i64 (N : Int), .slice av rs.code.length cv, .slice ao no co, .slice (some ⟨bm, om, none⟩) ML cl], .int .i64 ek]) ?_ rfl ⟨.slice av rs.code.length cv, .slice (some ⟨bm, om, none⟩) ML cl, ?_, ?_, ?_⟩
              · simp [results, Tryz.results28, go_sem, z0, z1, z2, z3]
              · rw [HF.out]
              · rw [HF.out]; exact (HR3.out.below (below_drewN (Below.refl _ _) 1)).put (row_below HM2.out (below_drewN (Below.refl _ _) 1)) _ _ _ _
              · exact (HK3.out.trans (KT.of (below_drewN (Below.refl _ _) 1))).put (by rw [HGe.out]; omega) _ _ _ _
          · have h3 : (ef == kf) = false := by simpa using h2
            have HN2 := hid (show rlook (rs.made.drop (k + 1)) (kf, kt) = rlook rs.made (kf, kt) by
              rw [← HLk.out, HDr.out, if_neg]
              intro h; exact h2 (Prod.mk.inj h).1)
            clear HDr
            go_wp2
            case roundEnd => exact ⟨⟨k + 1, hlt, by go_num, HN2⟩, by simp [intOf]; omega⟩
        · have h3 : ¬ strB et = strB kt := fun h => h1 (strB_eq.1 h)
          have h5 : ((strB et).toList == (strB kt).toList) = false := by rw [beq_eq_false_iff_ne, Lib.toList_data, Lib.toList_data, strB_list, strB_list]; exact h1
          have HN2 := hid (show rlook (rs.made.drop (k + 1)) (kf, kt) = rlook rs.made (kf, kt) by
            rw [← HLk.out, HDr.out, if_neg]
            intro h; exact h1 (Prod.mk.inj h).2)
          clear HDr h1
          generalize strB et = S1 at *
          generalize strB kt = S2 at *
          go_wp2
          case roundEnd => exact ⟨⟨k + 1, hlt, by go_num, HN2⟩, by simp [intOf]; omega⟩
      · have HNo := hid (show rlook rs.made (rfKey (fr : Int) t) = none by
          rw [HKf.out, ← HLk.out, List.drop_of_length_le (by rw [HML.out]; omega)]; rfl)
        clear HLk hk
        have hkm : ¬ (k : Int) < (ML : Int) := by omega
        cases hcon : conT t with
        | true =>
          have HKf2 := HKf.out
          rw [HKe.out, if_pos hcon] at HKf2
          obtain ⟨rfl, rfl⟩ := Prod.mk.inj HKf2
          obtain ⟨op, hop⟩ : ∃ op : Int, (if t.take 1 = [49] then (2 : Int) else 1) = op := ⟨_, rfl⟩
          have HF := hid (show R = (((N + rs.code.length : Nat) : Int), rs.put [⟨op, 0, 0⟩] (-1, t.take 1) ((N + rs.code.length : Nat) : Int)) by
            rw [← HRe.out, rf_const HNo.out hcon, hop, HKf.out])
          clear HKf2 hcon HRe
          have HAd := hid (fun X hX => radd_any B N (.slice av rs.code.length cv) (.slice al ML cl) ao no co rs op 0 0 X hX (by omega) hN)
          go_upto_if 67 with fail
          go_cut [11] (fun u w' => u = .int .i64 op ∧ w3 = w')
          case first =>
            by_cases h49 : t.take 1 = [49]
            · rw [if_pos h49] at hop
              subst hop
              have e1 : (strB (t.take 1)).toList = [49] := by rw [Lib.toList_data, strB_list]; exact h49
              have e2 : ((strB (t.take 1)).toList == [49]) = true := by rw [e1]; rfl
              clear h49
              rw [e2]
              go_wp2
              go_meet
              exact ⟨rfl, rfl⟩
            · rw [if_neg h49] at hop
              subst hop
              have e2 : ((strB (t.take 1)).toList == [49]) = false := by
                rw [beq_eq_false_iff_ne, Lib.toList_data, strB_list]; exact h49
              clear h49
              rw [e2]
              go_wp2
              go_meet
              exact ⟨rfl, rfl⟩
          case rest =>
            obtain ⟨rfl, hww⟩ := hcut
            subst hww
            clear hop
            go_upto_region 16 with (go_at_call 59; refine (HAd.out _ HR3.out).mono ?_; rintro e w4 ⟨vc4, rfl, hR4, hK4⟩; obtain ⟨av4, cv4, rfl⟩ := own_slice hR4.c; have HR4 := hid hR4; have HK4 := hid hK4; clear hR4 hK4)
            obtain ⟨gm, hgm⟩ : ∃ gm, w4.heap.size = gm := ⟨_, rfl⟩
            obtain ⟨w5, hw5⟩ : ∃ w5, w4.alloc (.cells #[.int .i64 (N : Int), .slice av4 (rs.code.length + 1) cv4, .slice ao no co, .slice al ML cl] 66) = w5 := ⟨_, rfl⟩
            have hb5 : Below w4.heap.size w4 w5 := by rw [← hw5]; exact bel_alloc _ _
            have HM5 := hid (show w5.rowIs gm 66 4 (rmf N (.slice av4 (rs.code.length + 1) cv4) (.slice ao no co) (.slice al ML cl)) by
              rw [← hw5, ← hgm]
              refine World.rowIs_alloc w4 #[.int .i64 (N : Int), .slice av4 (rs.code.length + 1) cv4, .slice ao no co, .slice al ML cl] _ _ fun i hi => ?_
              have : i = 0 ∨ i = 1 ∨ i = 2 ∨ i = 3 := by simp at hi; omega
              rcases this with rfl | rfl | rfl | rfl <;> rfl)
            have HR5 := hid (HR4.out.below hb5)
            have HK5 := hid (HK3.out.trans (HK4.out.trans (KT.of hb5)))
            have HZ5 := hid (((HK4.out.trans (KT.of hb5))).row HM2.out (by decide) (by decide))
            have HGm := hid (show w.heap.size ≤ gm by rw [← hgm]; exact (HK3.out.trans HK4.out).size)
            have HGn := hid (show g + 1 ≠ gm by have h1 := HK4.out.size; have h2 := HM2.out.lt; omega)
            rw [hw5, hgm]
            clear hw5 hb5 c0 c1 c2 c3 z0 z1 z2 z3 y0 y1 y2 y3 HR4
            have HLo := HR5.out.l
            simp only at HLo
            rw [HML.out] at HLo
            have c3 := HM5.out.cell (i := 3) (by omega)
            simp only [rmf] at c3
            have HL5 := hid HLo
            have HLb := hid HR5.out.lb
            have hMLb : ML ≤ 100000 := by omega
            clear HLo
            go_upto_region 17 with (at_builtin; refine wpList_push w5 rfl _ _ 64 rfl B 119 (.agg #[.string ⟨#[]⟩, .int .i64 0, .int .i64 0]) 3 32 Tryz.underSMade Tryz.infoMade rfl (by decide) (.slice al ML cl) ML (mcells rs.made) rfl HL5.out #[.string (strB (t.take 1)), .int .i64 (-1), .int .i64 ((N : Int) + (rs.code.length : Int))] rfl (by intro u hu; simp at hu; rcases hu with rfl | rfl | rfl <;> rfl) rfl (by unfold maxLen; omega) (by omega) HLb.out ?_; intro gv capv w6 hown6 hg6 hb6; have HK6 := hid (KT.grow HL5.out (.inr rfl) hg6); have HC6 := hid (own_grown HR5.out.c hg6 (own_apart HR5.out.c HL5.out (by decide))); have c3 := (HK6.out.row HM5.out (by decide) (by decide)).cell (i := 3) (by omega); have f3 := (HK6.out.row HM5.out (by decide) (by decide)).frozen 3; simp only [rmf] at c3; have HO6 := hid hown6; clear hown6 hg6 hb6)
            obtain ⟨w7, hw7⟩ : ∃ w7, w6.setCell ⟨gm, 3, none⟩ (.slice (some ⟨gv, 0, none⟩) (ML + 1) capv) = w7 := ⟨_, rfl⟩
            have hr1 : w7.rowIs gm 66 4 (rmf N (.slice av4 (rs.code.length + 1) cv4) (.slice ao no co) (.slice (some ⟨gv, 0, none⟩) (ML + 1) capv)) := by
              rw [← hw7]
              refine ((HK6.out.row HM5.out (by decide) (by decide)).set 3 _).congr fun i hi => ?_
              have : i = 0 ∨ i = 1 ∨ i = 2 ∨ i = 3 := by omega
              rcases this with rfl | rfl | rfl | rfl <;> rfl
            have hr2 : w7.rowIs (g + 1) 66 4 (rmf 0 (.slice none 0 0) (.slice none 0 0) (.slice none 0 0)) := by rw [← hw7]; exact (HK6.out.row HZ5.out (by decide) (by decide)).setOther (by show g + 1 ≠ gm; exact HGn.out) _
            have HR7 := hid (show RMs B w7 (.slice av4 (rs.code.length + 1) cv4) (.slice (some ⟨gv, 0, none⟩) (ML + 1) capv) R.2 by
              rw [← hw7, HF.out]
              have h6 : RMs B w6 (.slice av4 (rs.code.length + 1) cv4) (.slice (some ⟨gv, 0, none⟩) (ML + 1) capv) (rs.put [⟨op, 0, 0⟩] (-1, t.take 1) ((N + rs.code.length : Nat) : Int)) :=
                ⟨Nat.le_trans HLb.out HK6.out.size, by have h := HC6.out; show w6.ownsRow B 47 3 (.slice av4 (rs.code.length + 1) cv4) (rs.code ++ [(⟨op, 0, 0⟩ : Ins)]).length (icells (rs.code ++ [(⟨op, 0, 0⟩ : Ins)])); rw [List.length_append] at h ⊢; exact h, by
                  show w6.ownsRow B 119 3 _ (rs.made ++ [((-1, t.take 1), ((N + rs.code.length : Nat) : Int))]).length (mcells (rs.made ++ [((-1, t.take 1), ((N + rs.code.length : Nat) : Int))]))
                  rw [List.length_append, mcells_snoc, HML.out, Int.natCast_add]
                  exact HO6.out⟩
              exact h6.set (HK6.out.row HM5.out (by decide) (by decide)) (by decide) (by decide) 3 _)
            have HK7 := hid (show KT B w w7 by rw [← hw7]; exact (HK5.out.trans HK6.out).set (a := ⟨gm, 3, none⟩) HGm.out _)
            have HF1 := hid (show R.1 = (N : Int) + (rs.code.length : Int) by rw [HF.out, Int.natCast_add])
            rw [hw7]
            clear hw7 c3 f3 HC6 HO6 HK6 HL5 HK5 HR5 HM5 HZ5 HF
            have c0 := hr1.cell (i := 0) (by omega)
            have c1 := hr1.cell (i := 1) (by omega)
            have c2 := hr1.cell (i := 2) (by omega)
            have c3 := hr1.cell (i := 3) (by omega)
            have z0 := hr2.cell (i := 0) (by omega)
            have z1 := hr2.cell (i := 1) (by omega)
            have z2 := hr2.cell (i := 2) (by omega)
            have z3 := hr2.cell (i := 3) (by omega)
            have y0 := hr2.frozen 0
            have y1 := hr2.frozen 1
            have y2 := hr2.frozen 2
            have y3 := hr2.frozen 3
            simp only [rmf] at c0 c1 c2 c3 z0 z1 z2 z3
            have HP2 := hid hr2
            clear hr1 hr2
            generalize rs.code.length + 1 = CL1 at *
            go_wp2_with fail
            refine bodyPost_ret (v := .tuple #[.agg #[.int .i64 (N : Int), .slice av4 CL1 cv4, .slice ao no co, .slice (some ⟨gv, 0, none⟩) (ML + 1) capv], .int .i64 ((N : Int) + (rs.code.length : Int))]) ?_ rfl ⟨.slice av4 CL1 cv4, .slice (some ⟨gv, 0, none⟩) (ML + 1) capv, ?_, ?_, ?_⟩
            · simp [results, Tryz.results28, go_sem, z0, z1, z2, z3]
            · rw [HF1.out]
            · exact HR7.out.put HP2.out _ _ _ _
            · exact HK7.out.put (by rw [HGe.out]; omega) _ _ _ _
        | false =>
          obtain ⟨htl, hfr2, hcl⟩ := HT.out
          obtain ⟨d', rfl⟩ : ∃ d', d = d' + 1 := by
            cases d with
            | zero =>
              exfalso
              match t, htl, hcon with
              | [a], _, hcon => rw [conT_single] at hcon; cases hcon
            | succ d' => exact ⟨d', rfl⟩
          have HIH := hid (HI.out d' rfl)
          have htw : 2 ^ (d' + 1) = 2 * 2 ^ d' := by rw [Nat.pow_succ, Nat.mul_comm]
          have hp := two_pow_pos d'
          obtain ⟨H, hH⟩ : ∃ H, 2 ^ d' = H := ⟨_, rfl⟩
          rw [htw, hH] at htl hcl
          rw [hH] at hp
          have hhf : t.length / 2 = H := by omega
          have hl1 : (t.take H).length = 2 ^ d' := by rw [List.length_take, htl, hH]; omega
          have hl2 : (t.drop H).length = 2 ^ d' := by rw [List.length_drop, htl, hH]; omega
          have HKf2 := HKf.out
          rw [HKe.out, if_neg (by rw [hcon]; decide)] at HKf2
          obtain ⟨rfl, rfl⟩ := Prod.mk.inj HKf2
          clear HKf2 htw
          have HL1 := hid hl1
          have HL2 := hid hl2
          have HCl := hid hcl
          have hHI : (t.length : Int) / 2 = (H : Int) := by omega
          have hH2 : (H : Int) ≤ (t.length : Int) := by omega
          have hxl : (strB t).extract 0 H = strB (t.take H) := by apply ba_ext; rw [Lib.extract_data]; simp [strB]
          have hxr : (strB t).extract H t.length = strB (t.drop H) := by apply ba_ext; rw [Lib.extract_data]; simp only [strB, List.toList_toArray]; exact List.take_of_length_le (by rw [List.length_drop]; exact Nat.le_refl _)
          have HS3 := hid (show MkS B N w g (.slice ao no co) w3 (.slice av rs.code.length cv) (.slice al ML cl) rs from ⟨by rw [HGe.out]; exact Nat.le_refl _, HR3.out, HM1.out, HM2.out, HK3.out⟩)
          have hw1 : IntKind.i64.wrap ((fr : Int) + 1) = (fr : Int) + 1 := IntWalk.i64_in _ (by omega)
          obtain ⟨L, hL⟩ : ∃ L, rfBit N d' ((fr : Int) + 1) (t.take H) rs = L := ⟨_, rfl⟩
          have HLn := hid (show L.2.made.length ≤ L.2.code.length ∧ L.2.code.length + 3 ≤ rs.code.length + 4 * H by
            have h := rf_len (N := N) (fr := (fr : Int) + 1) (rs := rs) HL1.out (by rw [HML.out]; exact hml)
            rw [hL, hH] at h
            exact h)
          have HBL := hid (fun X (hX : Dr w3 X) => (show Calls Tryz.prog 28 #[.agg #[.int .i64 (N : Int), .slice av rs.code.length cv, .slice ao no co, .slice al ML cl], .string ((strB t).extract 0 H), .int .i64 ((fr : Int) + 1)] X (BPost B N ao no co w3 L) from by
            have h := HIH.out (fr + 1) (t.take H) rs (.slice av rs.code.length cv) (.slice al ML cl) X (HR3.out.below (hX.below _)) (by omega) HL1.out (by rw [HL1.out, hH]; omega) (by rw [HML.out]; exact hml) (by rw [hH]; omega)
            rw [Int.natCast_add, show ((1 : Nat) : Int) = 1 from rfl, hL, ← hxl] at h
            exact bit_from h hX))
          have HTl := hid htl
          clear HI HT HCo hl1 hl2 HR3 HM1 HM2 HK3 htl
          cases hh : halfT t with
          | true =>
            have hq : (((strB t).extract 0 H).toList == ((strB t).extract H t.length).toList) = true := by
              rw [hxl, hxr, beq_iff_eq, Lib.toList_data, Lib.toList_data, strB_list, strB_list, ← hhf]; exact of_decide_eq_true hh
            have HF := hid (show R = L by rw [← HRe.out, rf_half HNo.out hcon hh, hhf, hL])
            clear hcon hh hxr hxl hL
            go_upto_region 19 with fail
            go_quiet (fail)
            have HDq := hid (show Dr w3 (w3.drewN nq) from ⟨nq, rfl⟩)
            have HS4 := hid (HS3.out.below (HDq.out.below _))
            clear c0 c1 c2 c3 z0 z1 z2 z3 y0 y1 y2 y3
            generalize w3.drewN nq = w4 at *
            obtain ⟨⟨c0, c1, c2, c3⟩, f0, f1, f2, f3⟩ := mk_cells HS4.out.m
            simp only [rmf] at c0 c1 c2 c3
            clear f0 f1 f2 f3
            go_upto_region 20 with fail
            have HB4 := hid (fun X (hX : Dr w4 X) => HBL.out X (HDq.out.trans hX))
            unfold BPost at HB4
            clear HBL
            go_region_held3 (fun w' => w'.cell? ⟨g, 0, none⟩ = some (.int .i64 (N : Int)) ∧ w'.cell? ⟨g, 1, none⟩ = some (.slice av rs.code.length cv) ∧ w'.cell? ⟨g, 2, none⟩ = some (.slice ao no co) ∧ w'.cell? ⟨g, 3, none⟩ = some (.slice al ML cl)) (first | exact ⟨c0, c1, c2, c3⟩ | go_keep) (first | (go_at_call 28; refine (HB4.out _ (by first | exact ⟨1, rfl⟩ | exact ⟨0, rfl⟩)).mono ?_; rintro e w5 ⟨vc5, vl5, rfl, hR5, hK5⟩; obtain ⟨av5, cv5, rfl⟩ := own_slice hR5.c; obtain ⟨al5, cl5, rfl⟩ := own_slice hR5.l; obtain ⟨⟨z0, z1, z2, z3⟩, y0, y1, y2, y3⟩ := mk_cells (hK5.row HS3.out.z (by decide) (by decide)); simp only [rmf] at z0 z1 z2 z3; have hmm := mk_cells (hK5.row HS3.out.m (by decide) (by decide)); simp only [rmf] at hmm; obtain ⟨⟨c0, c1, c2, c3⟩, _⟩ := hmm; have HR5 := hid hR5; have HK5 := hid hK5; clear hR5 hK5))
            all_goals
              go_wp2_with fail
              refine bodyPost_ret (v := .tuple #[.agg #[.int .i64 (N : Int), .slice av5 L.2.code.length cv5, .slice ao no co, .slice al5 L.2.made.length cl5], .int .i64 L.1]) ?_ rfl ⟨.slice av5 L.2.code.length cv5, .slice al5 L.2.made.length cl5, ?_, ?_, ?_⟩
              · simp [results, Tryz.results28, go_sem, z0, z1, z2, z3]
              · rw [HF.out]
              · rw [HF.out]; exact (HS3.out.fin HR5.out HK5.out _ _ _ _).1
              · exact (HS3.out.fin HR5.out HK5.out _ _ _ _).2
          | false =>
            have hq : (((strB t).extract 0 H).toList == ((strB t).extract H t.length).toList) = false := by
              rw [hxl, hxr, beq_eq_false_iff_ne, Lib.toList_data, Lib.toList_data, strB_list, strB_list, ← hhf]; exact of_decide_eq_false hh
            obtain ⟨M, hM⟩ : ∃ M, rfBit N d' ((fr : Int) + 1) (t.drop H) L.2 = M := ⟨_, rfl⟩
            have HMn := hid (show M.2.made.length ≤ M.2.code.length ∧ M.2.code.length + 3 ≤ L.2.code.length + 4 * H by
              have h := rf_len (N := N) (fr := (fr : Int) + 1) (rs := L.2) HL2.out HLn.out.1
              rw [hM, hH] at h
              exact h)
            obtain ⟨x1, hx1⟩ : ∃ x1 : Int, ((N + M.2.code.length : Nat) : Int) = x1 := ⟨_, rfl⟩
            obtain ⟨x2, hx2⟩ : ∃ x2 : Int, ((N + M.2.code.length + 1 : Nat) : Int) = x2 := ⟨_, rfl⟩
            obtain ⟨x3, hx3⟩ : ∃ x3 : Int, ((N + M.2.code.length + 2 : Nat) : Int) = x3 := ⟨_, rfl⟩
            have HF := hid (show R = (x3, M.2.put [⟨4, L.1, M.1⟩, ⟨3, (fr : Int), x1⟩, ⟨4, L.1, x2⟩] ((fr : Int), t) x3) by
              rw [← HRe.out, rf_three (L := L) (H := M) HNo.out hcon hh (by rw [hhf]; exact hL) (by rw [hhf]; exact hM), HKf.out, hx1, hx2, hx3])
            have HXs := hid (And.intro hx1 (And.intro hx2 hx3))
            have HHp := hid hH
            have HMe := hid hM
            have HXr := hid hxr
            have HCl2 := hid hcl
            clear hcon hh hxr hxl hL hx1 hx2 hx3 hM hH hcl
            go_upto_region 19 with fail
            go_quiet (fail)
            have HDq := hid (show Dr w3 (w3.drewN nq) from ⟨nq, rfl⟩)
            have HS4 := hid (HS3.out.below (HDq.out.below _))
            clear c0 c1 c2 c3 z0 z1 z2 z3 y0 y1 y2 y3
            generalize w3.drewN nq = w4 at *
            obtain ⟨⟨c0, c1, c2, c3⟩, f0, f1, f2, f3⟩ := mk_cells HS4.out.m
            simp only [rmf] at c0 c1 c2 c3
            go_upto_region 21 with fail
            have HB4 := hid (fun X (hX : Dr w4 X) => HBL.out X (HDq.out.trans hX))
            unfold BPost at HB4
            clear HBL hq
            refine wp_region_held_drew (S := (fun _ => True)) (by kernel_rfl) trivial (fun _ => ?_)
            refine wpAnyH_take (i := 1) (v := .string (strB t)) rfl (by kernel_rfl) (by kernel_rfl) (by kernel_rfl) (fun _ _ _ h => h) (Or.inl ⟨by rfl, fun w hSw => ?_⟩) trivial ?_
            · go_simp
            simp only [Act.put, List.setIfInBounds_toArray, List.set_cons_zero, List.set_cons_succ, List.getElem_toArray, List.getElem_cons_zero, List.getElem_cons_succ]
            refine wpAnyH_take (i := 2) (v := .int .i64 (H : Int)) rfl (by kernel_rfl) (by kernel_rfl) (by kernel_rfl) (fun _ _ _ h => h) (Or.inl ⟨by rfl, fun w hSw => ?_⟩) trivial ?_
            · go_simp
            simp only [Act.put, List.setIfInBounds_toArray, List.set_cons_zero, List.set_cons_succ, List.getElem_toArray, List.getElem_cons_zero, List.getElem_cons_succ]
            refine wpAnyH_take (i := 3) (v := .string ((strB t).extract 0 H)) rfl (by kernel_rfl) (by kernel_rfl) (by kernel_rfl) (fun _ _ _ h => h) (Or.inl ⟨by rfl, fun w hSw => ?_⟩) trivial ?_
            · go_simp
            simp only [Act.put, List.setIfInBounds_toArray, List.set_cons_zero, List.set_cons_succ, List.getElem_toArray, List.getElem_cons_zero, List.getElem_cons_succ]
            refine wpAnyH_take (i := 4) (v := .int .i64 (fr : Int)) rfl (by kernel_rfl) (by kernel_rfl) (by kernel_rfl) (fun _ _ _ h => h) (Or.inl ⟨by rfl, fun w hSw => ?_⟩) trivial ?_
            · go_simp
            simp only [Act.put, List.setIfInBounds_toArray, List.set_cons_zero, List.set_cons_succ, List.getElem_toArray, List.getElem_cons_zero, List.getElem_cons_succ]
            refine wpAnyH_take (i := 5) (v := .int .i64 ((fr : Int) + 1)) rfl (by kernel_rfl) (by kernel_rfl) (by kernel_rfl) (fun _ _ _ h => h) (Or.inl ⟨by rfl, fun w hSw => ?_⟩) trivial ?_
            · go_simp
            simp only [Act.put, List.setIfInBounds_toArray, List.set_cons_zero, List.set_cons_succ, List.getElem_toArray, List.getElem_cons_zero, List.getElem_cons_succ]
            refine wpAnyH_ready (rs := [0]) (by kernel_rfl) (by simp) (AllReadyH.cons rfl (fun K hK => ?_) AllReadyH.nil)
            go_simp
            refine hK.out _ _ trivial (fun _ => ?_)
            clear hK K
            try simp only [Act.put, List.setIfInBounds_toArray, List.set_cons_zero, List.set_cons_succ, List.getElem_toArray, List.getElem_cons_zero, List.getElem_cons_succ]
            refine wpAnyH_ready (rs := [6]) (by kernel_rfl) (by simp) (AllReadyH.cons rfl (fun K hK => ?_) AllReadyH.nil)
            go_simp
            (go_at_call 28; refine (HB4.out _ (by first | exact ⟨1, rfl⟩ | exact ⟨0, rfl⟩)).mono ?_; rintro e w5 ⟨vc5, vl5, rfl, hR5, hK5⟩; obtain ⟨av5, cv5, rfl⟩ := own_slice hR5.c; obtain ⟨al5, cl5, rfl⟩ := own_slice hR5.l; obtain ⟨⟨c0, c1, c2, c3⟩, f0, f1, f2, f3⟩ := mk_cells (hK5.row HS3.out.m (by decide) (by decide)); simp only [rmf] at c0 c1 c2 c3; have HR5 := hid hR5; have HK5 := hid hK5; clear hR5 hK5)
            try go_wp2_with fail
            refine hK.out _ _ trivial (fun _ => ?_)
            clear hK K
            try simp only [Act.put, List.setIfInBounds_toArray, List.set_cons_zero, List.set_cons_succ, List.getElem_toArray, List.getElem_cons_zero, List.getElem_cons_succ]
            refine wpAnyH_take (i := 7) (v := .tuple #[.agg #[.int .i64 (N : Int), .slice av5 L.2.code.length cv5, .slice ao no co, .slice al5 L.2.made.length cl5], .int .i64 L.1]) rfl (by kernel_rfl) (by kernel_rfl) (by kernel_rfl) (fun _ _ _ h => h) (Or.inl ⟨by rfl, fun w hSw => ?_⟩) trivial ?_
            · go_simp
            simp only [Act.put, List.setIfInBounds_toArray, List.set_cons_zero, List.set_cons_succ, List.getElem_toArray, List.getElem_cons_zero, List.getElem_cons_succ]
            refine wpAnyH_take (i := 8) (v := .agg #[.int .i64 (N : Int), .slice av5 L.2.code.length cv5, .slice ao no co, .slice al5 L.2.made.length cl5]) rfl (by kernel_rfl) (by kernel_rfl) (by kernel_rfl) (fun _ _ _ h => h) (Or.inl ⟨by rfl, fun w hSw => ?_⟩) trivial ?_
            · go_simp
            simp only [Act.put, List.setIfInBounds_toArray, List.set_cons_zero, List.set_cons_succ, List.getElem_toArray, List.getElem_cons_zero, List.getElem_cons_succ]
            refine wpAnyH_take (i := 9) (v := .int .i64 L.1) rfl (by kernel_rfl) (by kernel_rfl) (by kernel_rfl) (fun _ _ _ h => h) (Or.inl ⟨by rfl, fun w hSw => ?_⟩) trivial ?_
            · go_simp
            simp only [Act.put, List.setIfInBounds_toArray, List.set_cons_zero, List.set_cons_succ, List.getElem_toArray, List.getElem_cons_zero, List.getElem_cons_succ]
            refine wpAnyH_ready (rs := [10]) (by kernel_rfl) (by simp) (AllReadyH.cons rfl (fun K hK => ?_) AllReadyH.nil)
            go_simp
            refine hK.out _ _ trivial (fun _ => ?_)
            clear hK K
            try simp only [Act.put, List.setIfInBounds_toArray, List.set_cons_zero, List.set_cons_succ, List.getElem_toArray, List.getElem_cons_zero, List.getElem_cons_succ]
            refine wpAnyH_take (i := 11) (v := .int .i64 L.1) rfl (by kernel_rfl) (by kernel_rfl) (by kernel_rfl) (fun _ _ _ h => h) (Or.inl ⟨by rfl, fun w hSw => ?_⟩) trivial ?_
            · go_simp
            simp only [Act.put, List.setIfInBounds_toArray, List.set_cons_zero, List.set_cons_succ, List.getElem_toArray, List.getElem_cons_zero, List.getElem_cons_succ]
            refine wpAnyH_done (by kernel_rfl) ?_ _
            obtain ⟨w6, hw6⟩ : ∃ w6, (((w5.setCell ⟨g, 0, none⟩ (.int .i64 (N : Int))).setCell ⟨g, 1, none⟩ (.slice av5 L.2.code.length cv5)).setCell ⟨g, 2, none⟩ (.slice ao no co)).setCell ⟨g, 3, none⟩ (.slice al5 L.2.made.length cl5) = w6 := ⟨_, rfl⟩
            have HS6 := hid (show MkS B N w g (.slice ao no co) w6 (.slice av5 L.2.code.length cv5) (.slice al5 L.2.made.length cl5) L.2 by rw [← hw6]; exact HS3.out.put HR5.out HK5.out)
            rw [hw6]
            clear hw6 c0 c1 c2 c3 f0 f1 f2 f3
            obtain ⟨⟨c0, c1, c2, c3⟩, f0, f1, f2, f3⟩ := mk_cells HS6.out.m
            simp only [rmf] at c0 c1 c2 c3
            have HB6 := hid (fun X (hX : Dr w6 X) => (show Calls Tryz.prog 28 #[.agg #[.int .i64 (N : Int), .slice av5 L.2.code.length cv5, .slice ao no co, .slice al5 L.2.made.length cl5], .string ((strB t).extract H t.length), .int .i64 ((fr : Int) + 1)] X (BPost B N ao no co w6 M) from by
              have hHp := HHp.out
              have hLn := HLn.out
              have hCl := HCl2.out
              have h := HIH.out (fr + 1) (t.drop H) L.2 (.slice av5 L.2.code.length cv5) (.slice al5 L.2.made.length cl5) X (HS6.out.r.below (hX.below _)) (by omega) HL2.out (by rw [HL2.out, hHp]; omega) hLn.1 (by rw [hHp]; omega)
              rw [Int.natCast_add, show ((1 : Nat) : Int) = 1 from rfl, HMe.out, ← HXr.out] at h
              exact bit_from h hX))
            unfold BPost at HB6
            clear HB4 HS4 HDq HS3 HR5 HK5
            go_upto_region 22 with fail
            refine wp_region_held_drew (S := (fun _ => True)) (by kernel_rfl) trivial (fun _ => ?_)
            refine wpAnyH_take (i := 1) (v := .string (strB t)) rfl (by kernel_rfl) (by kernel_rfl) (by kernel_rfl) (fun _ _ _ h => h) (Or.inl ⟨by rfl, fun w hSw => ?_⟩) trivial ?_
            · go_simp
            simp only [Act.put, List.setIfInBounds_toArray, List.set_cons_zero, List.set_cons_succ, List.getElem_toArray, List.getElem_cons_zero, List.getElem_cons_succ]
            refine wpAnyH_take (i := 2) (v := .int .i64 (H : Int)) rfl (by kernel_rfl) (by kernel_rfl) (by kernel_rfl) (fun _ _ _ h => h) (Or.inl ⟨by rfl, fun w hSw => ?_⟩) trivial ?_
            · go_simp
            simp only [Act.put, List.setIfInBounds_toArray, List.set_cons_zero, List.set_cons_succ, List.getElem_toArray, List.getElem_cons_zero, List.getElem_cons_succ]
            refine wpAnyH_take (i := 3) (v := .string ((strB t).extract H t.length)) rfl (by kernel_rfl) (by kernel_rfl) (by kernel_rfl) (fun _ _ _ h => h) (Or.inl ⟨by rfl, fun w hSw => ?_⟩) trivial ?_
            · go_simp
            simp only [Act.put, List.setIfInBounds_toArray, List.set_cons_zero, List.set_cons_succ, List.getElem_toArray, List.getElem_cons_zero, List.getElem_cons_succ]
            refine wpAnyH_take (i := 4) (v := .int .i64 (fr : Int)) rfl (by kernel_rfl) (by kernel_rfl) (by kernel_rfl) (fun _ _ _ h => h) (Or.inl ⟨by rfl, fun w hSw => ?_⟩) trivial ?_
            · go_simp
            simp only [Act.put, List.setIfInBounds_toArray, List.set_cons_zero, List.set_cons_succ, List.getElem_toArray, List.getElem_cons_zero, List.getElem_cons_succ]
            refine wpAnyH_take (i := 5) (v := .int .i64 ((fr : Int) + 1)) rfl (by kernel_rfl) (by kernel_rfl) (by kernel_rfl) (fun _ _ _ h => h) (Or.inl ⟨by rfl, fun w hSw => ?_⟩) trivial ?_
            · go_simp
            simp only [Act.put, List.setIfInBounds_toArray, List.set_cons_zero, List.set_cons_succ, List.getElem_toArray, List.getElem_cons_zero, List.getElem_cons_succ]
            refine wpAnyH_ready (rs := [0]) (by kernel_rfl) (by simp) (AllReadyH.cons rfl (fun K hK => ?_) AllReadyH.nil)
            go_simp
            refine hK.out _ _ trivial (fun _ => ?_)
            clear hK K
            try simp only [Act.put, List.setIfInBounds_toArray, List.set_cons_zero, List.set_cons_succ, List.getElem_toArray, List.getElem_cons_zero, List.getElem_cons_succ]
            refine wpAnyH_ready (rs := [6]) (by kernel_rfl) (by simp) (AllReadyH.cons rfl (fun K hK => ?_) AllReadyH.nil)
            go_simp
            (go_at_call 28; refine (HB6.out _ (by first | exact ⟨1, rfl⟩ | exact ⟨0, rfl⟩)).mono ?_; rintro e w7 ⟨vc7, vl7, rfl, hR7, hK7⟩; obtain ⟨av7, cv7, rfl⟩ := own_slice hR7.c; obtain ⟨al7, cl7, rfl⟩ := own_slice hR7.l; obtain ⟨⟨c0, c1, c2, c3⟩, f0, f1, f2, f3⟩ := mk_cells (hK7.row HS6.out.m (by decide) (by decide)); simp only [rmf] at c0 c1 c2 c3; have HR7 := hid hR7; have HK7 := hid hK7; clear hR7 hK7)
            try go_wp2_with fail
            refine hK.out _ _ trivial (fun _ => ?_)
            clear hK K
            try simp only [Act.put, List.setIfInBounds_toArray, List.set_cons_zero, List.set_cons_succ, List.getElem_toArray, List.getElem_cons_zero, List.getElem_cons_succ]
            refine wpAnyH_take (i := 7) (v := .tuple #[.agg #[.int .i64 (N : Int), .slice av7 M.2.code.length cv7, .slice ao no co, .slice al7 M.2.made.length cl7], .int .i64 M.1]) rfl (by kernel_rfl) (by kernel_rfl) (by kernel_rfl) (fun _ _ _ h => h) (Or.inl ⟨by rfl, fun w hSw => ?_⟩) trivial ?_
            · go_simp
            simp only [Act.put, List.setIfInBounds_toArray, List.set_cons_zero, List.set_cons_succ, List.getElem_toArray, List.getElem_cons_zero, List.getElem_cons_succ]
            refine wpAnyH_take (i := 8) (v := .agg #[.int .i64 (N : Int), .slice av7 M.2.code.length cv7, .slice ao no co, .slice al7 M.2.made.length cl7]) rfl (by kernel_rfl) (by kernel_rfl) (by kernel_rfl) (fun _ _ _ h => h) (Or.inl ⟨by rfl, fun w hSw => ?_⟩) trivial ?_
            · go_simp
            simp only [Act.put, List.setIfInBounds_toArray, List.set_cons_zero, List.set_cons_succ, List.getElem_toArray, List.getElem_cons_zero, List.getElem_cons_succ]
            refine wpAnyH_take (i := 9) (v := .int .i64 M.1) rfl (by kernel_rfl) (by kernel_rfl) (by kernel_rfl) (fun _ _ _ h => h) (Or.inl ⟨by rfl, fun w hSw => ?_⟩) trivial ?_
            · go_simp
            simp only [Act.put, List.setIfInBounds_toArray, List.set_cons_zero, List.set_cons_succ, List.getElem_toArray, List.getElem_cons_zero, List.getElem_cons_succ]
            refine wpAnyH_ready (rs := [10]) (by kernel_rfl) (by simp) (AllReadyH.cons rfl (fun K hK => ?_) AllReadyH.nil)
            go_simp
            refine hK.out _ _ trivial (fun _ => ?_)
            clear hK K
            try simp only [Act.put, List.setIfInBounds_toArray, List.set_cons_zero, List.set_cons_succ, List.getElem_toArray, List.getElem_cons_zero, List.getElem_cons_succ]
            refine wpAnyH_take (i := 11) (v := .int .i64 M.1) rfl (by kernel_rfl) (by kernel_rfl) (by kernel_rfl) (fun _ _ _ h => h) (Or.inl ⟨by rfl, fun w hSw => ?_⟩) trivial ?_
            · go_simp
            simp only [Act.put, List.setIfInBounds_toArray, List.set_cons_zero, List.set_cons_succ, List.getElem_toArray, List.getElem_cons_zero, List.getElem_cons_succ]
            refine wpAnyH_done (by kernel_rfl) ?_ _
            obtain ⟨w8, hw8⟩ : ∃ w8, (((w7.setCell ⟨g, 0, none⟩ (.int .i64 (N : Int))).setCell ⟨g, 1, none⟩ (.slice av7 M.2.code.length cv7)).setCell ⟨g, 2, none⟩ (.slice ao no co)).setCell ⟨g, 3, none⟩ (.slice al7 M.2.made.length cl7) = w8 := ⟨_, rfl⟩
            have HS8 := hid (show MkS B N w g (.slice ao no co) w8 (.slice av7 M.2.code.length cv7) (.slice al7 M.2.made.length cl7) M.2 by rw [← hw8]; exact HS6.out.put HR7.out HK7.out)
            rw [hw8]
            clear hw8 c0 c1 c2 c3 f0 f1 f2 f3
            obtain ⟨⟨c0, c1, c2, c3⟩, f0, f1, f2, f3⟩ := mk_cells HS8.out.m
            simp only [rmf] at c0 c1 c2 c3
            clear HB6 HS6 HR7 HK7
            have hM4 : M.2.code.length ≤ 60000 := by have h1 := HMn.out; have h2 := HLn.out; have h3 := HCl2.out; omega
            obtain ⟨A1, hA1⟩ : ∃ A : RSt, (⟨M.2.code ++ [⟨4, L.1, M.1⟩], M.2.made⟩ : RSt) = A := ⟨_, rfl⟩
            have HA1 := hid hA1
            have HAd0 := hid (show ∀ X, RMs B X (.slice av7 M.2.code.length cv7) (.slice al7 M.2.made.length cl7) M.2 → Calls Tryz.prog 59 #[.agg #[.int .i64 (N : Int), .slice av7 M.2.code.length cv7, .slice ao no co, .slice al7 M.2.made.length cl7], .int .i64 4, .int .i64 L.1, .int .i64 M.1] X (fun e w' => ∃ vc', e = .returned (.tuple #[.agg #[.int .i64 (N : Int), vc', .slice ao no co, .slice al7 M.2.made.length cl7], .int .i64 x1]) ∧ RMs B w' vc' (.slice al7 M.2.made.length cl7) A1 ∧ KT B X w') from fun X hX => by
              have h := radd_any B N (.slice av7 M.2.code.length cv7) (.slice al7 M.2.made.length cl7) ao no co M.2 4 L.1 M.1 X hX (by omega) hN
              rw [HXs.out.1, hA1] at h
              exact h)
            clear hA1
            go_upto_region 24 with (go_at_call 59; refine (HAd0.out _ HS8.out.r).mono ?_; rintro e w9 ⟨vc9, rfl, hR9, hK9⟩; obtain ⟨av9, cv9, rfl⟩ := own_slice hR9.c; obtain ⟨⟨c0, c1, c2, c3⟩, f0, f1, f2, f3⟩ := mk_cells (hK9.row HS8.out.m (by decide) (by decide)); simp only [rmf] at c0 c1 c2 c3; have HR9 := hid hR9; have HK9 := hid hK9; clear hR9 hK9)
            obtain ⟨w10, hw10⟩ : ∃ w10, (((w9.setCell ⟨g, 0, none⟩ (.int .i64 (N : Int))).setCell ⟨g, 1, none⟩ (.slice av9 A1.code.length cv9)).setCell ⟨g, 2, none⟩ (.slice ao no co)).setCell ⟨g, 3, none⟩ (.slice al7 M.2.made.length cl7) = w10 := ⟨_, rfl⟩
            have HS10 := hid (show MkS B N w g (.slice ao no co) w10 (.slice av9 A1.code.length cv9) (.slice al7 M.2.made.length cl7) A1 by rw [← hw10]; exact HS8.out.put HR9.out HK9.out)
            rw [hw10]
            clear hw10 c0 c1 c2 c3 f0 f1 f2 f3
            obtain ⟨⟨c0, c1, c2, c3⟩, f0, f1, f2, f3⟩ := mk_cells HS10.out.m
            simp only [rmf] at c0 c1 c2 c3
            clear HAd0 HS8 HR9 HK9
            obtain ⟨A2, hA2⟩ : ∃ A : RSt, (⟨A1.code ++ [⟨3, (fr : Int), x1⟩], A1.made⟩ : RSt) = A := ⟨_, rfl⟩
            have HA2 := hid hA2
            have HAd1 := hid (show ∀ X, RMs B X (.slice av9 A1.code.length cv9) (.slice al7 M.2.made.length cl7) A1 → Calls Tryz.prog 59 #[.agg #[.int .i64 (N : Int), .slice av9 A1.code.length cv9, .slice ao no co, .slice al7 M.2.made.length cl7], .int .i64 3, .int .i64 (fr : Int), .int .i64 x1] X (fun e w' => ∃ vc', e = .returned (.tuple #[.agg #[.int .i64 (N : Int), vc', .slice ao no co, .slice al7 M.2.made.length cl7], .int .i64 x2]) ∧ RMs B w' vc' (.slice al7 M.2.made.length cl7) A2 ∧ KT B X w') from fun X hX => by
              have h := radd_any B N (.slice av9 A1.code.length cv9) (.slice al7 M.2.made.length cl7) ao no co A1 3 (fr : Int) x1 X hX (show A1.code.length ≤ 100000 by rw [← HA1.out]; simp only [List.length_append, List.length_cons, List.length_nil]; omega) hN
              rw [(show ((N + A1.code.length : Nat) : Int) = x2 by rw [← HA1.out, ← HXs.out.2.1]; simp only [List.length_append, List.length_cons, List.length_nil]; omega), hA2] at h
              exact h)
            clear hA2
            go_upto_region 25 with (go_at_call 59; refine (HAd1.out _ HS10.out.r).mono ?_; rintro e w11 ⟨vc11, rfl, hR11, hK11⟩; obtain ⟨av11, cv11, rfl⟩ := own_slice hR11.c; obtain ⟨⟨c0, c1, c2, c3⟩, f0, f1, f2, f3⟩ := mk_cells (hK11.row HS10.out.m (by decide) (by decide)); simp only [rmf] at c0 c1 c2 c3; have HR11 := hid hR11; have HK11 := hid hK11; clear hR11 hK11)
            obtain ⟨w12, hw12⟩ : ∃ w12, (((w11.setCell ⟨g, 0, none⟩ (.int .i64 (N : Int))).setCell ⟨g, 1, none⟩ (.slice av11 A2.code.length cv11)).setCell ⟨g, 2, none⟩ (.slice ao no co)).setCell ⟨g, 3, none⟩ (.slice al7 M.2.made.length cl7) = w12 := ⟨_, rfl⟩
            have HS12 := hid (show MkS B N w g (.slice ao no co) w12 (.slice av11 A2.code.length cv11) (.slice al7 M.2.made.length cl7) A2 by rw [← hw12]; exact HS10.out.put HR11.out HK11.out)
            rw [hw12]
            clear hw12 c0 c1 c2 c3 f0 f1 f2 f3
            obtain ⟨⟨c0, c1, c2, c3⟩, f0, f1, f2, f3⟩ := mk_cells HS12.out.m
            simp only [rmf] at c0 c1 c2 c3
            clear HAd1 HS10 HR11 HK11
            obtain ⟨A3, hA3⟩ : ∃ A : RSt, (⟨A2.code ++ [⟨4, L.1, x2⟩], A2.made⟩ : RSt) = A := ⟨_, rfl⟩
            have HA3 := hid hA3
            have HAd2 := hid (show ∀ X, RMs B X (.slice av11 A2.code.length cv11) (.slice al7 M.2.made.length cl7) A2 → Calls Tryz.prog 59 #[.agg #[.int .i64 (N : Int), .slice av11 A2.code.length cv11, .slice ao no co, .slice al7 M.2.made.length cl7], .int .i64 4, .int .i64 L.1, .int .i64 x2] X (fun e w' => ∃ vc', e = .returned (.tuple #[.agg #[.int .i64 (N : Int), vc', .slice ao no co, .slice al7 M.2.made.length cl7], .int .i64 x3]) ∧ RMs B w' vc' (.slice al7 M.2.made.length cl7) A3 ∧ KT B X w') from fun X hX => by
              have h := radd_any B N (.slice av11 A2.code.length cv11) (.slice al7 M.2.made.length cl7) ao no co A2 4 L.1 x2 X hX (show A2.code.length ≤ 100000 by rw [← HA2.out, ← HA1.out]; simp only [List.length_append, List.length_cons, List.length_nil]; omega) hN
              rw [(show ((N + A2.code.length : Nat) : Int) = x3 by rw [← HA2.out, ← HA1.out, ← HXs.out.2.2]; simp only [List.length_append, List.length_cons, List.length_nil]; omega), hA3] at h
              exact h)
            clear hA3
            go_upto_region 26 with (go_at_call 59; refine (HAd2.out _ HS12.out.r).mono ?_; rintro e w13 ⟨vc13, rfl, hR13, hK13⟩; obtain ⟨av13, cv13, rfl⟩ := own_slice hR13.c; obtain ⟨⟨c0, c1, c2, c3⟩, f0, f1, f2, f3⟩ := mk_cells (hK13.row HS12.out.m (by decide) (by decide)); simp only [rmf] at c0 c1 c2 c3; have HR13 := hid hR13; have HK13 := hid hK13; clear hR13 hK13)
            obtain ⟨w14, hw14⟩ : ∃ w14, (((w13.setCell ⟨g, 0, none⟩ (.int .i64 (N : Int))).setCell ⟨g, 1, none⟩ (.slice av13 A3.code.length cv13)).setCell ⟨g, 2, none⟩ (.slice ao no co)).setCell ⟨g, 3, none⟩ (.slice al7 M.2.made.length cl7) = w14 := ⟨_, rfl⟩
            have HS14 := hid (show MkS B N w g (.slice ao no co) w14 (.slice av13 A3.code.length cv13) (.slice al7 M.2.made.length cl7) A3 by rw [← hw14]; exact HS12.out.put HR13.out HK13.out)
            rw [hw14]
            clear hw14 c0 c1 c2 c3 f0 f1 f2 f3
            obtain ⟨⟨c0, c1, c2, c3⟩, f0, f1, f2, f3⟩ := mk_cells HS14.out.m
            simp only [rmf] at c0 c1 c2 c3
            clear HAd2 HS12 HR13 HK13
            have HLo := hid (HS14.out.r.l)
            have HLb := hid (HS14.out.r.lb)
            have HAm := hid (show M.2.made = A3.made by rw [← HA3.out, ← HA2.out, ← HA1.out])
            rw [← HAm.out] at HLo
            have hmade : M.2.made.length ≤ 60000 := by have h1 := HMn.out; omega
            go_upto_region 27 with (at_builtin; refine wpList_push w14 rfl _ _ 64 rfl B 119 (.agg #[.string ⟨#[]⟩, .int .i64 0, .int .i64 0]) 3 32 Tryz.underSMade Tryz.infoMade rfl (by decide) (.slice al7 M.2.made.length cl7) M.2.made.length (mcells M.2.made) rfl HLo.out #[.string (strB t), .int .i64 (fr : Int), .int .i64 x3] rfl (by intro u hu; simp at hu; rcases hu with rfl | rfl | rfl <;> rfl) rfl (by unfold maxLen; omega) (by omega) HLb.out ?_; intro gv capv w15 hown15 hg15 hb15; have HG15 := hid hg15; have HO15 := hid hown15; obtain ⟨⟨c0, c1, c2, c3⟩, f0, f1, f2, f3⟩ := mk_cells ((KT.grow HLo.out (.inr rfl) hg15).row HS14.out.m (by decide) (by decide)); simp only [rmf] at c0 c1 c2 c3; clear hown15 hg15 hb15)
            obtain ⟨w16, hw16⟩ : ∃ w16, w15.setCell ⟨g, 3, none⟩ (.slice (some ⟨gv, 0, none⟩) (M.2.made.length + 1) capv) = w16 := ⟨_, rfl⟩
            have HS16 := hid (show MkS B N w g (.slice ao no co) w16 (.slice av13 A3.code.length cv13) (.slice (some ⟨gv, 0, none⟩) (M.2.made.length + 1) capv) R.2 by
              have h := HS14.out.push (e := (((fr : Int), t), x3)) HG15.out (by rw [← HAm.out]; exact HO15.out)
              rw [hw16] at h
              have e : R.2 = ⟨A3.code, A3.made ++ [(((fr : Int), t), x3)]⟩ := by
                rw [HF.out, ← HA3.out, ← HA2.out, ← HA1.out]
                simp only [RSt.put, List.append_assoc, List.cons_append, List.nil_append]
              rw [e]
              exact h)
            have HF1 := hid (show R.1 = x3 by rw [HF.out])
            rw [hw16]
            clear hw16 c0 c1 c2 c3 f0 f1 f2 f3 HF HS14 HG15 HO15 HLo
            obtain ⟨⟨c0, c1, c2, c3⟩, _⟩ := mk_cells HS16.out.m
            obtain ⟨⟨z0, z1, z2, z3⟩, y0, y1, y2, y3⟩ := mk_cells HS16.out.z
            simp only [rmf] at c0 c1 c2 c3 z0 z1 z2 z3
            generalize A3.code.length = CL3 at *
            go_wp2_with fail
            refine bodyPost_ret (v := .tuple #[.agg #[.int .i64 (N : Int), .slice av13 CL3 cv13, .slice ao no co, .slice (some ⟨gv, 0, none⟩) (M.2.made.length + 1) capv], .int .i64 x3]) ?_ rfl ⟨.slice av13 CL3 cv13, .slice (some ⟨gv, 0, none⟩) (M.2.made.length + 1) capv, ?_, ?_, ?_⟩
            · simp [results, Tryz.results28, go_sem, z0, z1, z2, z3]
            · rw [HF1.out]
            · exact (HS16.out.fin HS16.out.r (KT.refl _ _) _ _ _ _).1
            · exact (HS16.out.fin HS16.out.r (KT.refl _ _) _ _ _ _).2
end Go.Proofs.YtcdfghogmdhfcaaGreatDoor
