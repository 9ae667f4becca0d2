/-
  The reference's Encoder at a valid encoder that is not large: the same program as program.Encoder's.
  No condition beyond the rows lying in a slice. The encoder is small.
-/
import Derived.Test.YtcdfghogmdhfcaaGreatDoorMg38
import Derived.Test.YtcdfghogmdhfcaaGreatDoorEncSide
namespace Go.Proofs.YtcdfghogmdhfcaaGreatDoor
open Go.RowKit Go.Deep
set_option linter.unusedVariables false

/-- The tables behind n rows and k further letters. -/
def Fk (rows : List (List Cl)) (q N inp ib n k : Nat) : Nat → List UInt8 := fun j => (List.range (if j < k then n + 1 else n)).map (tabI rows q N inp ib j)
theorem Fk_at (rows : List (List Cl)) (q N inp ib n k : Nat) : (Fk rows q N inp ib n k k).length = n := by simp [Fk]
theorem Fk_succ (rows : List (List Cl)) (q N inp ib n k : Nat) : updF (Fk rows q N inp ib n k) k (tabI rows q N inp ib k n) = Fk rows q N inp ib n (k + 1) := by
  funext j
  unfold updF Fk
  by_cases e : j = k
  · subst e
    rw [if_pos rfl, if_neg (Nat.lt_irrefl _), if_pos (by omega), List.range_succ, List.map_append]
    rfl
  · rw [if_neg e]
    by_cases h : j < k
    · rw [if_pos h, if_pos (by omega)]
    · rw [if_neg h, if_neg (by omega)]
theorem TBR.congr {B b O : Nat} {F F' : Nat → List UInt8} {W : World} {V : Nat → Value} (h : TBR B b O F W V) (e : ∀ j, j < O → F j = F' j) : TBR B b O F' W V := ⟨h.lb, h.t, fun k hk => by rw [← e k hk]; exact h.r k hk, h.ap⟩
theorem Fk_end (rows : List (List Cl)) (q N inp ib n O : Nat) {j : Nat} (hj : j < O) : Fk rows q N inp ib n O j = Fk rows q N inp ib (n + 1) 0 j := by
  unfold Fk
  rw [if_pos hj, if_neg (by omega)]
/-- The bits that a round of the reference appends. -/
theorem tabI_in {rows : List (List Cl)} {q N inp ib k n : Nat} (h : n / 2 ^ ib < N ∧ n % 2 ^ ib < inp) {row : List Cl} {x : Cl} (h1 : rows[n / 2 ^ ib]? = some row) (h2 : row[n % 2 ^ ib]? = some x) : tabI rows q N inp ib k n = bitC ((cellBits q N x).getD k false) := by
  unfold tabI
  rw [if_pos h]
  have e : (rows.getD (n / 2 ^ ib) []).getD (n % 2 ^ ib) ⟨0, ⟨#[]⟩⟩ = x := by
    rw [List.getD_eq_getElem?_getD, List.getD_eq_getElem?_getD, h1, Option.getD_some, h2, Option.getD_some]
  rw [e]
  rfl
theorem tabI_out {rows : List (List Cl)} {q N inp ib k n : Nat} (h : ¬ (n / 2 ^ ib < N ∧ n % 2 ^ ib < inp)) : tabI rows q N inp ib k n = 48 := by
  unfold tabI
  rw [if_neg h]
theorem binL_zero : ∀ (O k : Nat), (binL O 0).getD k false = false
  | 0, k => by simp [binL]
  | O + 1, 0 => by simp [binL]
  | O + 1, k + 1 => by
    have := binL_zero O k
    rw [binL]
    simpa using this
/-- While the outputs are made: the maker's box and rows, the outputs, the tables, the boxes of the call. -/
structure LM (w : World) (gm O bt q bl I : Nat) (v : Value) (F : Nat → List UInt8) (VV : Nat → Value) (W : World) (f : Nat → Value) (vc vo vl : Value) (rs : RSt) (outs : List Int) : Prop where
  r : RMs w.heap.size W vc vl rs
  m : W.rowIs gm 66 4 f
  o : W.ownsRow w.heap.size 3 1 vo outs.length (ints outs)
  t : TBR w.heap.size bt O F W VV
  e : RE w q bl I v W
section
variable {w : World} {gm O bt q bl I : Nat} {v : Value} {F : Nat → List UInt8} {VV : Nat → Value} {W W' : World} {f : Nat → Value} {vc vo vl vc' vo' vl' : Value} {rs rs' : RSt} {outs : List Int}
theorem LM.below (h : LM w gm O bt q bl I v F VV W f vc vo vl rs outs) (hb : Below W.heap.size W W') : LM w gm O bt q bl I v F VV W' f vc vo vl rs outs := ⟨h.r.below hb, row_below h.m hb, own_below h.o hb, h.t.below hb, h.e.below hb⟩
theorem LM.kt (h : LM w gm O bt q bl I v F VV W f vc vo vl rs outs) (hr : RMs w.heap.size W' vc' vl' rs') (hk : KT w.heap.size W W') : LM w gm O bt q bl I v F VV W' f vc' vo vl' rs' outs :=
  ⟨hr, hk.row h.m (by decide) (by decide), own_kt hk h.o (by decide) (by decide), h.t.kt hk, h.e.kt hk⟩
theorem LM.set (h : LM w gm O bt q bl I v F VV W f vc vo vl rs outs) (g1 : w.heap.size + 2 ≤ gm) (g2 : bt ≠ gm) (j : Nat) (u : Value) : LM w gm O bt q bl I v F VV (W.setCell ⟨gm, j, none⟩ u) (fun i => if i = j then u else f i) vc vo vl rs outs := by
  obtain ⟨c, hc⟩ := id h.m
  refine ⟨h.r.set h.m (by decide) (by decide) j u, h.m.set j u, own_set h.o (a := ⟨gm, j, none⟩) hc.1 (by decide) u, ⟨?_, h.t.t.setOther g2 _, fun k hk => own_set (h.t.r k hk) (a := ⟨gm, j, none⟩) hc.1 (by decide) u, h.t.ap⟩, h.e.set (a := ⟨gm, j, none⟩) (by show w.heap.size ≤ gm; omega) (by show w.heap.size ≠ gm; omega) (by show w.heap.size + 1 ≠ gm; omega) u⟩
  have := h.t.lb
  simpa using this
theorem LM.congr {f' : Nat → Value} (h : LM w gm O bt q bl I v F VV W f vc vo vl rs outs) (e : ∀ i, i < 4 → f i = f' i) : LM w gm O bt q bl I v F VV W f' vc vo vl rs outs := ⟨h.r, h.m.congr e, h.o, h.t, h.e⟩
theorem LM.put {N : Nat} (h : LM w gm O bt q bl I v F VV W f vc vo vl rs outs) (g1 : w.heap.size + 2 ≤ gm) (g2 : bt ≠ gm) : LM w gm O bt q bl I v F VV ((((W.setCell ⟨gm, 0, none⟩ (.int .i64 N)).setCell ⟨gm, 1, none⟩ vc).setCell ⟨gm, 2, none⟩ vo).setCell ⟨gm, 3, none⟩ vl) (rmf N vc vo vl) vc vo vl rs outs := by
  refine ((((h.set g1 g2 0 _).set g1 g2 1 _).set g1 g2 2 _).set g1 g2 3 _).congr fun i hi => ?_
  have : i = 0 ∨ i = 1 ∨ i = 2 ∨ i = 3 := by omega
  rcases this with rfl | rfl | rfl | rfl <;> rfl
theorem LM.grow {x : Int} (h : LM w gm O bt q bl I v F VV W f vc vo vl rs outs) (hg : W.grownBy W' vo.ownBlock) (ho : W'.ownsRow w.heap.size 3 1 vo' (outs.length + 1) (ints outs ++ [.int .i64 x])) : LM w gm O bt q bl I v F VV W' f vc vo' vl rs (outs ++ [x]) := by
  refine ⟨⟨Nat.le_trans h.r.lb hg.size, own_grown h.r.c hg (own_apart h.r.c h.o (by decide)), own_grown h.r.l hg (own_apart h.r.l h.o (by decide))⟩, row_grown h.m hg (row_own_ne h.m h.o (by decide)), ?_, ⟨Nat.le_trans h.t.lb hg.size, row_grown h.t.t hg (row_own_ne h.t.t h.o (by decide)), fun k hk => own_grown (h.t.r k hk) hg (own_apart (h.t.r k hk) h.o (by decide)), h.t.ap⟩, h.e.grow h.o hg (by decide) (by decide)⟩
  rw [List.length_append]
  have e : ints (outs ++ [x]) = ints outs ++ [.int .i64 x] := by simp [ints]
  rw [e]
  exact ho
end
set_option maxRecDepth 100000 in
set_option maxHeartbeats 8000000 in
theorem rencoder_any (q bl I : Nat) (v : Value) (rows : List (List Cl)) (w : World) (hM : MC w v rows) (hE : eErr (q : Int) (bl : Int) (I : Int) rows = 0) (hV : SmallE q bl I rows) :
    Calls Tryz.prog 8 #[.agg #[.int .i64 (q : Int), .int .i64 (bl : Int), .int .i64 (I : Int), v]] w fun e w' => ∃ vc vo, e = .returned (.tuple #[.agg #[.int .i64 ((wid rows.length + wid I : Nat) : Int), vc, vo], .int .i64 0]) ∧ Sl 3 w' vc (encP q bl I rows).1.code.length (icells (encP q bl I rows).1.code) ∧ Sl 1 w' vo (encP q bl I rows).2.length (ints (encP q bl I rows).2) ∧ Below w.heap.size w w' := by
  have HM := hid hM
  have HV := hid hV
  have HCk := hid (fun X h => rechk_any (q : Int) (bl : Int) (I : Int) v rows X h)
  rw [hE] at HCk
  obtain ⟨ao, cap, rfl, hc1, hc2⟩ := hM.slice
  have hq1 := hV.v.q1
  have hq2 := hV.v.q16
  have hb2 := hV.v.b16
  have hi1 := hV.v.i1
  have hi2 := hV.i6
  have hn1 := hV.v.r1
  have hn2 := hV.n6
  obtain ⟨hSB, hIB, hWQ, hF4, hF5⟩ := hV.wids
  have HW1 := hid (fun X => rwidth_any rows.length X (by omega) (by omega))
  have HW2 := hid (fun X => rwidth_any I X (by omega) (by omega))
  have HW3 := hid (fun X => rwidth_any q X (by omega) (by omega))
  have HEp := hid (show encP q bl I rows = mkAll (wid rows.length + wid I) (encTabs q bl I rows) from rfl)
  have HTb := hid (encTabs_ok q bl I rows)
  have HTd := hid (show encTabs q bl I rows = (List.range (wid rows.length + bl * wid q)).map fun i => tabL rows q rows.length I (wid rows.length) (wid I) i from rfl)
  clear hM hE hV
  obtain ⟨SB, hSBe⟩ : ∃ n, wid rows.length = n := ⟨_, rfl⟩
  obtain ⟨IB, hIBe⟩ : ∃ n, wid I = n := ⟨_, rfl⟩
  obtain ⟨WQ, hWQe⟩ : ∃ n, wid q = n := ⟨_, rfl⟩
  rw [hSBe, hIBe] at HEp HTb
  rw [hSBe, hIBe, hWQe] at HTd
  rw [hSBe] at hSB hF4
  rw [hIBe] at hIB hF5
  rw [hWQe] at hWQ HW3
  obtain ⟨Sz, hSz⟩ : ∃ z : Int, (SB : Int) = z := ⟨_, rfl⟩
  obtain ⟨Iz, hIz⟩ : ∃ z : Int, (IB : Int) = z := ⟨_, rfl⟩
  rw [hSBe, hSz] at HW1
  rw [hIBe, hIz] at HW2
  have HWe := hid (And.intro hSBe (And.intro hIBe hWQe))
  have HZe := hid (And.intro hSz hIz)
  have hS0 : 0 ≤ Sz := by omega
  have hS3 : Sz ≤ 3 := by omega
  have hI0 : 0 ≤ Iz := by omega
  have hI3 : Iz ≤ 3 := by omega
  clear hSBe hIBe hWQe
  go_enter Tryz.func8, Tryz.ntmps8
  go_upto_region 1 with fail
  obtain ⟨w0, hw0⟩ : ∃ w0, (w.alloc (.cells #[.int .i64 (q : Int), .int .i64 (bl : Int), .int .i64 (I : Int), .slice ao rows.length cap] 24)).alloc (.cells #[.int .i64 0, .slice none 0 0, .slice none 0 0] 28) = w0 := ⟨_, rfl⟩
  have HE0 := hid (show RE w q bl I (.slice ao rows.length cap) w0 by
    rw [← hw0]
    refine ⟨?_, ?_, (bel_alloc _ _).alloc (by simp) _⟩
    · refine World.rowIs.alloc (World.rowIs_alloc w #[.int .i64 (q : Int), .int .i64 (bl : Int), .int .i64 (I : Int), .slice ao rows.length cap] _ _ fun i hi => ?_) _
      have : i = 0 ∨ i = 1 ∨ i = 2 ∨ i = 3 := by simp at hi; omega
      rcases this with rfl | rfl | rfl | rfl <;> rfl
    · have h := World.rowIs_alloc (w.alloc (.cells #[.int .i64 (q : Int), .int .i64 (bl : Int), .int .i64 (I : Int), .slice ao rows.length cap] 24)) #[.int .i64 0, .slice none 0 0, .slice none 0 0] 28 zfun fun i hi => by
        have : i = 0 ∨ i = 1 ∨ i = 2 := by simp at hi; omega
        rcases this with rfl | rfl | rfl <;> rfl
      rw [World.size_alloc] at h
      exact h)
  rw [hw0]
  clear hw0
  obtain ⟨c0, c1, c2, c3⟩ := HE0.out.cells
  go_upto_region 3 with (go_at_call 24; refine (HCk.out _ (HM.out.below HE0.out.b)).mono ?_; rintro e w1 ⟨rfl, hb1⟩; have HE1 := hid (HE0.out.below hb1); clear hb1)
  clear HCk HE0 c0 c1 c2 c3
  obtain ⟨c0, c1, c2, c3⟩ := HE1.out.cells
  go_region_held3 (fun w' => w'.cell? ⟨w.heap.size, 2, none⟩ = some (.int .i64 (I : Int)) ∧ w'.cell? ⟨w.heap.size, 3, none⟩ = some (.slice ao rows.length cap))
    (first | exact ⟨c2, c3⟩ | go_keep)
    (first
      | (have _g := HM1.out; clear _g; go_at_call 25; refine (HW2.out _).mono ?_; rintro e w2 ⟨rfl, rfl⟩)
      | (go_at_call 25; refine (HW1.out _).mono ?_; rintro e w2 ⟨rfl, rfl⟩; have HM1 := hid True.intro))
  have HE2 := hid (show RE w q bl I (.slice ao rows.length cap) w1.drew from HE1.out.below (below_drewN (Below.refl _ _) 1))
  clear HE1 HM1 HW1 HW2 c0 c1 c2 c3
  generalize w1.drew = w2 at *
  obtain ⟨c0, c1, c2, c3⟩ := HE2.out.cells
  have hBW : bl * WQ ≤ 64 := Nat.mul_le_mul (show bl ≤ 16 by omega) hWQ
  obtain ⟨O, hO⟩ : ∃ O : Nat, SB + bl * WQ = O := ⟨_, rfl⟩
  have hmul : IntKind.i64.wrap ((bl : Int) * (WQ : Int)) = ((bl * WQ : Nat) : Int) := by rw [← Int.natCast_mul]; exact IntWalk.i64_in _ (by omega)
  obtain ⟨BW, hBe⟩ : ∃ BW : Nat, bl * WQ = BW := ⟨_, rfl⟩
  rw [hBe] at hmul hBW hO
  have hO2 : IntKind.i64.wrap (Sz + (BW : Int)) = (O : Int) := (IntWalk.i64_in _ (by omega)).trans (by omega)
  have hO67 : O ≤ 67 := by omega
  rw [hBe, hO] at HTd
  have HBe := hid (And.intro hBe hO)
  clear hBe hO
  go_upto_region 4 with fail
  go_region_held3 (fun w' => w'.cell? ⟨w.heap.size, 0, none⟩ = some (.int .i64 (q : Int)) ∧ w'.cell? ⟨w.heap.size, 1, none⟩ = some (.int .i64 (bl : Int)))
    (first | exact ⟨c0, c1⟩ | go_keep)
    (first | (go_at_call 25; refine (HW3.out _).mono ?_; rintro e w3 ⟨rfl, rfl⟩))
  have HE3 := hid (show RE w q bl I (.slice ao rows.length cap) w2.drew from HE2.out.below (below_drewN (Below.refl _ _) 1))
  clear HE2 HW3 hmul hO2 c0 c1 c2 c3
  generalize w2.drew = w3 at *
  have hmk : ∀ w, (Instr.makeSlice 53 (.int .i64 (O : Int)) (.int .i64 (O : Int))).run Tryz.prog w = .ok (.slice (some ⟨w.heap.size, 0, none⟩) O O) (w.alloc (.cells (madeCells #[.slice none 0 0] O) 54)) := fun w => run_make_row' (P := Tryz.prog) 53 54 (.slice none 0 0) 24 Tryz.underlying53 Tryz.infoBytes rfl .i64 .i64 O (by omega) (by omega) w
  go_upto_region 7 with fail
  obtain ⟨w4, hw4⟩ : ∃ w4, w3.alloc (.cells (madeCells #[.slice none 0 0] O) 54) = w4 := ⟨_, rfl⟩
  have hb4 : Below w3.heap.size w3 w4 := by rw [← hw4]; exact bel_alloc _ _
  have HE4 := hid (HE3.out.below hb4)
  have HT4 := hid (show TBR w.heap.size w3.heap.size O (fun _ => []) w4 (fun _ => .slice none 0 0) from TBR.start w3 w.heap.size O HE3.out.b.size (by rw [← hw4]; exact (World.rowIs_made w3 (.slice none 0 0) O 54).congr fun i _ => by simp) hb4.size)
  have HBt := hid (show w.heap.size + 2 ≤ w3.heap.size by have h1 := HE3.out.z.lt; omega)
  rw [hw4]
  clear hw4 hb4 hmk HE3
  generalize w3.heap.size = bt at *
  obtain ⟨nR, hnR⟩ : ∃ n, rows.length = n := ⟨_, rfl⟩
  rw [hnR] at hn1 hn2 hF4 hc1 HE4 HTd ⊢
  have HN := hid hnR
  clear hnR
  obtain ⟨V, hVe⟩ : ∃ V : Int, Sz + Iz = V := ⟨_, rfl⟩
  obtain ⟨SZ, hSZ⟩ : ∃ SZ : Nat, 2 ^ (SB + IB) = SZ := ⟨_, rfl⟩
  obtain ⟨P, hP⟩ : ∃ P : Nat, 2 ^ IB = P := ⟨_, rfl⟩
  have hSZ64 : SZ ≤ 64 := by rw [← hSZ]; exact Nat.le_trans (Nat.pow_le_pow_right (by decide) (show SB + IB ≤ 6 by omega)) (by decide)
  have hP8 : P ≤ 8 := by rw [← hP]; exact Nat.le_trans (Nat.pow_le_pow_right (by decide) hIB) (by decide)
  have hP1 : 1 ≤ P := by rw [← hP]; exact Nat.one_le_two_pow
  have HSz := hid hSZ
  have HPe := hid hP
  have HSh := hid (show IntKind.i64.wrap (2 ^ V.toNat) = (SZ : Int) ∧ IntKind.i64.wrap (2 ^ Iz.toNat) = (P : Int) by
    refine ⟨?_, ?_⟩
    · have : V.toNat = SB + IB := by omega
      rw [this]
      have h2 : ((2 : Int) ^ (SB + IB)) = (SZ : Int) := by rw [← hSZ]; simp
      rw [h2]
      exact IntWalk.i64_in _ (by omega)
    · have : Iz.toNat = IB := by omega
      rw [this]
      have h2 : ((2 : Int) ^ IB) = (P : Int) := by rw [← hP]; simp
      rw [h2]
      exact IntWalk.i64_in _ (by omega))
  have HShr := hid (fun n : Nat => show (n : Int) / 2 ^ Iz.toNat = ((n / P : Nat) : Int) by
    have : Iz.toNat = IB := by omega
    rw [this, ← hP]; simp)
  have HAnd := hid (fun (n : Nat) (hn : n < 1000) => show bits .and .i64 (n : Int) ((P - 1 : Nat) : Int) = ((n % P : Nat) : Int) by
    rw [and_i64 n (P - 1) (by omega) (by omega), ← hP, Nat.and_two_pow_sub_one_eq_mod])
  have hV0 : 0 ≤ V := by omega
  have hV6 : V ≤ 6 := by omega
  have HVe := hid hVe
  clear hSZ hP hSz hIz
  have hwV : IntKind.i64.wrap (Sz + Iz) = V := by rw [hVe]; exact IntWalk.i64_in _ (by omega)
  have HwV := hid hwV
  clear hwV hVe
  go_loopw [8] (fun i wr => ∃ (n : Nat) (VV : Nat → Value), n ≤ SZ ∧ i = .int .i64 (n : Int) ∧ Hid (TBR w.heap.size bt O (Fk rows q nR I IB n 0) wr VV) ∧ Hid (RE w q bl I (.slice ao nR cap) wr)) (fun i _ => SZ - (intOf i).toNat)
  case atStart => exact ⟨0, _, Nat.zero_le _, rfl, hid (HT4.out.congr fun j _ => by simp [Fk]), HE4⟩
  case round =>
    clear HT4 HE4
    obtain ⟨n, VV, hn, rfl, HT, HE⟩ := hrel
    rename World => wr
    by_cases hlt : n < SZ
    · have hltI : (n : Int) < (SZ : Int) := by omega
      have hshl := HSh.out.1
      have hwV := HwV.out
      have hVe := HVe.out
      go_upto_region 9 with fail
      clear hshl hwV hVe
      obtain ⟨P1, hP1e⟩ : ∃ P1, P - 1 = P1 := ⟨_, rfl⟩
      have hsub : IntKind.i64.wrap ((P : Int) - 1) = (P1 : Int) := (IntWalk.i64_in _ (by omega)).trans (by omega)
      have HSb := hid hsub
      clear hsub
      have hshr := HShr.out n
      have hand := HAnd.out n (by omega)
      rw [hP1e] at hand
      have HDm := hid (show n / 2 ^ IB = n / P ∧ n % 2 ^ IB = n % P from ⟨by rw [HPe.out], by rw [HPe.out]⟩)
      have hPn := Nat.mod_lt n (show 0 < P by omega)
      have hPd := Nat.div_le_self n P
      generalize n / P = a at *
      generalize n % P = b at *
      have hsub := HSb.out
      have hshl := HSh.out.2
      go_quiet (fail)
      have HT5 := hid (HT.out.below (below_drewN (Below.refl _ _) nq))
      have HE5 := hid (HE.out.below (below_drewN (Below.refl _ _) nq))
      clear hsub hshl hand hshr HSb hP1e HT HE
      generalize wr.drewN nq = w5 at *
      obtain ⟨c0, c1, c2, c3⟩ := HE5.out.cells
      have HBz := hid (fun X => show Calls Tryz.prog 26 #[.int .i64 0, .int .i64 (O : Int)] X (fun e w' => e = .returned (.string (bitS (binL O 0))) ∧ Below X.heap.size X w') from rbinary_any 0 O X (by omega) (by omega))
      go_upto_region 11 with (go_at_call 26; refine (HBz.out _).mono ?_; rintro e w6 ⟨rfl, hb6⟩; have HE6 := hid (HE5.out.below hb6); have HT6 := hid (HT5.out.below hb6); clear hb6)
      clear c0 c1 c2 c3 HE5 HT5
      obtain ⟨c0, c1, c2, c3⟩ := HE6.out.cells
      go_cut [65] (fun u w' => u = .bool (decide (a < nR ∧ b < I)) ∧ w6 = w')
      case first =>
        by_cases ha : a < nR
        · have haI : (a : Int) < (nR : Int) := by omega
          by_cases hb : b < I
          · have hbI : (b : Int) < (I : Int) := by omega
            have HD := hid (decide_eq_true (And.intro ha hb))
            clear ha hb
            go_wp2
            go_meet
            exact ⟨by rw [HD.out], rfl⟩
          · have hbI : ¬ (b : Int) < (I : Int) := by omega
            have HD := hid (decide_eq_false (fun h : a < nR ∧ b < I => hb h.2))
            clear hb
            go_wp2
            go_meet
            exact ⟨by rw [HD.out], rfl⟩
        · have haI : ¬ (a : Int) < (nR : Int) := by omega
          have HD := hid (decide_eq_false (fun h : a < nR ∧ b < I => ha h.1))
          clear ha
          go_wp2
          go_meet
          exact ⟨by rw [HD.out], rfl⟩
      case rest =>
        obtain ⟨rfl, hww⟩ := hcut
        subst hww
        go_upto_if 65 with fail
        go_cut [11] (fun u w' => ∃ BT : List Bool, u = .string (bitS BT) ∧ BT.length = O ∧ Hid (∀ k, k < O → bitC (BT.getD k false) = tabI rows q nR I IB k n) ∧ Hid (Below w6.heap.size w6 w'))
        case first =>
          by_cases hab : a < nR ∧ b < I
          · rw [decide_eq_true hab]
            obtain ⟨ha, hb⟩ := hab
            obtain ⟨row, hrow⟩ := some_of_lt (l := rows) (k := a) (by rw [HN.out]; exact ha)
            have hrl : row.length = I := by have := HV.out.v.len row (List.mem_of_getElem? hrow); omega
            obtain ⟨x, hx⟩ := some_of_lt (l := row) (k := b) (by rw [hrl]; exact hb)
            have hxm := List.mem_of_getElem? hx
            have hrm := List.mem_of_getElem? hrow
            have HBT := hid (show ∀ k, k < O → bitC ((cellBits q nR x).getD k false) = tabI rows q nR I IB k n from fun k _ =>
              (tabI_in (by rw [HDm.out.1, HDm.out.2]; exact ⟨ha, hb⟩) (by rw [HDm.out.1]; exact hrow) (by rw [HDm.out.2]; exact hx)).symm)
            have hto0 := HV.out.v.to0 row hrm x hxm
            have hto1 := HV.out.v.to1 row hrm x hxm
            have hxs : x.word.size = bl := by have := HV.out.v.sz row hrm x hxm; omega
            have HBl := hid (show (cellBits q nR x).length = O by
              rw [← HN.out, cellBits_len, hxs, HWe.out.1, HWe.out.2.2, HBe.out.1, HBe.out.2])
            have HCel := hid (fun X => rcell_any q nR (bl : Int) (I : Int) ao cap x X (by omega) (by omega) (by omega) (by omega) hto0 (by rw [HN.out] at hto1; omega) (HV.out.v.wd row hrm x hxm) (by omega))
            obtain ⟨br, o2, r, cr, rfl, n1, hSl⟩ := HM.out.row hrow
            have n1 := keeps HE6.out.b n1
            obtain ⟨b2, o3, rfl, m1, m2⟩ := (hSl.below HE6.out.b).cl hx
            have haI : (a : Int) < (nR : Int) := by omega
            have hbI : (b : Int) < (row.length : Int) := by omega
            clear hrow hx hxm hrm hto0 hto1 hxs hSl ha hb hrl
            go_upto_region 12 with fail
            go_region_held3 (fun w' => w'.cell? ⟨w.heap.size, 0, none⟩ = some (.int .i64 (q : Int)) ∧ w'.cell? ⟨w.heap.size, 1, none⟩ = some (.int .i64 (bl : Int)) ∧ w'.cell? ⟨w.heap.size, 2, none⟩ = some (.int .i64 (I : Int)) ∧ w'.cell? ⟨w.heap.size, 3, none⟩ = some (.slice (some ⟨br, o2, none⟩) nR cap) ∧ w'.cell? ⟨br, o2 + a, none⟩ = some (.slice (some ⟨b2, o3, none⟩) row.length cr) ∧ w'.cell? ⟨b2, o3 + b * 2, none⟩ = some (.int .i64 x.st) ∧ w'.cell? ⟨b2, o3 + b * 2 + 1, none⟩ = some (.string x.word))
              (first | exact ⟨c0, c1, c2, c3, n1, m1, m2⟩ | go_keep)
              (first | (go_at_call 27; refine (HCel.out _).mono ?_; rintro e w8 ⟨rfl, hb8⟩; have hb8 := (below_drewN (Below.refl w6.heap.size w6) 1).trans hb8; have c0 := keeps hb8 c0; have c1 := keeps hb8 c1; have c2 := keeps hb8 c2; have c3 := keeps hb8 c3; have n1 := keeps hb8 n1; have m1 := keeps hb8 m1; have m2 := keeps hb8 m2; have HB8 := hid hb8; clear hb8))
            all_goals
              go_wp2
              go_meet
              exact ⟨_, rfl, HBl.out, HBT, HB8⟩
          · rw [decide_eq_false hab]
            have HBT := hid (show ∀ k, k < O → bitC ((binL O 0).getD k false) = tabI rows q nR I IB k n from fun k _ => by
              rw [binL_zero, tabI_out (by rw [HDm.out.1, HDm.out.2]; exact hab)]; rfl)
            clear hab
            go_wp2
            go_meet
            exact ⟨_, rfl, binL_len _ _, HBT, hid (Below.refl _ _)⟩
        case rest =>
          obtain ⟨BT, rfl, hBl, HBT, HBw⟩ := hcut
          rename World => w7
          have HT7 := hid (HT6.out.below HBw.out)
          have HE7 := hid (HE6.out.below HBw.out)
          clear HT6 HE6 HBw c0 c1 c2 c3
          have hBs := bitS_size BT
          rw [hBl] at hBs
          have HBa := hid (fun k hk h => bitS_at (l := BT) (k := k) hk h)
          have HBc := hid (fun k (hk : k < O) => show 48 + bitN (BT.getD k false) = ((tabI rows q nR I IB k n).toNat : Int) by
            rw [← HBT.out k hk]; cases BT.getD k false <;> rfl)
          have HBl := hid hBl
          clear hBl
          generalize bitS BT = bs at *
          go_upto_region 14 with fail
          go_loopw [12] (fun i wr => ∃ (k : Nat) (VV : Nat → Value), k ≤ O ∧ i = .int .i64 (k : Int) ∧ Hid (TBR w.heap.size bt O (Fk rows q nR I IB n k) wr VV) ∧ Hid (RE w q bl I (.slice ao nR cap) wr)) (fun i _ => O - (intOf i).toNat)
          case atStart => exact ⟨0, _, Nat.zero_le _, rfl, HT7, HE7⟩
          case round =>
            clear HT7 HE7
            obtain ⟨k, VV, hk, rfl, HT, HE⟩ := hrel
            rename World => wk
            by_cases hko : k < O
            · have hkI : (k : Int) < (O : Int) := by omega
              have hks : k < bs.size := by omega
              have hat := (HBa.out k (by rw [HBl.out]; exact hko) hks).trans (HBc.out k hko)
              have HR := hid (HT.out.r k hko)
              obtain ⟨av, cv, hvk⟩ := own_slice HR.out
              have k0 := HT.out.t.cell hko
              have HFl := hid (Fk_at rows q nR I IB n k)
              have HFs := hid (Fk_succ rows q nR I IB n k)
              rw [hvk] at k0 HR
              rw [HFl.out] at k0 HR
              have HVk := hid hvk
              clear hvk
              generalize tabI rows q nR I IB k n = ct at *
              go_upto_region 16 with fail
              have k0' : (wk.alloc (.cells #[.int .u8 (ct.toNat : Int)] 5)).cell? ⟨bt, k, none⟩ = some (.slice av n cv) := keeps (bel_alloc _ _) k0
              have HTa := hid (HT.out.below (below_now ⟨rfl, rfl, rfl⟩ (.inr ⟨_, rfl⟩) : Below wk.heap.size wk (wk.alloc (.cells #[.int .u8 (ct.toNat : Int)] 5)).drew))
              have HEa := hid (HE.out.below (below_now ⟨rfl, rfl, rfl⟩ (.inr ⟨_, rfl⟩) : Below wk.heap.size wk (wk.alloc (.cells #[.int .u8 (ct.toNat : Int)] 5)).drew))
              have hlb := HT.out.lb
              have hnl : n ≤ 64 := by omega
              go_region_law ((refine step_push_at (by rfl) _ _ 54 (by rfl) w.heap.size 5 (.int .u8 0) 1 1 Tryz.underlying54 Tryz.infoU8 rfl (by decide) (.slice av n cv) n (bys (Fk rows q nR I IB n k k)) (by rfl) (own_below HR.out (below_now ⟨rfl, rfl, rfl⟩ (.inr ⟨_, rfl⟩))) wk.heap.size #[.int .u8 (ct.toNat : Int)] rfl (by intro u hu; simp at hu; subst hu; rfl) (by rfl) (heap_alloc_new _ _) (by unfold maxLen; omega) (by omega) (by simp; omega) ?_; intro g gc w9 hown9 hg9 hl9 hb9; have hrow9 := row_grown HTa.out.t hg9 (row_own_ne HTa.out.t (own_below HR.out (below_now ⟨rfl, rfl, rfl⟩ (.inr ⟨_, rfl⟩) : Below wk.heap.size wk (wk.alloc (.cells #[.int .u8 (ct.toNat : Int)] 5)).drew)) (by decide)); have k1 := hrow9.cell hko; have kf := hrow9.frozen k; have HO9 := hid hown9; have HG9 := hid hg9; have HL9 := hid hl9; clear hown9 hg9 hl9 hb9 hrow9))
              all_goals
                have HT9 := hid (show TBR w.heap.size bt O (Fk rows q nR I IB n (k + 1)) (w9.setCell ⟨bt, k, none⟩ (.slice (some ⟨g, 0, none⟩) (n + 1) gc)) (updV VV k (.slice (some ⟨g, 0, none⟩) (n + 1) gc)) by
                  rw [← HFs.out]
                  refine HTa.out.push hko (c := ct) (by rw [HVk.out, HFl.out]; exact HG9.out) (by rw [HFl.out]; exact HO9.out) ?_
                  rcases HL9.out with h | h
                  · left; rw [HVk.out, HFl.out, h]; rfl
                  · right; show some g = _; rw [h])
                have HE9 := hid (show RE w q bl I (.slice ao nR cap) (w9.setCell ⟨bt, k, none⟩ (.slice (some ⟨g, 0, none⟩) (n + 1) gc)) from
                  (HEa.out.grow (own_below HR.out (below_now ⟨rfl, rfl, rfl⟩ (.inr ⟨_, rfl⟩) : Below wk.heap.size wk (wk.alloc (.cells #[.int .u8 (ct.toNat : Int)] 5)).drew)) HG9.out (by decide) (by decide)).set (a := ⟨bt, k, none⟩) (by have := HBt.out; show w.heap.size ≤ bt; omega) (by have := HBt.out; show w.heap.size ≠ bt; omega) (by have := HBt.out; show w.heap.size + 1 ≠ bt; omega) _)
                go_wp2
                case roundEnd => exact ⟨⟨k + 1, _, by omega, by go_num, HT9, HE9⟩, by simp [intOf]; omega⟩
            · obtain rfl : O = k := by omega
              go_wp2
              case roundEnd => exact ⟨⟨n + 1, VV, hlt, by go_num, hid (HT.out.congr fun j hj => Fk_end rows q nR I IB n O hj), HE⟩, by simp [intOf]; omega⟩
    · obtain rfl : n = SZ := by omega
      have hshl := HSh.out.1
      have hwV := HwV.out
      have hVe := HVe.out
      go_upto_region 18 with fail
      clear hshl hwV hVe
      obtain ⟨NN, hNV⟩ : ∃ NN : Nat, V = (NN : Int) := ⟨SB + IB, by have h1 := HVe.out; have h2 := HZe.out.1; have h3 := HZe.out.2; omega⟩
      have hNN : SB + IB = NN := by have h1 := HVe.out; have h2 := HZe.out.1; have h3 := HZe.out.2; omega
      have hNN6 : NN ≤ 6 := by omega
      rw [hNV]
      clear hNV
      obtain ⟨TB, hTB⟩ : ∃ TB, encTabs q bl I rows = TB := ⟨_, rfl⟩
      rw [hTB] at HEp HTb HTd
      rw [hNN] at HEp HTb
      have HSz2 := hid (show 2 ^ NN = n by rw [← hNN]; exact HSz.out)
      have HNn := hid hNN
      have HTl := hid (show TB.length = O by rw [HTd.out]; simp)
      have HTk := hid (fun k (h : k < O) => show TB[k]? = some (Fk rows q nR I IB n 0 k) by
        rw [HTd.out, List.getElem?_map, List.getElem?_range h, Option.map_some]
        unfold Fk tabL
        rw [HSz.out, if_neg (Nat.not_lt_zero _)])
      have HAk := hid (mkAll_take HTb.out)
      have HSm := hid (rfAll_same HTb.out)
      have HStep := hid (fun k (h : k < O) => show rfAll NN (TB.take (k + 1)) = rfOut NN (rfAll NN (TB.take k)) (Fk rows q nR I IB n 0 k) by rw [take_snoc (HTk.out k h), rfAll_snoc])
      have HLt := hid (fun k h => show (rfAll NN (TB.take k)).1.code.length ≤ 20000 from by
        rw [← ((HSm.out k h).1).code]
        have h1 := (HAk.out k h).len
        have h2 : (TB.take k).length ≤ 67 := by rw [List.length_take]; have := HTl.out; omega
        have h3 := Nat.mul_le_mul h2 (show 4 * 2 ^ NN ≤ 256 by rw [HSz2.out]; omega)
        omega)
      have HMd := hid (show ∀ k, k ≤ O → (rfAll NN (TB.take k)).1.made.length ≤ (rfAll NN (TB.take k)).1.code.length from by
        intro k
        induction k with
        | zero => intro _; simp [rfAll]
        | succ k ih =>
          intro h
          rw [HStep.out k (by omega)]
          exact (rf_len (by rw [(HTb.out _ (List.mem_of_getElem? (HTk.out k (by omega)))).1]) (ih (by omega))).1)
      clear hNN hTB
      obtain ⟨gm, hgm⟩ : ∃ gm, wr.heap.size = gm := ⟨_, rfl⟩
      obtain ⟨wb, hwb⟩ : ∃ wb, wr.alloc (.cells #[.int .i64 (NN : Int), .slice none 0 0, .slice none 0 0, .slice none 0 0] 66) = wb := ⟨_, rfl⟩
      have hbb : Below wr.heap.size wr wb := by rw [← hwb]; exact bel_alloc _ _
      have HGm := hid (show w.heap.size + 2 ≤ gm ∧ bt ≠ gm from ⟨by have h1 := HE.out.z.lt; omega, by have h1 := HT.out.t.lt; omega⟩)
      have HLb := hid (show LM w gm O bt q bl I (.slice ao nR cap) (Fk rows q nR I IB n 0) VV wb (rmf NN (.slice none 0 0) (.slice none 0 0) (.slice none 0 0)) (.slice none 0 0) (.slice none 0 0) (.slice none 0 0) (rfAll NN (TB.take 0)).1 (rfAll NN (TB.take 0)).2 from by
        refine ⟨⟨Nat.le_trans HE.out.b.size hbb.size, World.ownsRow_nil _ _ _ _, World.ownsRow_nil _ _ _ _⟩, ?_, World.ownsRow_nil _ _ _ _, HT.out.below hbb, HE.out.below hbb⟩
        rw [← hwb, ← hgm]
        refine World.rowIs_alloc wr #[.int .i64 (NN : Int), .slice none 0 0, .slice none 0 0, .slice none 0 0] _ _ fun i hi => ?_
        have : i = 0 ∨ i = 1 ∨ i = 2 ∨ i = 3 := by simp at hi; omega
        rcases this with rfl | rfl | rfl | rfl <;> rfl)
      rw [hwb, hgm]
      clear hwb hgm hbb HE HT
      go_upto_region 19 with fail
      go_loopw [14] (fun i wx => ∃ (k : Nat) (vc vo vl : Value), k ≤ O ∧ i = .int .i64 (k : Int) ∧ Hid (LM w gm O bt q bl I (.slice ao nR cap) (Fk rows q nR I IB n 0) VV wx (rmf NN vc vo vl) vc vo vl (rfAll NN (TB.take k)).1 (rfAll NN (TB.take k)).2)) (fun i _ => O - (intOf i).toNat)
      case atStart => exact ⟨0, _, _, _, Nat.zero_le _, rfl, HLb⟩
      case round =>
        clear HLb
        obtain ⟨k, vc, vo, vl, hk, rfl, HL⟩ := hrel
        rename World => wk
        obtain ⟨ac, cc, rfl⟩ := own_slice HL.out.r.c
        obtain ⟨al, cl, rfl⟩ := own_slice HL.out.r.l
        obtain ⟨ao2, co2, rfl⟩ := own_slice HL.out.o
        have hLt := HLt.out k (by rw [HTl.out]; exact hk)
        have hMd := HMd.out k hk
        have hOl : (rfAll NN (TB.take k)).2.length = k := by
          rw [(HSm.out k (by rw [HTl.out]; exact hk)).2, (HAk.out k (by rw [HTl.out]; exact hk)).olen, List.length_take, HTl.out]; omega
        obtain ⟨⟨c0, c1, c2, c3⟩, f0, f1, f2, f3⟩ := mk_cells HL.out.m
        simp only [rmf] at c0 c1 c2 c3
        by_cases hko : k < O
        · have hkI : (k : Int) < (O : Int) := by omega
          have HSt := HStep.out k hko
          obtain ⟨hT1, hT2⟩ := HTb.out _ (List.mem_of_getElem? (HTk.out k hko))
          obtain ⟨p, hp⟩ : ∃ p, rfAll NN (TB.take k) = p := ⟨_, rfl⟩
          rw [hp] at HL hLt hMd HSt c1 c2 c3 hOl
          obtain ⟨rs, outs⟩ := p
          dsimp only at HL hLt hMd c1 c2 c3 hOl
          have HOl := hid hOl
          have hOl2 : outs.length ≤ 67 := by omega
          clear hOl
          have HRo := HL.out.t.r k hko
          obtain ⟨av, cv, hvk⟩ := own_slice HRo
          have hFl : (Fk rows q nR I IB n 0 k).length = n := by simp [Fk]
          have HSa := hid (fun X {f vc vo vl rs outs} (hX : LM w gm O bt q bl I (.slice ao nR cap) (Fk rows q nR I IB n 0) VV X f vc vo vl rs outs) => (show X.cell? ⟨bt, k, none⟩ = some (.slice av n cv) ∧ (convert 54 9 (.slice av n cv)).run Tryz.prog X = .ok (.string (strB (Fk rows q nR I IB n 0 k))) X from by
            have h1 := hX.t.t.cell hko
            have h2 := hX.t.r k hko
            rw [hvk] at h1 h2
            have h3 := conv_tab h2 (by rw [hFl, ← HSz2.out]; exact Nat.one_le_two_pow)
            rw [hFl] at h1 h3
            exact ⟨h1, h3⟩))
          obtain ⟨T, hT⟩ : ∃ T, Fk rows q nR I IB n 0 k = T := ⟨_, rfl⟩
          rw [hT] at hT1 hT2 HSt hFl HSa
          obtain ⟨L, hL⟩ : ∃ L, rfBit NN NN 0 T rs = L := ⟨_, rfl⟩
          have HBit := hid (fun X (hX : Dr wk X) => (show Calls Tryz.prog 28 #[.agg #[.int .i64 (NN : Int), .slice ac rs.code.length cc, .slice ao2 outs.length co2, .slice al rs.made.length cl], .string (strB T), .int .i64 0] X (BPost w.heap.size NN ao2 outs.length co2 wk L) from by
            have h := rbit_any w.heap.size NN ao2 outs.length co2 (by omega) NN 0 T rs (.slice ac rs.code.length cc) (.slice al rs.made.length cl) X (HL.out.r.below (hX.below _)) (by omega) hT1 (by omega) hMd (by rw [HSz2.out]; omega)
            rw [show ((0 : Nat) : Int) = 0 from rfl, hL] at h
            exact bit_from h hX))
          unfold BPost at HBit
          have HSx := hid (show rfAll NN (TB.take (k + 1)) = (L.2, outs ++ [L.1]) by rw [HSt]; unfold rfOut; rw [hL])
          clear HSt hT1 hT2 hT hL hvk HRo hFl hp
          go_upto_region 22 with fail
          refine wp_region_held_drew (S := (fun w' => w'.cell? ⟨bt, k, none⟩ = some (.slice av n cv) ∧ (convert 54 9 (.slice av n cv)).run Tryz.prog w' = .ok (.string (strB T)) w')) (by kernel_rfl) (HSa.out _ (HL.out.below (below_drewN (Below.refl _ _) 1))) (fun hHeld => ?_)
          refine wpAnyH_take (i := 1) (v := .slice (some ⟨bt, 0, none⟩) O O) rfl (by kernel_rfl) (by kernel_rfl) (by kernel_rfl) (fun _ _ _ h => h) (Or.inl ⟨by rfl, fun w hSw => ?_⟩) (by assumption) ?_
          · (try dsimp only at hSw); go_simp
          simp only [Act.put, List.setIfInBounds_toArray, List.set_cons_zero, List.set_cons_succ, List.getElem_toArray, List.getElem_cons_zero, List.getElem_cons_succ]
          refine wpAnyH_take (i := 2) (v := .int .i64 (k : Int)) rfl (by kernel_rfl) (by kernel_rfl) (by kernel_rfl) (fun _ _ _ h => h) (Or.inl ⟨by rfl, fun w hSw => ?_⟩) (by assumption) ?_
          · (try dsimp only at hSw); go_simp
          simp only [Act.put, List.setIfInBounds_toArray, List.set_cons_zero, List.set_cons_succ, List.getElem_toArray, List.getElem_cons_zero, List.getElem_cons_succ]
          refine wpAnyH_take (i := 3) (v := .pointer (some ⟨bt, k, none⟩)) rfl (by kernel_rfl) (by kernel_rfl) (by kernel_rfl) (fun _ _ _ h => h) (Or.inl ⟨by rfl, fun w hSw => ?_⟩) (by assumption) ?_
          · (try dsimp only at hSw); go_simp
          simp only [Act.put, List.setIfInBounds_toArray, List.set_cons_zero, List.set_cons_succ, List.getElem_toArray, List.getElem_cons_zero, List.getElem_cons_succ]
          refine wpAnyH_take (i := 4) (v := .slice av n cv) rfl (by kernel_rfl) (by kernel_rfl) (by kernel_rfl) (fun _ _ _ h => h) (Or.inl ⟨by rfl, fun w hSw => ?_⟩) (by assumption) ?_
          · (try dsimp only at hSw); go_simp
          simp only [Act.put, List.setIfInBounds_toArray, List.set_cons_zero, List.set_cons_succ, List.getElem_toArray, List.getElem_cons_zero, List.getElem_cons_succ]
          refine wpAnyH_take (i := 5) (v := .string (strB T)) rfl (by kernel_rfl) (by kernel_rfl) (by kernel_rfl) (fun _ _ _ h => h) (Or.inl ⟨by rfl, fun w hSw => ?_⟩) (by assumption) ?_
          · (try dsimp only at hSw); go_simp
          simp only [Act.put, List.setIfInBounds_toArray, List.set_cons_zero, List.set_cons_succ, List.getElem_toArray, List.getElem_cons_zero, List.getElem_cons_succ]
          refine wpAnyH_ready (rs := [0]) (by kernel_rfl) (by simp) (AllReadyH.cons rfl (fun K hK => ?_) AllReadyH.nil)
          go_simp
          refine hK.out _ _ hHeld (fun hHeld2 => ?_)
          clear hK K
          try simp only [Act.put, List.setIfInBounds_toArray, List.set_cons_zero, List.set_cons_succ, List.getElem_toArray, List.getElem_cons_zero, List.getElem_cons_succ]
          refine wpAnyH_ready (rs := [6]) (by kernel_rfl) (by simp) (AllReadyH.cons rfl (fun K hK => ?_) AllReadyH.nil)
          go_simp
          (go_at_call 28; refine (HBit.out _ (by first | exact ⟨1, rfl⟩ | exact ⟨0, rfl⟩)).mono ?_; rintro e w5 ⟨vc5, vl5, rfl, hR5, hK5⟩; obtain ⟨ac5, cc5, rfl⟩ := own_slice hR5.c; obtain ⟨al5, cl5, rfl⟩ := own_slice hR5.l; have HL5 := hid (HL.out.kt hR5 hK5); obtain ⟨⟨c0, c1, c2, c3⟩, f0, f1, f2, f3⟩ := mk_cells HL5.out.m; simp only [rmf] at c0 c1 c2 c3; clear hR5 hK5)
          try go_wp2_with fail
          refine hK.out _ _ (HSa.out _ HL5.out) (fun hHeld3 => ?_)
          clear hK K
          try simp only [Act.put, List.setIfInBounds_toArray, List.set_cons_zero, List.set_cons_succ, List.getElem_toArray, List.getElem_cons_zero, List.getElem_cons_succ]
          refine wpAnyH_take (i := 7) (v := .tuple #[.agg #[.int .i64 (NN : Int), .slice ac5 L.2.code.length cc5, .slice ao2 outs.length co2, .slice al5 L.2.made.length cl5], .int .i64 L.1]) rfl (by kernel_rfl) (by kernel_rfl) (by kernel_rfl) (fun _ _ _ h => h) (Or.inl ⟨by rfl, fun w hSw => ?_⟩) (by assumption) ?_
          · (try dsimp only at hSw); go_simp
          simp only [Act.put, List.setIfInBounds_toArray, List.set_cons_zero, List.set_cons_succ, List.getElem_toArray, List.getElem_cons_zero, List.getElem_cons_succ]
          refine wpAnyH_take (i := 8) (v := .agg #[.int .i64 (NN : Int), .slice ac5 L.2.code.length cc5, .slice ao2 outs.length co2, .slice al5 L.2.made.length cl5]) rfl (by kernel_rfl) (by kernel_rfl) (by kernel_rfl) (fun _ _ _ h => h) (Or.inl ⟨by rfl, fun w hSw => ?_⟩) (by assumption) ?_
          · (try dsimp only at hSw); go_simp
          simp only [Act.put, List.setIfInBounds_toArray, List.set_cons_zero, List.set_cons_succ, List.getElem_toArray, List.getElem_cons_zero, List.getElem_cons_succ]
          refine wpAnyH_take (i := 9) (v := .int .i64 L.1) rfl (by kernel_rfl) (by kernel_rfl) (by kernel_rfl) (fun _ _ _ h => h) (Or.inl ⟨by rfl, fun w hSw => ?_⟩) (by assumption) ?_
          · (try dsimp only at hSw); go_simp
          simp only [Act.put, List.setIfInBounds_toArray, List.set_cons_zero, List.set_cons_succ, List.getElem_toArray, List.getElem_cons_zero, List.getElem_cons_succ]
          refine wpAnyH_ready (rs := [10]) (by kernel_rfl) (by simp) (AllReadyH.cons rfl (fun K hK => ?_) AllReadyH.nil)
          go_simp
          refine hK.out _ _ (HSa.out _ (HL5.out.put (N := NN) HGm.out.1 HGm.out.2)) (fun hHeld4 => ?_)
          clear hK K
          try simp only [Act.put, List.setIfInBounds_toArray, List.set_cons_zero, List.set_cons_succ, List.getElem_toArray, List.getElem_cons_zero, List.getElem_cons_succ]
          refine wpAnyH_take (i := 11) (v := .int .i64 L.1) rfl (by kernel_rfl) (by kernel_rfl) (by kernel_rfl) (fun _ _ _ h => h) (Or.inl ⟨by rfl, fun w hSw => ?_⟩) (by assumption) ?_
          · (try dsimp only at hSw); go_simp
          simp only [Act.put, List.setIfInBounds_toArray, List.set_cons_zero, List.set_cons_succ, List.getElem_toArray, List.getElem_cons_zero, List.getElem_cons_succ]
          refine wpAnyH_done (by kernel_rfl) ?_ _
          all_goals
            obtain ⟨w6, hw6⟩ : ∃ w6, (((w5.setCell ⟨gm, 0, none⟩ (.int .i64 (NN : Int))).setCell ⟨gm, 1, none⟩ (.slice ac5 L.2.code.length cc5)).setCell ⟨gm, 2, none⟩ (.slice ao2 outs.length co2)).setCell ⟨gm, 3, none⟩ (.slice al5 L.2.made.length cl5) = w6 := ⟨_, rfl⟩
            have HL6 := hid (show LM w gm O bt q bl I (.slice ao nR cap) (Fk rows q nR I IB n 0) VV w6 (rmf NN (.slice ac5 L.2.code.length cc5) (.slice ao2 outs.length co2) (.slice al5 L.2.made.length cl5)) (.slice ac5 L.2.code.length cc5) (.slice ao2 outs.length co2) (.slice al5 L.2.made.length cl5) L.2 outs by
              rw [← hw6]; exact HL5.out.put (N := NN) HGm.out.1 HGm.out.2)
            rw [hw6]
            clear hw6 c0 c1 c2 c3 f0 f1 f2 f3 HBit HSa HL HL5
            obtain ⟨⟨c0, c1, c2, c3⟩, f0, f1, f2, f3⟩ := mk_cells HL6.out.m
            simp only [rmf] at c0 c1 c2 c3
            have hlb6 := HL6.out.e.b.size
            go_wp2_with (at_builtin; refine wpList_push w6 rfl _ _ 26 rfl w.heap.size 3 (.int .i64 0) 1 8 Tryz.underlying26 Tryz.infoInt rfl (by decide) (.slice ao2 outs.length co2) outs.length (ints outs) rfl HL6.out.o #[.int .i64 L.1] rfl (oneCell_int _ _) rfl (by unfold maxLen; omega) (by omega) hlb6 ?_; intro g1 gc1 w7 ho7 hg7 hb7; have HL7 := hid (HL6.out.grow (x := L.1) hg7 ho7); have c2 := HL7.out.m.cell (i := 2) (by omega); have f2 := HL7.out.m.frozen 2; simp only [rmf] at c2; clear ho7 hg7 hb7)
            have HLx := hid (show LM w gm O bt q bl I (.slice ao nR cap) (Fk rows q nR I IB n 0) VV (w7.setCell ⟨gm, 2, none⟩ (.slice (some ⟨g1, 0, none⟩) (outs.length + 1) gc1)) (rmf NN (.slice ac5 L.2.code.length cc5) (.slice (some ⟨g1, 0, none⟩) (outs.length + 1) gc1) (.slice al5 L.2.made.length cl5)) (.slice ac5 L.2.code.length cc5) (.slice (some ⟨g1, 0, none⟩) (outs.length + 1) gc1) (.slice al5 L.2.made.length cl5) (rfAll NN (TB.take (k + 1))).1 (rfAll NN (TB.take (k + 1))).2 by
              rw [HSx.out]
              refine (HL7.out.set HGm.out.1 HGm.out.2 2 _).congr fun i hi => ?_
              have : i = 0 ∨ i = 1 ∨ i = 2 ∨ i = 3 := by omega
              rcases this with rfl | rfl | rfl | rfl <;> rfl)
            case roundEnd => exact ⟨⟨k + 1, _, _, _, hko, by go_num, HLx⟩, by simp [intOf]; omega⟩
        · obtain rfl : k = O := by omega
          have HF := hid (show (rfAll NN (TB.take k)).1.code = (encP q bl I rows).1.code ∧ (rfAll NN (TB.take k)).2 = (encP q bl I rows).2 by
            have h1 := HSm.out k (by rw [HTl.out]; exact Nat.le_refl _)
            have h2 : TB.take k = TB := by rw [← HTl.out, List.take_length]
            rw [h2] at h1 ⊢
            rw [HEp.out]
            exact ⟨h1.1.code.symm, h1.2⟩)
          obtain ⟨p, hp⟩ : ∃ p, rfAll NN (TB.take k) = p := ⟨_, rfl⟩
          rw [hp] at HL hLt c1 c2 c3 HF
          clear hp hMd hOl
          obtain ⟨rs, outs⟩ := p
          dsimp only at HL hLt c1 c2 c3 HF
          have hcl : ¬ (65536 : Int) < (rs.code.length : Int) := by omega
          have z0 := HL.out.e.z.cell (i := 0) (by omega)
          have z1 := HL.out.e.z.cell (i := 1) (by omega)
          have z2 := HL.out.e.z.cell (i := 2) (by omega)
          have y0 := HL.out.e.z.frozen 0
          have y1 := HL.out.e.z.frozen 1
          have y2 := HL.out.e.z.frozen 2
          simp only [zfun] at z0 z1 z2
          go_wp2_with fail
          obtain ⟨wz, hwz⟩ : ∃ wz, (((wk.setCell ⟨w.heap.size + 1, 0, none⟩ (.int .i64 (NN : Int))).setCell ⟨w.heap.size + 1, 1, none⟩ (.slice ac rs.code.length cc)).setCell ⟨w.heap.size + 1, 2, none⟩ (.slice ao2 outs.length co2)) = wz := ⟨_, rfl⟩
          have hz := ((HL.out.e.z.set 0 (.int .i64 (NN : Int))).set 1 (.slice ac rs.code.length cc)).set 2 (.slice ao2 outs.length co2)
          have hRz := ((HL.out.r.set HL.out.e.z (by decide) (by decide) 0 (.int .i64 (NN : Int))).set (HL.out.e.z.set 0 _) (by decide) (by decide) 1 (.slice ac rs.code.length cc)).set ((HL.out.e.z.set 0 _).set 1 _) (by decide) (by decide) 2 (.slice ao2 outs.length co2)
          have hOz : (((wk.setCell ⟨w.heap.size + 1, 0, none⟩ (.int .i64 (NN : Int))).setCell ⟨w.heap.size + 1, 1, none⟩ (.slice ac rs.code.length cc)).setCell ⟨w.heap.size + 1, 2, none⟩ (.slice ao2 outs.length co2)).ownsRow w.heap.size 3 1 (.slice ao2 outs.length co2) outs.length (ints outs) := by
            obtain ⟨d0, e0⟩ := HL.out.e.z
            obtain ⟨d1, e1⟩ := HL.out.e.z.set 0 (.int .i64 (NN : Int))
            obtain ⟨d2, e2⟩ := (HL.out.e.z.set 0 (.int .i64 (NN : Int))).set 1 (.slice ac rs.code.length cc)
            exact own_set (own_set (own_set HL.out.o (a := ⟨w.heap.size + 1, 0, none⟩) e0.1 (by decide) _) (a := ⟨w.heap.size + 1, 1, none⟩) e1.1 (by decide) _) (a := ⟨w.heap.size + 1, 2, none⟩) e2.1 (by decide) _
          have HBz := hid (show Below w.heap.size w wz by rw [← hwz]; exact ((HL.out.e.b.setCell (p := ⟨w.heap.size + 1, 0, none⟩) (by show w.heap.size ≤ w.heap.size + 1; omega) _).setCell (p := ⟨w.heap.size + 1, 1, none⟩) (by show w.heap.size ≤ w.heap.size + 1; omega) _).setCell (p := ⟨w.heap.size + 1, 2, none⟩) (by show w.heap.size ≤ w.heap.size + 1; omega) _)
          rw [hwz] at hz hRz hOz ⊢
          have r0 := hz.cell (i := 0) (by omega)
          have r1 := hz.cell (i := 1) (by omega)
          have r2 := hz.cell (i := 2) (by omega)
          simp only [zfun] at r0 r1 r2
          have HRz := hid hRz
          have HOz := hid hOz
          clear hwz hz hRz hOz z0 z1 z2 y0 y1 y2 c0 c1 c2 c3 f0 f1 f2 f3 hcl hLt
          refine bodyPost_ret (v := .tuple #[.agg #[.int .i64 (NN : Int), .slice ac rs.code.length cc, .slice ao2 outs.length co2], .int .i64 0]) ?_ rfl ⟨.slice ac rs.code.length cc, .slice ao2 outs.length co2, ?_, ?_, ?_, HBz.out⟩
          · simp [results, Tryz.results8, go_sem, r0, r1, r2]
          · have e : (NN : Int) = ((wid rows.length : Nat) : Int) + ((wid I : Nat) : Int) := by rw [HWe.out.1, HWe.out.2.1, ← HNn.out]; push_cast; rfl
            rw [e]
          · rw [← HF.out.1]; exact Sl.of_owns HRz.out.c
          · rw [← HF.out.2]; exact Sl.of_owns HOz.out
end Go.Proofs.YtcdfghogmdhfcaaGreatDoor
