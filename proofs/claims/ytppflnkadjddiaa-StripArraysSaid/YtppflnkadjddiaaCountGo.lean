/-
  strip.Count where all is allowed: the loops.
  The height is one, the blocks are a list for it, and the number of columns is one.
-/
import Derived.Test.YtppflnkadjddiaaCount
import Derived.Deep.LoopGhost
namespace Go.Proofs.Ytppflnkadjddiaa
open Go.RowKit
set_option linter.unusedVariables false

theorem chk_range {h : Int} {l : List Int} (hc : chk h l = 0) : (1 ≤ h ∧ h ≤ 4) ∧ ∀ x ∈ l, 0 ≤ x ∧ x ≤ 15 := by
  rw [chk] at hc
  split at hc
  · rename_i hh
    refine ⟨hh, ?_⟩
    have : ∀ (l : List Int) (p : Option Int), chkGo (most h) p l = 0 → ∀ x ∈ l, 0 ≤ x ∧ x ≤ 15 := by
      intro l
      induction l with
      | nil => intro p _ x hx; simp at hx
      | cons a r ih =>
        intro p hp x hx
        rw [chkGo] at hp
        split at hp
        · simp at hp
        · split at hp
          · simp at hp
          · rename_i h1 _
            have h15 : most h ≤ 15 := by unfold most; split <;> omega
            rcases List.mem_cons.1 hx with rfl | hx
            · omega
            · exact ih _ hp x hx
    exact this l none hc
  · simp at hc

/-- What stands while Count runs: the result's cells, and the table of the blocks. -/
structure CW (w : World) (l : List Int) (g9 : Nat) (wx : World) : Prop where
  bel : Below w.heap.size w wx
  res : wx.heap[w.heap.size]? = some (.cells #[.bool false, .string ⟨#[]⟩] 41 (0, 0))
  tab : ∀ j, j < 16 → wx.cell? ⟨g9, j, none⟩ = some (.bool (l.contains (j : Int)))
  lo : w.heap.size < g9
  hi : g9 < wx.heap.size
theorem CW.keep {w wx wy : World} {l : List Int} {g9 B : Nat} (h : CW w l g9 wx) (hb : Below B wx wy) (hB : g9 < B) : CW w l g9 wy :=
  ⟨h.bel.trans (hb.mono (by have := h.lo; omega)), (hb.block _ (by have := h.lo; omega)).trans h.res, fun j hj => (hb.cell (p := ⟨g9, j, none⟩) hB).trans (h.tab j hj), h.lo, Nat.lt_of_lt_of_le h.hi hb.size⟩

theorem there_new (w : World) (e : TypeId) (c : Array Value) {cs : Array Value} (hcs : cs.size = 16) (hc : c = Array.replicate 16 (.bool false)) : (w.alloc (.cells c e)).there w.heap.size 0 cs.size := by
  intro j hj
  have hb := heap_alloc_new w (.cells c e)
  subst hc
  rw [Nat.zero_add, cell_of_row _ _ j _ _ _ hb]
  refine ⟨by simp; omega, ?_⟩
  simp only [World.frozen?, hb]
  simp

theorem CW.set {w wx : World} {l : List Int} {g9 : Nat} (h : CW w l g9 wx) (a : Addr) (v : Value) (ha : g9 < a.block) : CW w l g9 (wx.setCell a v) :=
  h.keep (B := a.block) ((Below.refl a.block wx).setCell (Nat.le_refl _) v) ha
theorem CW.set2 {w wx : World} {l : List Int} {g9 g : Nat} (h : CW w l g9 wx) (o1 o2 : Nat) (v1 v2 : Value) (ha : g9 < g) : CW w l g9 ((wx.setCell ⟨g, o1, none⟩ v1).setCell ⟨g, o2, none⟩ v2) :=
  (h.set ⟨g, o1, none⟩ v1 ha).set ⟨g, o2, none⟩ v2 ha
theorem CW.start {w w1 : World} {l : List Int} {c : Array Value} {e : TypeId} (hb : Below (w.heap.size + 1) (w.alloc (.cells #[.bool false, .string ⟨#[]⟩] 41)) w1)
    (ht : (w1.alloc (.cells c e)).there w1.heap.size 0 (tabL l).toArray.size) : CW w l w1.heap.size ((w1.alloc (.cells c e)).setCells w1.heap.size 0 (tabL l)) := by
  have hs := hb.size
  rw [World.size_alloc] at hs
  have h1 : Below (w.heap.size + 1) w1 ((w1.alloc (.cells c e)).setCells w1.heap.size 0 (tabL l)) := below_setCells ((Below.refl _ _).alloc hs _) hs _ _
  have ht' : (w1.alloc (.cells c e)).there w1.heap.size 0 (tabL l).length := by rw [tabA_size] at ht; rw [tabL_len]; exact ht
  refine ⟨(below_laid hb).trans (h1.mono (by omega)), ?_, ?_, by omega, ?_⟩
  · rw [h1.block _ (by omega), hb.block _ (by omega)]
    exact heap_alloc_new w _
  · intro j hj
    have := World.rangeAt_setCells_same _ _ _ _ ht' j _ (tabL_get l hj)
    rwa [Nat.zero_add] at this
  · have h2 : Below (w.heap.size + 1) (w1.alloc (.cells c e)) ((w1.alloc (.cells c e)).setCells w1.heap.size 0 (tabL l)) := below_setCells (Below.refl _ _) hs _ _
    have := h2.size
    rw [World.size_alloc] at this
    omega

/-- In the middle of filling. -/
def ones (N k : Nat) : List Nat := List.replicate k 1 ++ List.replicate (N - k) 0
theorem ones_get {N k : Nat} (h : k < N) : (ones N k)[k]? = some 0 := by
  rw [ones, List.getElem?_append_right (by simp), List.getElem?_replicate]
  simp; omega
theorem ones_set {N k : Nat} (h : k < N) : (ones N k).set k 1 = ones N (k + 1) := by
  obtain ⟨d, rfl⟩ : ∃ d, N = k + 1 + d := ⟨N - (k + 1), by omega⟩
  have e1 : k + 1 + d - k = d + 1 := by omega
  have e2 : k + 1 + d - (k + 1) = d := by omega
  rw [ones, ones, e1, e2, List.set_append_right _ _ (by simp)]
  rw [List.replicate_succ' (n := k)]
  simp [List.replicate_succ]
def L1 (w : World) (l : List Int) (g9 g10 N : Nat) (i : Value) (wr : World) : Prop :=
  ∃ k : Nat, k ≤ N ∧ i = .int .i64 k ∧ CW w l g9 wr ∧ g9 < g10 ∧ g10 < wr.heap.size ∧ NRow wr g10 (ones N k)
def L2 (w : World) (l : List Int) (g9 N m : Nat) (P : Nat → Nat → Bool) (gk : Nat) (u i : Value) (wr : World) : Prop :=
  ∃ k g : Nat, gk + k = m ∧ i = .int .i64 k ∧ u = .slice (some ⟨g, 0, none⟩) N N ∧ CW w l g9 wr ∧ g9 < g ∧ g < wr.heap.size ∧ NRow wr g (citer P N k)
def L3 (w : World) (l : List Int) (g9 g g12 N : Nat) (P : Nat → Nat → Bool) (xs : List Nat) (gk : Nat) (i : Value) (wr : World) : Prop :=
  ∃ c : Nat, gk + c = N ∧ i = .int .i64 c ∧ CW w l g9 wr ∧ NRow wr g xs ∧ NRow wr g12 (mix P N xs c 0) ∧ g12 < wr.heap.size
def L4 (w : World) (l : List Int) (g9 g g12 g14 N c x : Nat) (P : Nat → Nat → Bool) (xs : List Nat) (gk : Nat) (i : Value) (wr : World) : Prop :=
  ∃ e : Nat, gk + e = N ∧ i = .int .i64 e ∧ CW w l g9 wr ∧ NRow wr g xs ∧ NRow wr g12 (mix P N xs c e) ∧ g14 < wr.heap.size ∧ wr.cell? ⟨g14, 0, none⟩ = some (.bool false) ∧ wr.cell? ⟨g14, 1, none⟩ = some (.string (nmg x))
def L5 (w : World) (l : List Int) (g9 g g16 N : Nat) (xs : List Nat) (gk : Nat) (i : Value) (wr : World) : Prop :=
  ∃ j : Nat, gk + j = N ∧ i = .int .i64 j ∧ CW w l g9 wr ∧ NRow wr g xs ∧ g16 < wr.heap.size ∧ wr.cell? ⟨g16, 0, none⟩ = some (.bool false) ∧ wr.cell? ⟨g16, 1, none⟩ = some (.string (nmg (xs.take j).sum)) ∧
  wr.frozen? ⟨g16, 0, none⟩ = false ∧ wr.frozen? ⟨g16, 1, none⟩ = false
theorem Try.infoInt : (Try.prog.info? 41).map (fun i => (i.zero, i.size, i.bytes)) = some (some (.agg #[.bool false, .string ⟨#[]⟩]), 2, 24) := by kernel_rfl
/-- 'make([]api.Int, n)'. -/
theorem wpList_nums (w : World) {ops : Array Oper} {rest : List Oper} {o : Oper} {a : Act} {Q : Exit → Act → World → Prop}
    (hg : o.guard = none) (l c : Operand) (hop : o.op = Op.makeSlice 81 l c)
    (kl kc : IntKind) (L C : Int) (n : Nat) (hl : a.eval l = .int kl L) (hc : a.eval c = .int kc C) (hL : L = (n : Int)) (hC : C = (n : Int)) (b2 : n ≤ 1000000)
    (hK : ∀ w', NRow w' w.heap.size (List.replicate n 0) → Below w.heap.size w w' → w.heap.size < w'.heap.size → wpList Try.prog ops Q rest (a.put o.dst (.slice (some ⟨w.heap.size, 0, none⟩) n n)) w') :
    wpList Try.prog ops Q (o :: rest) a w := by
  obtain ⟨i0, hi, hz0, hz1, hz2⟩ := info_parts Try.infoInt
  refine wpList_make_full w hg l c 81 hop w.heap.size 41 i0 _ 2 Try.underlying81 hi hz0 hz1 kl kc L C n hl hc hL hC (by rw [hz2]; omega) (by unfold maxLen; omega) (Nat.le_refl _) ?_
  intro w' ho hgr
  refine hK w' (NRow.of_owns ho) ((Below.refl _ _).grown hgr (Nat.le_refl _) (by simp)) ?_
  rcases ho.2 with ⟨h', _⟩ | ⟨g', cap', cur, h', _, hg', _⟩
  · simp at h'
  · simp only [Value.slice.injEq, Option.some.injEq, Addr.mk.injEq, and_true, true_and] at h'
    obtain ⟨rfl, rfl⟩ := h'
    exact (Array.getElem?_eq_some_iff.1 hg').1

set_option maxRecDepth 100000 in
set_option maxHeartbeats 8000000 in
theorem count_good (h n : Int) (v : Value) (l : List Int) (w : World) (hl : Sl 1 w v l.length (ints l)) (hc : chk h l = 0) (hn0 : 0 ≤ n) (hn1 : n ≤ 4096) :
    Calls Try.prog 22 #[.int .i64 h, .int .i64 n, v] w (CountPost h n l w) := by
  have hE : cntE h n l = 0 := by rw [cntE, if_neg (by simp [hc]), if_neg (by omega)]
  have hN : cntN h n l = cnt (mayP h l) (side h).toNat n.toNat := by rw [cntN, if_pos hE]
  have hlw := check_any h l v (w.alloc (.cells #[.bool false, .string ⟨#[]⟩] 41)) (hl.below ((Below.refl _ _).alloc (Nat.le_refl _) _))
  rw [hc] at hlw
  have htb := table_any l v (w.alloc (.cells #[.bool false, .string ⟨#[]⟩] 41)) (hl.below ((Below.refl _ _).alloc (Nat.le_refl _) _)) (chk_range hc).2
  obtain ⟨⟨h1, h4⟩, _⟩ := chk_range hc
  have HE := hid hE
  have HN := hid hN
  clear hE hN hl
  by_cases hz : n = 0
  · have HZ := hid (show cntN h n l = 1 by rw [HN.out, hz, cnt]; rfl)
    subst hz
    go_enter Try.func22, Try.ntmps22
    go_upto_region 7 with (go_at_call 32; refine hlw.mono ?_; rintro e w' ⟨rfl, rfl⟩)
    clear hlw htb
    go_wp2_with (go_at_call 25; refine (ofOne_any _).mono ?_; rintro e w1 ⟨rfl, hb⟩; rw [World.size_alloc] at hb; obtain ⟨n1, n2, n3, n4⟩ := numW_cells hb)
    refine bodyPost_ret (v := .tuple #[.agg #[.bool false, .string (nmg 1)], .int .i64 0]) ?_ rfl ⟨by rw [HZ.out, HE.out], ?_⟩
    · simp [results, Try.results22, go_sem, n1, n2]
    · exact ((below_laid hb).setCell (p := ⟨w.heap.size, 0, none⟩) (Nat.le_refl _) _).setCell (p := ⟨w.heap.size, 1, none⟩) (Nat.le_refl _) _
  · obtain ⟨m, rfl⟩ : ∃ m : Nat, n = ((m + 1 : Nat) : Int) := ⟨(n - 1).toNat, by omega⟩
    obtain ⟨hsw, hs2, hs16⟩ := side_wrap h h1 h4
    obtain ⟨N, hNs⟩ : ∃ N : Nat, side h = (N : Int) := ⟨(side h).toNat, by omega⟩
    rw [hNs] at hsw hs2 hs16
    have HN' := hid (show cntN h ((m + 1 : Nat) : Int) l = (citer (mayP h l) N m).sum by rw [HN.out, hNs]; simp [cnt])
    have HNs := hid hNs
    clear HN hNs
    have HB := hid (chk_range hc).2
    clear hc
    go_enter Try.func22, Try.ntmps22
    go_upto_region 8 with (go_at_call 32; refine hlw.mono ?_; rintro e w' ⟨rfl, rfl⟩)
    clear hlw
    go_cut [9] (fun u9 wx => ∃ g9, u9 = .pointer (some ⟨g9, 0, none⟩) ∧ CW w l g9 wx)
    case first =>
      have HI := hid (show (Try.prog.info? 76).map (·.size) = some (tabL l).toArray.size by rw [tabA_size]; kernel_rfl)
      have HT := hid htb
      clear htb
      go_wp2_with (first
        | (go_at_call 44; refine HT.out.mono ?_; rintro e w1 ⟨rfl, hb⟩; rw [World.size_alloc] at hb; have hth := fun c => there_new w1 76 c (tabA_size l))
        | (refine wpList_store_mid rfl 76 _ _ rfl w1.heap.size 0 (tabL l).toArray rfl rfl (hth _ rfl) HI.out (tabL_one l) ?_))
      go_meet
      exact ⟨w1.heap.size, rfl, CW.start hb (hth _ rfl)⟩
    case rest =>
      obtain ⟨g9, rfl, hC⟩ := hcut
      clear htb
      have HC := hid hC
      clear hC
      go_upto_region 11 with (at_make; refine wpList_nums _ rfl _ _ rfl _ _ _ _ N rfl rfl hsw hsw (by omega) ?_; intro w2 hrow hgr hlt)
      have HC2 := hid (HC.out.keep hgr HC.out.hi)
      have h910 := HC.out.hi
      generalize wc.heap.size = g10 at *
      clear hgr HC
      go_loopw [43] (fun i wr => L1 w l g9 g10 N i wr) (fun i _ => (N - intOf i).toNat)
      case atStart => exact ⟨0, by omega, rfl, HC2.out, h910, hlt, by simpa [ones] using hrow⟩
      case round =>
        obtain ⟨k, hk, rfl, hC, _, hlt', hR⟩ := hrel
        have HC := hid hC
        have HR := hid hR
        clear hC hR
        by_cases hkN : k < N
        · have hx := ones_get hkN
          have HX := hid hx
          clear hx
          go_wp2_with (go_at_call 25; refine (ofOne_any _).mono ?_; rintro e w1 ⟨rfl, hb⟩; have hR1 := HR.out.keep hb hlt'; have HR1 := hid hR1; obtain ⟨c0, c1⟩ := hR1.cell k 0 HX.out; have f0 := hR1.free (k * 2); have f1 := hR1.free (k * 2 + 1); clear hR1)
          go_roundw
          case rel =>
            have hR2 := HR1.out.set (e := k) (y := 1) (by have := lt_of_some HX.out; exact this)
            rw [ones_set hkN] at hR2
            exact ⟨k + 1, by omega, int_eq (by omega), (HC.out.keep hb (by omega)).set2 _ _ _ _ h910, h910, by have := hb.size; simp [World.setCell]; omega, hR2⟩
          case measure => simp [intOf]; omega
        · obtain rfl : N = k := by omega
          have hR1 : NRow wr g10 (citer (mayP h l) N 0) := by have := HR.out; simpa [ones, citer] using this
          have HR1 := hid hR1
          clear HR hR1
          go_upto_region 16 with fail
          obtain ⟨wo, rfl⟩ : ∃ wo : World, wo = wr := ⟨_, rfl⟩
          go_loopg [10, 53] m (fun gk u i wr => L2 w l g9 N m (mayP h l) gk u i wr)
          case atStart => exact ⟨0, g10, by omega, rfl, rfl, HC.out, h910, hlt', HR1.out⟩
          case round =>
            obtain ⟨k, g, hk, rfl, rfl, hC, hg, hgs, hR⟩ := hrel
            have HC := hid hC
            have HR := hid hR
            clear hC hR
            by_cases hkm : k < m
            · have HM := hid (citer_most (mayP h l) (N := N) (by omega) k)
              have HL := hid (citer_len (mayP h l) N k)
              have HS := hid (show citer (mayP h l) N (k + 1) = cstep (mayP h l) N (citer (mayP h l) N k) from rfl)
              generalize citer (mayP h l) N k = xs at *
              go_upto_region 19 with (at_make; refine wpList_nums _ rfl _ _ rfl _ _ _ _ N rfl rfl hsw hsw (by omega) ?_; intro w2 hrow hgr hlt)
              have HC2 := hid (HC.out.keep hgr HC.out.hi)
              have HR2 := hid (HR.out.keep hgr hgs)
              have HRow := hid hrow
              clear hrow HC HR hgr
              generalize wr.heap.size = g12 at *
              go_loopg [60] N (fun gk i wr => L3 w l g9 g g12 N (mayP h l) xs gk i wr)
              case atStart => exact ⟨0, by omega, rfl, HC2.out, HR2.out, by rw [mix_start]; exact HRow.out, hlt⟩
              case round =>
                obtain ⟨c, hc, rfl, hC, hR, hT, hsz⟩ := hrel
                have HC := hid hC
                have HR := hid hR
                have HT := hid hT
                clear hC hR hT HC2 HR2 HRow hlt
                by_cases hcN : c < N
                · obtain ⟨x, hx⟩ := some_of_lt (l := xs) (k := c) (by rw [HL.out]; exact hcN)
                  obtain ⟨k0, k1⟩ := HR.out.cell c x hx
                  have HX := hid hx
                  clear hx
                  go_upto_region 22 with fail
                  have hB0 : Below wr.heap.size wr (wr.alloc (.cells #[.bool false, .string (nmg x)] 41)) := (Below.refl _ _).alloc (Nat.le_refl _) _
                  have HC1 := hid (HC.out.keep hB0 HC.out.hi)
                  have HR1 := hid (HR.out.keep hB0 (by omega))
                  have HT1 := hid (HT.out.keep hB0 hsz)
                  have k2 : (wr.alloc (.cells #[.bool false, .string (nmg x)] 41)).cell? ⟨wr.heap.size, 0, none⟩ = some (.bool false) := by simp [go_sem]
                  have k3 : (wr.alloc (.cells #[.bool false, .string (nmg x)] 41)).cell? ⟨wr.heap.size, 1, none⟩ = some (.string (nmg x)) := by simp [go_sem]
                  have k4 : wr.heap.size < (wr.alloc (.cells #[.bool false, .string (nmg x)] 41)).heap.size := by simp
                  clear HC HR HT hB0 k0 k1
                  generalize wr.alloc (.cells #[.bool false, .string (nmg x)] 41) = w3 at *
                  generalize wr.heap.size = g14 at *
                  go_loopg [67] N (fun gk i w' => L4 w l g9 g g12 g14 N c x (mayP h l) xs gk i w')
                  case atStart => exact ⟨0, by omega, rfl, HC1.out, HR1.out, HT1.out, k4, k2, k3⟩
                  case round =>
                    obtain ⟨e, he, rfl, hC, hR, hT, h14, c0, c1⟩ := hrel
                    have HC := hid hC
                    have HR := hid hR
                    have HT := hid hT
                    clear hC hR hT HC1 HR1 HT1 k2 k3 k4
                    by_cases heN : e < N
                    · have hbs : Calls Try.prog 45 _ _ (fun e' w' => e' = .returned (.bool (mayP h l c e)) ∧ Below wr.heap.size wr w') := beside_any g9 (fun j => l.contains (j : Int)) h c e wr h1 h4 (by omega) (by omega) (by omega) (by omega) (blks_range h c e (by omega) (by omega) (fun h' => by subst h'; have := HNs.out; simp [side] at this; omega) (fun h' => by subst h'; have := HNs.out; simp [side] at this; omega)) HC.out.hi HC.out.tab
                      by_cases hP : mayP h l c e = true
                      · rw [hP] at hbs
                        have HBS := hid hbs
                        clear hbs
                        go_upto_region 25 with (go_at_call 45; refine HBS.out.mono ?_; rintro e' w4 ⟨rfl, hb⟩)
                        have HC4 := hid (HC.out.keep hb HC.out.hi)
                        have HR4 := hid (HR.out.keep hb (by omega))
                        have HT4 := hid (HT.out.keep hb (by omega))
                        have c0 := keeps hb c0
                        have c1 := keeps hb c1
                        have h14 := Nat.lt_of_lt_of_le h14 hb.size
                        clear hb HBS HC HR HT
                        obtain ⟨k0, k1⟩ := HT4.out.cell e _ (mix_get _ _ _ _ _ heN)
                        have f0 := HT4.out.free (e * 2)
                        have f1 := HT4.out.free (e * 2 + 1)
                        rw [if_neg (by omega)] at k1
                        have hx1 : Fits (x : Int) := fits_pow (m := k) (by omega) (HM.out x (List.mem_of_getElem? HX.out))
                        have ha1 : Fits ((acc (mayP h l) xs c e : Nat) : Int) := fits_pow (m := k + 1) (by omega) (by
                          have h1 := acc_most (mayP h l) HM.out c e
                          have h2 : c * 16 ^ k ≤ 16 * 16 ^ k := Nat.mul_le_mul_right _ (by omega)
                          rw [Nat.pow_succ]; omega)
                        have HSet := hid (mix_set (mayP h l) N xs c e heN)
                        have HA := hid (show acc (mayP h l) xs (c + 1) e = acc (mayP h l) xs c e + x by rw [acc, if_pos hP, List.getD_eq_getElem?_getD, HX.out]; rfl)
                        have HX1 := hid hx1
                        have HA1 := hid ha1
                        clear hx1 ha1
                        generalize acc (mayP h l) xs c e = A at *
                        go_region_with (go_at_call 47; refine (addN_any A x _ HA1.out HX1.out).mono ?_; rintro e' w5 ⟨rfl, hb⟩; have k0' := keeps hb k0; have k1' := keeps hb k1; have f0' := keeps_frozen hb k0 f0; have f1' := keeps_frozen hb k1 f1)
                        all_goals
                          have hb4 : Below w4.heap.size w4 w5 := ⟨hb.os, hb.tape, hb.output, hb.size, hb.block⟩
                          have c0 := keeps hb4 c0
                          have c1 := keeps hb4 c1
                          have h14 := Nat.lt_of_lt_of_le h14 hb4.size
                          have HC5 := hid (HC4.out.keep hb4 HC4.out.hi)
                          have HR5 := hid (HR4.out.keep hb4 (by omega))
                          have HT5 := hid (HT4.out.keep hb4 (by omega))
                          clear hb hb4 HC4 HR4 HT4 k0 k1 f0 f1 k0' k1' f0' f1'
                          go_wp2
                          go_roundg (N - (e + 1))
                          case rel =>
                            have hT := HT5.out.set (e := e) (y := A + x) (by rw [mix_len]; exact heN)
                            rw [← HA.out, HSet.out, HA.out] at hT
                            refine ⟨e + 1, by omega, int_eq (by omega), HC5.out.set2 _ _ _ _ (by omega), (HR5.out.far _ _ (by show g12 ≠ g; omega)).far _ _ (by show g12 ≠ g; omega), hT, by simp [World.setCell]; omega, ?_, ?_⟩
                            · rw [World.cell?_setCell_far _ _ _ _ (by show g12 ≠ g14; omega), World.cell?_setCell_far _ _ _ _ (by show g12 ≠ g14; omega)]; exact c0
                            · rw [World.cell?_setCell_far _ _ _ _ (by show g12 ≠ g14; omega), World.cell?_setCell_far _ _ _ _ (by show g12 ≠ g14; omega)]; exact c1
                          case measure => omega
                      · have hPf : mayP h l c e = false := by simpa using hP
                        rw [hPf] at hbs
                        have HBS := hid hbs
                        clear hbs hP
                        go_wp2_with (go_at_call 45; refine HBS.out.mono ?_; rintro e' w4 ⟨rfl, hb⟩)
                        have HC4 := hid (HC.out.keep hb HC.out.hi)
                        have HR4 := hid (HR.out.keep hb (by omega))
                        have HT4 := hid (HT.out.keep hb (by omega))
                        have c0 := keeps hb c0
                        have c1 := keeps hb c1
                        have h14 := Nat.lt_of_lt_of_le h14 hb.size
                        go_roundg (N - (e + 1))
                        case rel => exact ⟨e + 1, by omega, int_eq (by omega), HC4.out, HR4.out, by rw [mix_skip _ _ _ _ _ hPf]; exact HT4.out, h14, c0, c1⟩
                        case measure => omega
                    · obtain rfl : N = e := by omega
                      have HT5 := hid (show NRow wr g12 (mix (mayP h l) N xs (c + 1) 0) by rw [← mix_next]; exact HT.out)
                      clear HT
                      have hsz' : g12 < wr.heap.size := by omega
                      clear he heN c0 c1 h14
                      go_wp2
                      go_roundg (N - (c + 1))
                      case rel => exact ⟨c + 1, by omega, int_eq (by omega), HC.out, HR.out, HT5.out, hsz'⟩
                      case measure => omega
                · obtain rfl : N = c := by omega
                  have HT5 := hid (show NRow wr g12 (citer (mayP h l) N (k + 1)) by rw [HS.out, ← mix_end]; exact HT.out)
                  clear HT hc hcN
                  go_wp2
                  go_roundg (m - (k + 1))
                  case rel => exact ⟨k + 1, g12, by omega, int_eq (by omega), rfl, HC.out, by omega, hsz, HT5.out⟩
                  case measure => omega
            · obtain rfl : k = m := by omega
              clear hk hkm HC2 hlt hrow hlt' HR1
              have HM := hid (citer_most (mayP h l) (N := N) (by omega) k)
              have HL := hid (citer_len (mayP h l) N k)
              generalize citer (mayP h l) N k = xs at *
              go_upto_region 32 with fail
              have hB0 : Below wr.heap.size wr (wr.alloc (.cells #[.bool false, .string ⟨#[]⟩] 41)) := (Below.refl _ _).alloc (Nat.le_refl _) _
              have HC1 := hid (HC.out.keep hB0 HC.out.hi)
              have HR1 := hid (HR.out.keep hB0 hgs)
              have k2 : (wr.alloc (.cells #[.bool false, .string ⟨#[]⟩] 41)).cell? ⟨wr.heap.size, 0, none⟩ = some (.bool false) := by simp [go_sem]
              have k3 : (wr.alloc (.cells #[.bool false, .string ⟨#[]⟩] 41)).cell? ⟨wr.heap.size, 1, none⟩ = some (.string (nmg 0)) := by simp [go_sem, nmg, bytesBE_zero]
              have k5 : (wr.alloc (.cells #[.bool false, .string ⟨#[]⟩] 41)).frozen? ⟨wr.heap.size, 0, none⟩ = false := by simp [go_sem]
              have k6 : (wr.alloc (.cells #[.bool false, .string ⟨#[]⟩] 41)).frozen? ⟨wr.heap.size, 1, none⟩ = false := by simp [go_sem]
              have k4 : wr.heap.size < (wr.alloc (.cells #[.bool false, .string ⟨#[]⟩] 41)).heap.size := by simp
              clear HC HR hB0
              generalize wr.alloc (.cells #[.bool false, .string ⟨#[]⟩] 41) = w3 at *
              generalize wr.heap.size = g16 at *
              go_loopg [89] N (fun gk i w' => L5 w l g9 g g16 N xs gk i w')
              case atStart => exact ⟨0, by omega, rfl, HC1.out, HR1.out, k4, k2, k3, k5, k6⟩
              case round =>
                obtain ⟨j, hj, rfl, hC, hR, h16, c0, c1, f0, f1⟩ := hrel
                have HC := hid hC
                have HR := hid hR
                clear hC hR HC1 HR1 k2 k3 k4 k5 k6
                by_cases hjN : j < N
                · obtain ⟨x, hx⟩ := some_of_lt (l := xs) (k := j) (by rw [HL.out]; exact hjN)
                  obtain ⟨y0, y1⟩ := HR.out.cell j x hx
                  have hx1 : Fits (x : Int) := fits_pow (m := k) (by omega) (HM.out x (List.mem_of_getElem? hx))
                  have hs1 : Fits (((xs.take j).sum : Nat) : Int) := fits_pow (m := k + 1) (by omega) (by
                    have h1 := sum_most (M := 16 ^ k) (xs := xs.take j) (fun z hz => HM.out z (List.mem_of_mem_take hz))
                    have h2 : (xs.take j).length * 16 ^ k ≤ 16 * 16 ^ k := Nat.mul_le_mul_right _ (by rw [List.length_take]; omega)
                    rw [Nat.pow_succ]; omega)
                  have HX := hid (show (xs.take (j + 1)).sum = (xs.take j).sum + x by rw [take_snoc hx]; simp)
                  have HX1 := hid hx1
                  have HS1 := hid hs1
                  have HJ := hid hj
                  clear hx hx1 hs1 hj
                  go_upto_region 34 with fail
                  have hB0 : Below wr.heap.size wr (wr.alloc (.cells #[.bool false, .string (nmg x)] 41)) := (Below.refl _ _).alloc (Nat.le_refl _) _
                  have f0' := keeps_frozen hB0 c0 f0
                  have f1' := keeps_frozen hB0 c1 f1
                  have c0' := keeps hB0 c0
                  have c1' := keeps hB0 c1
                  have HC3 := hid (HC.out.keep hB0 HC.out.hi)
                  have HR3 := hid (HR.out.keep hB0 (by omega))
                  have k2 : (wr.alloc (.cells #[.bool false, .string (nmg x)] 41)).cell? ⟨wr.heap.size, 0, none⟩ = some (.bool false) := by simp [go_sem]
                  have k3 : (wr.alloc (.cells #[.bool false, .string (nmg x)] 41)).cell? ⟨wr.heap.size, 1, none⟩ = some (.string (nmg x)) := by simp [go_sem]
                  have k4 : wr.heap.size < (wr.alloc (.cells #[.bool false, .string (nmg x)] 41)).heap.size := by simp
                  clear hB0 HC HR c0 c1 f0 f1 y0 y1
                  generalize wr.alloc (.cells #[.bool false, .string (nmg x)] 41) = w5 at *
                  generalize wr.heap.size = g18 at *
                  go_wp2_with (go_at_call 47; refine (addN_any _ x _ HS1.out HX1.out).mono ?_; rintro e' w6 ⟨rfl, hb⟩; have HC6 := hid (HC3.out.keep hb HC3.out.hi); have HR6 := hid (HR3.out.keep hb (by omega)); have f0 := keeps_frozen hb c0' f0'; have f1 := keeps_frozen hb c1' f1'; have c0 := keeps hb c0'; have c1 := keeps hb c1'; have k7 := hb.size)
                  go_roundg (N - (j + 1))
                  case rel =>
                    refine ⟨j + 1, by omega, int_eq (by omega), HC6.out.set2 _ _ _ _ (by omega), (HR6.out.far _ _ (by show g16 ≠ g; omega)).far _ _ (by show g16 ≠ g; omega), by simp [World.setCell]; omega, ?_, ?_, ?_, ?_⟩
                    · rw [World.cell?_setCell_other _ _ _ _ (by simp)]; exact World.cell?_setCell_same _ _ _ c0
                    · rw [HX.out]
                      exact World.cell?_setCell_same _ _ _ (by rw [World.cell?_setCell_other _ _ _ _ (by simp)]; exact c1)
                    · rw [World.frozen?_setCell, World.frozen?_setCell]; exact f0
                    · rw [World.frozen?_setCell, World.frozen?_setCell]; exact f1
                  case measure => have := HJ.out; omega
                · obtain rfl : N = j := by omega
                  have hsum : (xs.take N).sum = xs.sum := by rw [take_all (by rw [HL.out]; exact Nat.le_refl _)]
                  rw [hsum] at c1
                  have hres := HC.out.res
                  have r0 : wr.cell? ⟨w.heap.size, 0, none⟩ = some (.bool false) := by rw [cell_of_row _ w.heap.size 0 _ _ _ hres]; rfl
                  have r1 : wr.cell? ⟨w.heap.size, 1, none⟩ = some (.string ⟨#[]⟩) := by rw [cell_of_row _ w.heap.size 1 _ _ _ hres]; rfl
                  have r2 : wr.frozen? ⟨w.heap.size, 0, none⟩ = false := by simp only [World.frozen?, hres]; simp
                  have r3 : wr.frozen? ⟨w.heap.size, 1, none⟩ = false := by simp only [World.frozen?, hres]; simp
                  clear hj hjN hsum hres HR f0 f1
                  go_wp2
                  refine bodyPost_ret (v := .tuple #[.agg #[.bool false, .string (nmg xs.sum)], .int .i64 0]) ?_ rfl ⟨by rw [HE.out, HN'.out], ?_⟩
                  · simp [results, Try.results22, go_sem, r0, r1]
                  · exact (HC.out.bel.setCell (p := ⟨w.heap.size, 0, none⟩) (Nat.le_refl _) _).setCell (p := ⟨w.heap.size, 1, none⟩) (Nat.le_refl _) _
end Go.Proofs.Ytppflnkadjddiaa
