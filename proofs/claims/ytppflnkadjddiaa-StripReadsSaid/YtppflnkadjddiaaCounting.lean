/-
  strip.Count: the numbers that it reckons with, and their rows in memory.
  strip.Count: the number of rectangles that are allowed.
  strip.Count where all is allowed: the loops.
  strip.Count, whole.
  Conditions: No condition. No condition. The height is one, the blocks are a list for it, and the number of columns is one. No condition.
-/
import Derived.Test.YtppflnkadjddiaaIntegers
import Derived.Test.YtppflnkadjddiaaTable
import Derived.Test.YtppflnkadjddiaaBasics
import Derived.Deep.RegionWith
import Derived.Deep.LoopGhost
namespace Go.Proofs.Ytppflnkadjddiaa
open Go.RowKit
set_option linter.unusedVariables false

/-- The sum over the first c columns that can stand before e. -/
def acc (P : Nat → Nat → Bool) (xs : List Nat) : Nat → Nat → Nat
  | 0, _ => 0
  | c + 1, e => acc P xs c e + (if P c e then xs.getD c 0 else 0)
def cstep (P : Nat → Nat → Bool) (N : Nat) (xs : List Nat) : List Nat := (List.range N).map (acc P xs N)
def citer (P : Nat → Nat → Bool) (N : Nat) : Nat → List Nat
  | 0 => List.replicate N 1
  | k + 1 => cstep P N (citer P N k)
/-- In the middle of a column: the first e entries have the column's share. -/
def mix (P : Nat → Nat → Bool) (N : Nat) (xs : List Nat) (c e : Nat) : List Nat := (List.range N).map fun j => if j < e then acc P xs (c + 1) j else acc P xs c j
def cnt (P : Nat → Nat → Bool) (N n : Nat) : Nat := if n = 0 then 1 else (citer P N (n - 1)).sum

theorem mix_len (P N xs c e) : (mix P N xs c e).length = N := by simp [mix]
theorem mix_get (P N xs c e) {j : Nat} (h : j < N) : (mix P N xs c e)[j]? = some (if j < e then acc P xs (c + 1) j else acc P xs c j) := by simp [mix, h]
theorem mix_start (P N xs) : mix P N xs 0 0 = List.replicate N 0 := by
  apply List.ext_getElem?
  intro j
  by_cases h : j < N
  · rw [mix_get _ _ _ _ _ h]; simp [acc, h]
  · rw [List.getElem?_eq_none (by simp [mix]; omega), List.getElem?_eq_none (by simp; omega)]
theorem mix_next (P N xs c) : mix P N xs c N = mix P N xs (c + 1) 0 := by
  apply List.ext_getElem?
  intro j
  by_cases h : j < N
  · rw [mix_get _ _ _ _ _ h, mix_get _ _ _ _ _ h]; simp [h]
  · rw [List.getElem?_eq_none (by simp [mix]; omega), List.getElem?_eq_none (by simp [mix]; omega)]
theorem mix_end (P N xs) : mix P N xs N 0 = cstep P N xs := by simp [mix, cstep]
theorem mix_set (P N xs c e) (h : e < N) : (mix P N xs c e).set e (acc P xs (c + 1) e) = mix P N xs c (e + 1) := by
  apply List.ext_getElem?
  intro j
  by_cases hj : j < N
  · rw [mix_get _ _ _ _ _ hj]
    by_cases hje : j = e
    · subst hje; simp [mix, h]
    · rw [List.getElem?_set_ne (by omega), mix_get _ _ _ _ _ hj]
      by_cases hl : j < e
      · rw [if_pos hl, if_pos (by omega)]
      · rw [if_neg hl, if_neg (by omega)]
  · rw [List.getElem?_eq_none (by simp [mix]; omega), List.getElem?_eq_none (by simp [mix]; omega)]
theorem mix_skip (P N xs c e) (h : P c e = false) : mix P N xs c (e + 1) = mix P N xs c e := by
  apply List.ext_getElem?
  intro j
  by_cases hj : j < N
  · rw [mix_get _ _ _ _ _ hj, mix_get _ _ _ _ _ hj]
    by_cases hje : j = e
    · subst hje; simp [acc, h]
    · by_cases hl : j < e
      · rw [if_pos hl, if_pos (by omega)]
      · rw [if_neg hl, if_neg (by omega)]
  · rw [List.getElem?_eq_none (by simp [mix]; omega), List.getElem?_eq_none (by simp [mix]; omega)]

/-! How great they can be. -/
def Most (M : Nat) (xs : List Nat) : Prop := ∀ x ∈ xs, x ≤ M
theorem getD_most {M : Nat} {xs : List Nat} (h : Most M xs) (c : Nat) : xs.getD c 0 ≤ M := by
  rw [List.getD_eq_getElem?_getD]
  cases hc : xs[c]? with
  | none => simp
  | some x => exact h x (List.mem_of_getElem? hc)
theorem acc_most {M : Nat} (P : Nat → Nat → Bool) {xs : List Nat} (h : Most M xs) (c e : Nat) : acc P xs c e ≤ c * M := by
  induction c with
  | zero => simp [acc]
  | succ c ih =>
    rw [acc, Nat.succ_mul]
    have := getD_most h c
    split <;> omega
theorem cstep_most {M N : Nat} (P : Nat → Nat → Bool) {xs : List Nat} (h : Most M xs) : Most (N * M) (cstep P N xs) := by
  intro x hx
  simp only [cstep, List.mem_map] at hx
  obtain ⟨e, _, rfl⟩ := hx
  exact acc_most P h N e
theorem citer_len (P N k) : (citer P N k).length = N := by cases k <;> simp [citer, cstep]
theorem citer_most (P : Nat → Nat → Bool) {N : Nat} (hN : N ≤ 16) (k : Nat) : Most (16 ^ k) (citer P N k) := by
  induction k with
  | zero => intro x hx; simp [citer] at hx; omega
  | succ k ih =>
    intro x hx
    have h1 := cstep_most (N := N) P ih x hx
    have h2 : N * 16 ^ k ≤ 16 * 16 ^ k := Nat.mul_le_mul_right _ hN
    rw [Nat.pow_succ]
    omega
theorem sum_most {M : Nat} {xs : List Nat} (h : Most M xs) : xs.sum ≤ xs.length * M := by
  induction xs with
  | nil => simp
  | cons a r ih =>
    have h1 := ih (fun x hx => h x (List.mem_cons_of_mem _ hx))
    have h2 := h a (List.mem_cons_self ..)
    rw [List.sum_cons, List.length_cons, Nat.succ_mul]
    omega
theorem fits_pow {n m : Nat} (hm : m ≤ 5000) (h : n ≤ 16 ^ m) : Fits (n : Int) := by
  have h1 : 16 ^ m < 256 ^ (m + 1) := by
    have h2 : 16 ^ m ≤ 256 ^ m := Nat.pow_le_pow_left (by decide) m
    have h3 : 256 ^ m < 256 ^ (m + 1) := Nat.pow_lt_pow_right (by decide) (by omega)
    omega
  have h4 := bytesBE_len n (m + 1) (by omega)
  show (bytesBE ((n : Int)).natAbs).length ≤ 200000
  simp only [Int.natAbs_natCast]
  omega

/-! A row of numbers in memory. -/
structure NRow (w : World) (g : Nat) (xs : List Nat) : Prop where
  cell : ∀ j x, xs[j]? = some x → w.cell? ⟨g, j * 2, none⟩ = some (.bool false) ∧ w.cell? ⟨g, j * 2 + 1, none⟩ = some (.string (nmg x))
  free : ∀ o, w.frozen? ⟨g, o, none⟩ = false
theorem NRow.keep {w w' : World} {g B : Nat} {xs : List Nat} (h : NRow w g xs) (hb : Below B w w') (hg : g < B) : NRow w' g xs :=
  ⟨fun j x hx => ⟨(hb.cell hg).trans (h.cell j x hx).1, (hb.cell hg).trans (h.cell j x hx).2⟩, fun o => (hb.frozen hg).trans (h.free o)⟩
theorem NRow.set {w : World} {g e y : Nat} {xs : List Nat} (h : NRow w g xs) (he : e < xs.length) :
    NRow ((w.setCell ⟨g, e * 2, none⟩ (.bool false)).setCell ⟨g, e * 2 + 1, none⟩ (.string (nmg y))) g (xs.set e y) := by
  obtain ⟨x0, hx0⟩ := some_of_lt he
  obtain ⟨k0, k1⟩ := h.cell e x0 hx0
  have k1' : (w.setCell ⟨g, e * 2, none⟩ (.bool false)).cell? ⟨g, e * 2 + 1, none⟩ = some (.string (nmg x0)) := by
    rw [World.cell?_setCell_other _ _ _ _ (by simp)]; exact k1
  refine ⟨fun j x hx => ?_, fun o => by rw [World.frozen?_setCell, World.frozen?_setCell]; exact h.free o⟩
  by_cases hj : j = e
  · subst hj
    rw [List.getElem?_set_self he] at hx
    obtain rfl : y = x := by simpa using hx
    exact ⟨by rw [World.cell?_setCell_other _ _ _ _ (by simp)]; exact World.cell?_setCell_same _ _ _ k0, World.cell?_setCell_same _ _ _ k1'⟩
  · rw [List.getElem?_set_ne (by omega)] at hx
    obtain ⟨c0, c1⟩ := h.cell j x hx
    refine ⟨?_, ?_⟩
    · rw [World.cell?_setCell_other _ _ _ _ (fun e' => by injection e' with _ e2; omega), World.cell?_setCell_other _ _ _ _ (fun e' => by injection e' with _ e2; omega)]; exact c0
    · rw [World.cell?_setCell_other _ _ _ _ (fun e' => by injection e' with _ e2; omega), World.cell?_setCell_other _ _ _ _ (fun e' => by injection e' with _ e2; omega)]; exact c1
/-- A store into another block. -/
theorem NRow.far {w : World} {g : Nat} {xs : List Nat} (h : NRow w g xs) (a : Addr) (v : Value) (ha : a.block ≠ g) : NRow (w.setCell a v) g xs :=
  ⟨fun j x hx => ⟨by rw [World.cell?_setCell_far _ _ _ _ ha]; exact (h.cell j x hx).1, by rw [World.cell?_setCell_far _ _ _ _ ha]; exact (h.cell j x hx).2⟩, fun o => by rw [World.frozen?_setCell]; exact h.free o⟩

theorem getElem?_madeCells (z : Array Value) (hz : 0 < z.size) (n j : Nat) (h : j < n) : (madeCells z n)[j]? = z[j % z.size]? := by
  have h2 : j % z.size < z.size := Nat.mod_lt _ hz
  simp [madeCells, h, h2]
theorem NRow.of_owns {w : World} {base : Nat} {e : TypeId} {g n : Nat} (h : w.ownsRow base e 2 (.slice (some ⟨g, 0, none⟩) n n) n (madeCells #[.bool false, .string ⟨#[]⟩] (n * 2)).toList) : NRow w g (List.replicate n 0) := by
  refine ⟨fun j x hx => ?_, fun o => ?_⟩
  · have hj : j < n := by have := lt_of_some hx; simpa using this
    have hx0 : x = 0 := by rw [List.getElem?_replicate] at hx; split at hx <;> simp_all
    subst hx0
    rw [h.cellAt _ (by omega), h.cellAt _ (by omega), Array.getElem?_toList, Array.getElem?_toList, getElem?_madeCells _ (by simp) _ _ (by omega), getElem?_madeCells _ (by simp) _ _ (by omega)]
    have h1 : j * 2 % 2 = 0 := by omega
    have h2 : (j * 2 + 1) % 2 = 1 := by omega
    simp [h1, h2, nmg, bytesBE_zero]
  · rcases h.2 with ⟨h', _⟩ | ⟨g', cap', cur, h', _, hg, _⟩
    · simp at h'
    · simp only [Value.slice.injEq, Option.some.injEq, Addr.mk.injEq, and_true, true_and] at h'
      obtain ⟨rfl, rfl⟩ := h'
      simp only [World.frozen?, hg]
      simp
end Go.Proofs.Ytppflnkadjddiaa

namespace Go.Proofs.Ytppflnkadjddiaa
open Go.RowKit
set_option linter.unusedVariables false

theorem isg_nat (n : Nat) : isg (n : Int) = false := by simp [isg]
theorem img_nat (n : Nat) : img (n : Int) = nmg n := by simp [img]
theorem addN_any (a b : Nat) (w : World) (ha : Fits (a : Int)) (hb : Fits (b : Int)) :
    Calls Try.prog 47 #[.agg #[.bool false, .string (nmg a)], .agg #[.bool false, .string (nmg b)]] w fun e w' => e = .returned (.agg #[.bool false, .string (nmg (a + b))]) ∧ Below w.heap.size w w' := by
  have := addI_any (a : Int) (b : Int) w ha hb
  rwa [isg_nat, isg_nat, img_nat, img_nat, ← Int.natCast_add, isg_nat, img_nat] at this
theorem ofOne_any (w : World) :
    Calls Try.prog 25 #[.int .i64 1] w fun e w' => e = .returned (.agg #[.bool false, .string (nmg 1)]) ∧ Below w.heap.size w w' := of_any 1 w (by decide) (by decide)

/-- What the blocks allow side by side. -/
def mayP (h : Int) (l : List Int) (c e : Nat) : Bool := besP (fun j => l.contains (j : Int)) h c e
def cntE (h n : Int) (l : List Int) : Int := if chk h l ≠ 0 then chk h l else if n < 0 ∨ 4096 < n then 2 else 0
def cntN (h n : Int) (l : List Int) : Nat := if cntE h n l = 0 then cnt (mayP h l) (side h).toNat n.toNat else 0
def CountPost (h n : Int) (l : List Int) (w : World) (e : Ending) (w' : World) : Prop :=
  e = .returned (.tuple #[.agg #[.bool false, .string (nmg (cntN h n l))], .int .i64 (cntE h n l)]) ∧ Below w.heap.size w w'

set_option maxRecDepth 100000 in
set_option maxHeartbeats 4000000 in
theorem count_bad (h n : Int) (v : Value) (l : List Int) (w : World) (hl : Sl 1 w v l.length (ints l)) (hE : cntE h n l ≠ 0) :
    Calls Try.prog 22 #[.int .i64 h, .int .i64 n, v] w (CountPost h n l w) := by
  have hN : cntN h n l = 0 := by rw [cntN, if_neg hE]
  have HN := hid hN
  have hlw := check_any h l v (w.alloc (.cells #[.bool false, .string ⟨#[]⟩] 41)) (hl.below ((Below.refl _ _).alloc (Nat.le_refl _) _))
  by_cases hc : chk h l = 0
  · have hE2 : cntE h n l = 2 := by
      rw [cntE, if_neg (by simp [hc])] at hE ⊢
      split
      · rfl
      · rename_i h'; rw [if_neg h'] at hE; simp at hE
    have hn : n < 0 ∨ 4096 < n := by
      rw [cntE, if_neg (by simp [hc])] at hE2
      split at hE2
      · assumption
      · cases hE2
    have HE := hid hE2
    rw [hc] at hlw
    clear hE hE2 hN hl
    go_enter Try.func22, Try.ntmps22
    go_upto_region 4 with (go_at_call 32; refine hlw.mono ?_; rintro e w' ⟨rfl, rfl⟩)
    by_cases hn0 : n < 0
    · go_wp2
      refine bodyPost_ret (v := .tuple #[.agg #[.bool false, .string ⟨#[]⟩], .int .i64 2]) ?_ rfl ⟨by rw [HN.out, HE.out, nmg, bytesBE_zero], ?_⟩
      · simp [results, Try.results22, go_sem]
      · exact (Below.refl _ _).alloc (Nat.le_refl _) _
    · have hn1 : 4096 < n := by omega
      go_wp2
      refine bodyPost_ret (v := .tuple #[.agg #[.bool false, .string ⟨#[]⟩], .int .i64 2]) ?_ rfl ⟨by rw [HN.out, HE.out, nmg, bytesBE_zero], ?_⟩
      · simp [results, Try.results22, go_sem]
      · exact (Below.refl _ _).alloc (Nat.le_refl _) _
  · have hE2 : cntE h n l = chk h l := by rw [cntE, if_pos (by simp [hc])]
    have HE := hid hE2
    have hcb : ((chk h l) != 0) = true := by simp [hc]
    clear hE hE2 hN hl
    generalize chk h l = C at *
    go_enter Try.func22, Try.ntmps22
    go_upto_region 3 with (go_at_call 32; refine hlw.mono ?_; rintro e w' ⟨rfl, rfl⟩)
    clear hlw
    go_wp2
    refine bodyPost_ret (v := .tuple #[.agg #[.bool false, .string ⟨#[]⟩], .int .i64 C]) ?_ rfl ⟨by rw [HN.out, HE.out, nmg, bytesBE_zero], ?_⟩
    · simp [results, Try.results22, go_sem]
    · exact (Below.refl _ _).alloc (Nat.le_refl _) _
end Go.Proofs.Ytppflnkadjddiaa

namespace Go.Proofs.Ytppflnkadjddiaa
open Go.RowKit
set_option linter.unusedVariables false

theorem chk_range {h : Int} {l : List Int} (hc : chk h l = 0) : (1 ≤ h ∧ h ≤ 4) ∧ ∀ x ∈ l, 0 ≤ x ∧ x ≤ 15 := by
  rw [chk] at hc
  split at hc
  · rename_i hh
    refine ⟨hh, ?_⟩
    have : ∀ (l : List Int) (p : Option Int), chkGo (most h) p l = 0 → ∀ x ∈ l, 0 ≤ x ∧ x ≤ 15 := by
      intro l
      induction l with
      | nil => intro p _ x hx; simp at hx
      | cons a r ih =>
        intro p hp x hx
        rw [chkGo] at hp
        split at hp
        · simp at hp
        · split at hp
          · simp at hp
          · rename_i h1 _
            have h15 : most h ≤ 15 := by unfold most; split <;> omega
            rcases List.mem_cons.1 hx with rfl | hx
            · omega
            · exact ih _ hp x hx
    exact this l none hc
  · simp at hc

/-- What stands while Count runs: the result's cells, and the table of the blocks. -/
structure CW (w : World) (l : List Int) (g9 : Nat) (wx : World) : Prop where
  bel : Below w.heap.size w wx
  res : wx.heap[w.heap.size]? = some (.cells #[.bool false, .string ⟨#[]⟩] 41 (0, 0))
  tab : ∀ j, j < 16 → wx.cell? ⟨g9, j, none⟩ = some (.bool (l.contains (j : Int)))
  lo : w.heap.size < g9
  hi : g9 < wx.heap.size
theorem CW.keep {w wx wy : World} {l : List Int} {g9 B : Nat} (h : CW w l g9 wx) (hb : Below B wx wy) (hB : g9 < B) : CW w l g9 wy :=
  ⟨h.bel.trans (hb.mono (by have := h.lo; omega)), (hb.block _ (by have := h.lo; omega)).trans h.res, fun j hj => (hb.cell (p := ⟨g9, j, none⟩) hB).trans (h.tab j hj), h.lo, Nat.lt_of_lt_of_le h.hi hb.size⟩

theorem there_new (w : World) (e : TypeId) (c : Array Value) {cs : Array Value} (hcs : cs.size = 16) (hc : c = Array.replicate 16 (.bool false)) : (w.alloc (.cells c e)).there w.heap.size 0 cs.size := by
  intro j hj
  have hb := heap_alloc_new w (.cells c e)
  subst hc
  rw [Nat.zero_add, cell_of_row _ _ j _ _ _ hb]
  refine ⟨by simp; omega, ?_⟩
  simp only [World.frozen?, hb]
  simp

theorem CW.set {w wx : World} {l : List Int} {g9 : Nat} (h : CW w l g9 wx) (a : Addr) (v : Value) (ha : g9 < a.block) : CW w l g9 (wx.setCell a v) :=
  h.keep (B := a.block) ((Below.refl a.block wx).setCell (Nat.le_refl _) v) ha
theorem CW.set2 {w wx : World} {l : List Int} {g9 g : Nat} (h : CW w l g9 wx) (o1 o2 : Nat) (v1 v2 : Value) (ha : g9 < g) : CW w l g9 ((wx.setCell ⟨g, o1, none⟩ v1).setCell ⟨g, o2, none⟩ v2) :=
  (h.set ⟨g, o1, none⟩ v1 ha).set ⟨g, o2, none⟩ v2 ha
theorem CW.start {w w1 : World} {l : List Int} {c : Array Value} {e : TypeId} (hb : Below (w.heap.size + 1) (w.alloc (.cells #[.bool false, .string ⟨#[]⟩] 41)) w1)
    (ht : (w1.alloc (.cells c e)).there w1.heap.size 0 (tabL l).toArray.size) : CW w l w1.heap.size ((w1.alloc (.cells c e)).setCells w1.heap.size 0 (tabL l)) := by
  have hs := hb.size
  rw [World.size_alloc] at hs
  have h1 : Below (w.heap.size + 1) w1 ((w1.alloc (.cells c e)).setCells w1.heap.size 0 (tabL l)) := below_setCells ((Below.refl _ _).alloc hs _) hs _ _
  have ht' : (w1.alloc (.cells c e)).there w1.heap.size 0 (tabL l).length := by rw [tabA_size] at ht; rw [tabL_len]; exact ht
  refine ⟨(below_laid hb).trans (h1.mono (by omega)), ?_, ?_, by omega, ?_⟩
  · rw [h1.block _ (by omega), hb.block _ (by omega)]
    exact heap_alloc_new w _
  · intro j hj
    have := World.rangeAt_setCells_same _ _ _ _ ht' j _ (tabL_get l hj)
    rwa [Nat.zero_add] at this
  · have h2 : Below (w.heap.size + 1) (w1.alloc (.cells c e)) ((w1.alloc (.cells c e)).setCells w1.heap.size 0 (tabL l)) := below_setCells (Below.refl _ _) hs _ _
    have := h2.size
    rw [World.size_alloc] at this
    omega

/-- In the middle of filling. -/
def ones (N k : Nat) : List Nat := List.replicate k 1 ++ List.replicate (N - k) 0
theorem ones_get {N k : Nat} (h : k < N) : (ones N k)[k]? = some 0 := by
  rw [ones, List.getElem?_append_right (by simp), List.getElem?_replicate]
  simp; omega
theorem ones_set {N k : Nat} (h : k < N) : (ones N k).set k 1 = ones N (k + 1) := by
  obtain ⟨d, rfl⟩ : ∃ d, N = k + 1 + d := ⟨N - (k + 1), by omega⟩
  have e1 : k + 1 + d - k = d + 1 := by omega
  have e2 : k + 1 + d - (k + 1) = d := by omega
  rw [ones, ones, e1, e2, List.set_append_right _ _ (by simp)]
  rw [List.replicate_succ' (n := k)]
  simp [List.replicate_succ]
def L1 (w : World) (l : List Int) (g9 g10 N : Nat) (i : Value) (wr : World) : Prop :=
  ∃ k : Nat, k ≤ N ∧ i = .int .i64 k ∧ CW w l g9 wr ∧ g9 < g10 ∧ g10 < wr.heap.size ∧ NRow wr g10 (ones N k)
def L2 (w : World) (l : List Int) (g9 N m : Nat) (P : Nat → Nat → Bool) (gk : Nat) (u i : Value) (wr : World) : Prop :=
  ∃ k g : Nat, gk + k = m ∧ i = .int .i64 k ∧ u = .slice (some ⟨g, 0, none⟩) N N ∧ CW w l g9 wr ∧ g9 < g ∧ g < wr.heap.size ∧ NRow wr g (citer P N k)
def L3 (w : World) (l : List Int) (g9 g g12 N : Nat) (P : Nat → Nat → Bool) (xs : List Nat) (gk : Nat) (i : Value) (wr : World) : Prop :=
  ∃ c : Nat, gk + c = N ∧ i = .int .i64 c ∧ CW w l g9 wr ∧ NRow wr g xs ∧ NRow wr g12 (mix P N xs c 0) ∧ g12 < wr.heap.size
def L4 (w : World) (l : List Int) (g9 g g12 g14 N c x : Nat) (P : Nat → Nat → Bool) (xs : List Nat) (gk : Nat) (i : Value) (wr : World) : Prop :=
  ∃ e : Nat, gk + e = N ∧ i = .int .i64 e ∧ CW w l g9 wr ∧ NRow wr g xs ∧ NRow wr g12 (mix P N xs c e) ∧ g14 < wr.heap.size ∧ wr.cell? ⟨g14, 0, none⟩ = some (.bool false) ∧ wr.cell? ⟨g14, 1, none⟩ = some (.string (nmg x))
def L5 (w : World) (l : List Int) (g9 g g16 N : Nat) (xs : List Nat) (gk : Nat) (i : Value) (wr : World) : Prop :=
  ∃ j : Nat, gk + j = N ∧ i = .int .i64 j ∧ CW w l g9 wr ∧ NRow wr g xs ∧ g16 < wr.heap.size ∧ wr.cell? ⟨g16, 0, none⟩ = some (.bool false) ∧ wr.cell? ⟨g16, 1, none⟩ = some (.string (nmg (xs.take j).sum)) ∧
  wr.frozen? ⟨g16, 0, none⟩ = false ∧ wr.frozen? ⟨g16, 1, none⟩ = false
theorem Try.infoInt : (Try.prog.info? 41).map (fun i => (i.zero, i.size, i.bytes)) = some (some (.agg #[.bool false, .string ⟨#[]⟩]), 2, 24) := by kernel_rfl
/-- 'make([]api.Int, n)'. -/
theorem wpList_nums (w : World) {ops : Array Oper} {rest : List Oper} {o : Oper} {a : Act} {Q : Exit → Act → World → Prop}
    (hg : o.guard = none) (l c : Operand) (hop : o.op = Op.makeSlice 81 l c)
    (kl kc : IntKind) (L C : Int) (n : Nat) (hl : a.eval l = .int kl L) (hc : a.eval c = .int kc C) (hL : L = (n : Int)) (hC : C = (n : Int)) (b2 : n ≤ 1000000)
    (hK : ∀ w', NRow w' w.heap.size (List.replicate n 0) → Below w.heap.size w w' → w.heap.size < w'.heap.size → wpList Try.prog ops Q rest (a.put o.dst (.slice (some ⟨w.heap.size, 0, none⟩) n n)) w') :
    wpList Try.prog ops Q (o :: rest) a w := by
  obtain ⟨i0, hi, hz0, hz1, hz2⟩ := info_parts Try.infoInt
  refine wpList_make_full w hg l c 81 hop w.heap.size 41 i0 _ 2 Try.underlying81 hi hz0 hz1 kl kc L C n hl hc hL hC (by rw [hz2]; omega) (by unfold maxLen; omega) (Nat.le_refl _) ?_
  intro w' ho hgr
  refine hK w' (NRow.of_owns ho) ((Below.refl _ _).grown hgr (Nat.le_refl _) (by simp)) ?_
  rcases ho.2 with ⟨h', _⟩ | ⟨g', cap', cur, h', _, hg', _⟩
  · simp at h'
  · simp only [Value.slice.injEq, Option.some.injEq, Addr.mk.injEq, and_true, true_and] at h'
    obtain ⟨rfl, rfl⟩ := h'
    exact (Array.getElem?_eq_some_iff.1 hg').1

set_option maxRecDepth 100000 in
set_option maxHeartbeats 8000000 in
theorem count_good (h n : Int) (v : Value) (l : List Int) (w : World) (hl : Sl 1 w v l.length (ints l)) (hc : chk h l = 0) (hn0 : 0 ≤ n) (hn1 : n ≤ 4096) :
    Calls Try.prog 22 #[.int .i64 h, .int .i64 n, v] w (CountPost h n l w) := by
  have hE : cntE h n l = 0 := by rw [cntE, if_neg (by simp [hc]), if_neg (by omega)]
  have hN : cntN h n l = cnt (mayP h l) (side h).toNat n.toNat := by rw [cntN, if_pos hE]
  have hlw := check_any h l v (w.alloc (.cells #[.bool false, .string ⟨#[]⟩] 41)) (hl.below ((Below.refl _ _).alloc (Nat.le_refl _) _))
  rw [hc] at hlw
  have htb := table_any l v (w.alloc (.cells #[.bool false, .string ⟨#[]⟩] 41)) (hl.below ((Below.refl _ _).alloc (Nat.le_refl _) _)) (chk_range hc).2
  obtain ⟨⟨h1, h4⟩, _⟩ := chk_range hc
  have HE := hid hE
  have HN := hid hN
  clear hE hN hl
  by_cases hz : n = 0
  · have HZ := hid (show cntN h n l = 1 by rw [HN.out, hz, cnt]; rfl)
    subst hz
    go_enter Try.func22, Try.ntmps22
    go_upto_region 7 with (go_at_call 32; refine hlw.mono ?_; rintro e w' ⟨rfl, rfl⟩)
    clear hlw htb
    go_wp2_with (go_at_call 25; refine (ofOne_any _).mono ?_; rintro e w1 ⟨rfl, hb⟩; rw [World.size_alloc] at hb; obtain ⟨n1, n2, n3, n4⟩ := numW_cells hb)
    refine bodyPost_ret (v := .tuple #[.agg #[.bool false, .string (nmg 1)], .int .i64 0]) ?_ rfl ⟨by rw [HZ.out, HE.out], ?_⟩
    · simp [results, Try.results22, go_sem, n1, n2]
    · exact ((below_laid hb).setCell (p := ⟨w.heap.size, 0, none⟩) (Nat.le_refl _) _).setCell (p := ⟨w.heap.size, 1, none⟩) (Nat.le_refl _) _
  · obtain ⟨m, rfl⟩ : ∃ m : Nat, n = ((m + 1 : Nat) : Int) := ⟨(n - 1).toNat, by omega⟩
    obtain ⟨hsw, hs2, hs16⟩ := side_wrap h h1 h4
    obtain ⟨N, hNs⟩ : ∃ N : Nat, side h = (N : Int) := ⟨(side h).toNat, by omega⟩
    rw [hNs] at hsw hs2 hs16
    have HN' := hid (show cntN h ((m + 1 : Nat) : Int) l = (citer (mayP h l) N m).sum by rw [HN.out, hNs]; simp [cnt])
    have HNs := hid hNs
    clear HN hNs
    have HB := hid (chk_range hc).2
    clear hc
    go_enter Try.func22, Try.ntmps22
    go_upto_region 8 with (go_at_call 32; refine hlw.mono ?_; rintro e w' ⟨rfl, rfl⟩)
    clear hlw
    go_cut [9] (fun u9 wx => ∃ g9, u9 = .pointer (some ⟨g9, 0, none⟩) ∧ CW w l g9 wx)
    case first =>
      have HI := hid (show (Try.prog.info? 76).map (·.size) = some (tabL l).toArray.size by rw [tabA_size]; kernel_rfl)
      have HT := hid htb
      clear htb
      go_wp2_with (first
        | (go_at_call 44; refine HT.out.mono ?_; rintro e w1 ⟨rfl, hb⟩; rw [World.size_alloc] at hb; have hth := fun c => there_new w1 76 c (tabA_size l))
        | (refine wpList_store_mid rfl 76 _ _ rfl w1.heap.size 0 (tabL l).toArray rfl rfl (hth _ rfl) HI.out (tabL_one l) ?_))
      go_meet
      exact ⟨w1.heap.size, rfl, CW.start hb (hth _ rfl)⟩
    case rest =>
      obtain ⟨g9, rfl, hC⟩ := hcut
      clear htb
      have HC := hid hC
      clear hC
      go_upto_region 11 with (at_make; refine wpList_nums _ rfl _ _ rfl _ _ _ _ N rfl rfl hsw hsw (by omega) ?_; intro w2 hrow hgr hlt)
      have HC2 := hid (HC.out.keep hgr HC.out.hi)
      have h910 := HC.out.hi
      generalize wc.heap.size = g10 at *
      clear hgr HC
      go_loopw [43] (fun i wr => L1 w l g9 g10 N i wr) (fun i _ => (N - intOf i).toNat)
      case atStart => exact ⟨0, by omega, rfl, HC2.out, h910, hlt, by simpa [ones] using hrow⟩
      case round =>
        obtain ⟨k, hk, rfl, hC, _, hlt', hR⟩ := hrel
        have HC := hid hC
        have HR := hid hR
        clear hC hR
        by_cases hkN : k < N
        · have hx := ones_get hkN
          have HX := hid hx
          clear hx
          go_wp2_with (go_at_call 25; refine (ofOne_any _).mono ?_; rintro e w1 ⟨rfl, hb⟩; have hR1 := HR.out.keep hb hlt'; have HR1 := hid hR1; obtain ⟨c0, c1⟩ := hR1.cell k 0 HX.out; have f0 := hR1.free (k * 2); have f1 := hR1.free (k * 2 + 1); clear hR1)
          go_roundw
          case rel =>
            have hR2 := HR1.out.set (e := k) (y := 1) (by have := lt_of_some HX.out; exact this)
            rw [ones_set hkN] at hR2
            exact ⟨k + 1, by omega, int_eq (by omega), (HC.out.keep hb (by omega)).set2 _ _ _ _ h910, h910, by have := hb.size; simp [World.setCell]; omega, hR2⟩
          case measure => simp [intOf]; omega
        · obtain rfl : N = k := by omega
          have hR1 : NRow wr g10 (citer (mayP h l) N 0) := by have := HR.out; simpa [ones, citer] using this
          have HR1 := hid hR1
          clear HR hR1
          go_upto_region 16 with fail
          obtain ⟨wo, rfl⟩ : ∃ wo : World, wo = wr := ⟨_, rfl⟩
          go_loopg [10, 53] m (fun gk u i wr => L2 w l g9 N m (mayP h l) gk u i wr)
          case atStart => exact ⟨0, g10, by omega, rfl, rfl, HC.out, h910, hlt', HR1.out⟩
          case round =>
            obtain ⟨k, g, hk, rfl, rfl, hC, hg, hgs, hR⟩ := hrel
            have HC := hid hC
            have HR := hid hR
            clear hC hR
            by_cases hkm : k < m
            · have HM := hid (citer_most (mayP h l) (N := N) (by omega) k)
              have HL := hid (citer_len (mayP h l) N k)
              have HS := hid (show citer (mayP h l) N (k + 1) = cstep (mayP h l) N (citer (mayP h l) N k) from rfl)
              generalize citer (mayP h l) N k = xs at *
              go_upto_region 19 with (at_make; refine wpList_nums _ rfl _ _ rfl _ _ _ _ N rfl rfl hsw hsw (by omega) ?_; intro w2 hrow hgr hlt)
              have HC2 := hid (HC.out.keep hgr HC.out.hi)
              have HR2 := hid (HR.out.keep hgr hgs)
              have HRow := hid hrow
              clear hrow HC HR hgr
              generalize wr.heap.size = g12 at *
              go_loopg [60] N (fun gk i wr => L3 w l g9 g g12 N (mayP h l) xs gk i wr)
              case atStart => exact ⟨0, by omega, rfl, HC2.out, HR2.out, by rw [mix_start]; exact HRow.out, hlt⟩
              case round =>
                obtain ⟨c, hc, rfl, hC, hR, hT, hsz⟩ := hrel
                have HC := hid hC
                have HR := hid hR
                have HT := hid hT
                clear hC hR hT HC2 HR2 HRow hlt
                by_cases hcN : c < N
                · obtain ⟨x, hx⟩ := some_of_lt (l := xs) (k := c) (by rw [HL.out]; exact hcN)
                  obtain ⟨k0, k1⟩ := HR.out.cell c x hx
                  have HX := hid hx
                  clear hx
                  go_upto_region 22 with fail
                  have hB0 : Below wr.heap.size wr (wr.alloc (.cells #[.bool false, .string (nmg x)] 41)) := (Below.refl _ _).alloc (Nat.le_refl _) _
                  have HC1 := hid (HC.out.keep hB0 HC.out.hi)
                  have HR1 := hid (HR.out.keep hB0 (by omega))
                  have HT1 := hid (HT.out.keep hB0 hsz)
                  have k2 : (wr.alloc (.cells #[.bool false, .string (nmg x)] 41)).cell? ⟨wr.heap.size, 0, none⟩ = some (.bool false) := by simp [go_sem]
                  have k3 : (wr.alloc (.cells #[.bool false, .string (nmg x)] 41)).cell? ⟨wr.heap.size, 1, none⟩ = some (.string (nmg x)) := by simp [go_sem]
                  have k4 : wr.heap.size < (wr.alloc (.cells #[.bool false, .string (nmg x)] 41)).heap.size := by simp
                  clear HC HR HT hB0 k0 k1
                  generalize wr.alloc (.cells #[.bool false, .string (nmg x)] 41) = w3 at *
                  generalize wr.heap.size = g14 at *
                  go_loopg [67] N (fun gk i w' => L4 w l g9 g g12 g14 N c x (mayP h l) xs gk i w')
                  case atStart => exact ⟨0, by omega, rfl, HC1.out, HR1.out, HT1.out, k4, k2, k3⟩
                  case round =>
                    obtain ⟨e, he, rfl, hC, hR, hT, h14, c0, c1⟩ := hrel
                    have HC := hid hC
                    have HR := hid hR
                    have HT := hid hT
                    clear hC hR hT HC1 HR1 HT1 k2 k3 k4
                    by_cases heN : e < N
                    · have hbs : Calls Try.prog 45 _ _ (fun e' w' => e' = .returned (.bool (mayP h l c e)) ∧ Below wr.heap.size wr w') := beside_any g9 (fun j => l.contains (j : Int)) h c e wr h1 h4 (by omega) (by omega) (by omega) (by omega) (blks_range h c e (by omega) (by omega) (fun h' => by subst h'; have := HNs.out; simp [side] at this; omega) (fun h' => by subst h'; have := HNs.out; simp [side] at this; omega)) HC.out.hi HC.out.tab
                      by_cases hP : mayP h l c e = true
                      · rw [hP] at hbs
                        have HBS := hid hbs
                        clear hbs
                        go_upto_region 25 with (go_at_call 45; refine HBS.out.mono ?_; rintro e' w4 ⟨rfl, hb⟩)
                        have HC4 := hid (HC.out.keep hb HC.out.hi)
                        have HR4 := hid (HR.out.keep hb (by omega))
                        have HT4 := hid (HT.out.keep hb (by omega))
                        have c0 := keeps hb c0
                        have c1 := keeps hb c1
                        have h14 := Nat.lt_of_lt_of_le h14 hb.size
                        clear hb HBS HC HR HT
                        obtain ⟨k0, k1⟩ := HT4.out.cell e _ (mix_get _ _ _ _ _ heN)
                        have f0 := HT4.out.free (e * 2)
                        have f1 := HT4.out.free (e * 2 + 1)
                        rw [if_neg (by omega)] at k1
                        have hx1 : Fits (x : Int) := fits_pow (m := k) (by omega) (HM.out x (List.mem_of_getElem? HX.out))
                        have ha1 : Fits ((acc (mayP h l) xs c e : Nat) : Int) := fits_pow (m := k + 1) (by omega) (by
                          have h1 := acc_most (mayP h l) HM.out c e
                          have h2 : c * 16 ^ k ≤ 16 * 16 ^ k := Nat.mul_le_mul_right _ (by omega)
                          rw [Nat.pow_succ]; omega)
                        have HSet := hid (mix_set (mayP h l) N xs c e heN)
                        have HA := hid (show acc (mayP h l) xs (c + 1) e = acc (mayP h l) xs c e + x by rw [acc, if_pos hP, List.getD_eq_getElem?_getD, HX.out]; rfl)
                        have HX1 := hid hx1
                        have HA1 := hid ha1
                        clear hx1 ha1
                        generalize acc (mayP h l) xs c e = A at *
                        go_region_with (go_at_call 47; refine (addN_any A x _ HA1.out HX1.out).mono ?_; rintro e' w5 ⟨rfl, hb⟩; have k0' := keeps hb k0; have k1' := keeps hb k1; have f0' := keeps_frozen hb k0 f0; have f1' := keeps_frozen hb k1 f1)
                        all_goals
                          have hb4 : Below w4.heap.size w4 w5 := ⟨hb.os, hb.tape, hb.output, hb.size, hb.block⟩
                          have c0 := keeps hb4 c0
                          have c1 := keeps hb4 c1
                          have h14 := Nat.lt_of_lt_of_le h14 hb4.size
                          have HC5 := hid (HC4.out.keep hb4 HC4.out.hi)
                          have HR5 := hid (HR4.out.keep hb4 (by omega))
                          have HT5 := hid (HT4.out.keep hb4 (by omega))
                          clear hb hb4 HC4 HR4 HT4 k0 k1 f0 f1 k0' k1' f0' f1'
                          go_wp2
                          go_roundg (N - (e + 1))
                          case rel =>
                            have hT := HT5.out.set (e := e) (y := A + x) (by rw [mix_len]; exact heN)
                            rw [← HA.out, HSet.out, HA.out] at hT
                            refine ⟨e + 1, by omega, int_eq (by omega), HC5.out.set2 _ _ _ _ (by omega), (HR5.out.far _ _ (by show g12 ≠ g; omega)).far _ _ (by show g12 ≠ g; omega), hT, by simp [World.setCell]; omega, ?_, ?_⟩
                            · rw [World.cell?_setCell_far _ _ _ _ (by show g12 ≠ g14; omega), World.cell?_setCell_far _ _ _ _ (by show g12 ≠ g14; omega)]; exact c0
                            · rw [World.cell?_setCell_far _ _ _ _ (by show g12 ≠ g14; omega), World.cell?_setCell_far _ _ _ _ (by show g12 ≠ g14; omega)]; exact c1
                          case measure => omega
                      · have hPf : mayP h l c e = false := by simpa using hP
                        rw [hPf] at hbs
                        have HBS := hid hbs
                        clear hbs hP
                        go_wp2_with (go_at_call 45; refine HBS.out.mono ?_; rintro e' w4 ⟨rfl, hb⟩)
                        have HC4 := hid (HC.out.keep hb HC.out.hi)
                        have HR4 := hid (HR.out.keep hb (by omega))
                        have HT4 := hid (HT.out.keep hb (by omega))
                        have c0 := keeps hb c0
                        have c1 := keeps hb c1
                        have h14 := Nat.lt_of_lt_of_le h14 hb.size
                        go_roundg (N - (e + 1))
                        case rel => exact ⟨e + 1, by omega, int_eq (by omega), HC4.out, HR4.out, by rw [mix_skip _ _ _ _ _ hPf]; exact HT4.out, h14, c0, c1⟩
                        case measure => omega
                    · obtain rfl : N = e := by omega
                      have HT5 := hid (show NRow wr g12 (mix (mayP h l) N xs (c + 1) 0) by rw [← mix_next]; exact HT.out)
                      clear HT
                      have hsz' : g12 < wr.heap.size := by omega
                      clear he heN c0 c1 h14
                      go_wp2
                      go_roundg (N - (c + 1))
                      case rel => exact ⟨c + 1, by omega, int_eq (by omega), HC.out, HR.out, HT5.out, hsz'⟩
                      case measure => omega
                · obtain rfl : N = c := by omega
                  have HT5 := hid (show NRow wr g12 (citer (mayP h l) N (k + 1)) by rw [HS.out, ← mix_end]; exact HT.out)
                  clear HT hc hcN
                  go_wp2
                  go_roundg (m - (k + 1))
                  case rel => exact ⟨k + 1, g12, by omega, int_eq (by omega), rfl, HC.out, by omega, hsz, HT5.out⟩
                  case measure => omega
            · obtain rfl : k = m := by omega
              clear hk hkm HC2 hlt hrow hlt' HR1
              have HM := hid (citer_most (mayP h l) (N := N) (by omega) k)
              have HL := hid (citer_len (mayP h l) N k)
              generalize citer (mayP h l) N k = xs at *
              go_upto_region 32 with fail
              have hB0 : Below wr.heap.size wr (wr.alloc (.cells #[.bool false, .string ⟨#[]⟩] 41)) := (Below.refl _ _).alloc (Nat.le_refl _) _
              have HC1 := hid (HC.out.keep hB0 HC.out.hi)
              have HR1 := hid (HR.out.keep hB0 hgs)
              have k2 : (wr.alloc (.cells #[.bool false, .string ⟨#[]⟩] 41)).cell? ⟨wr.heap.size, 0, none⟩ = some (.bool false) := by simp [go_sem]
              have k3 : (wr.alloc (.cells #[.bool false, .string ⟨#[]⟩] 41)).cell? ⟨wr.heap.size, 1, none⟩ = some (.string (nmg 0)) := by simp [go_sem, nmg, bytesBE_zero]
              have k5 : (wr.alloc (.cells #[.bool false, .string ⟨#[]⟩] 41)).frozen? ⟨wr.heap.size, 0, none⟩ = false := by simp [go_sem]
              have k6 : (wr.alloc (.cells #[.bool false, .string ⟨#[]⟩] 41)).frozen? ⟨wr.heap.size, 1, none⟩ = false := by simp [go_sem]
              have k4 : wr.heap.size < (wr.alloc (.cells #[.bool false, .string ⟨#[]⟩] 41)).heap.size := by simp
              clear HC HR hB0
              generalize wr.alloc (.cells #[.bool false, .string ⟨#[]⟩] 41) = w3 at *
              generalize wr.heap.size = g16 at *
              go_loopg [89] N (fun gk i w' => L5 w l g9 g g16 N xs gk i w')
              case atStart => exact ⟨0, by omega, rfl, HC1.out, HR1.out, k4, k2, k3, k5, k6⟩
              case round =>
                obtain ⟨j, hj, rfl, hC, hR, h16, c0, c1, f0, f1⟩ := hrel
                have HC := hid hC
                have HR := hid hR
                clear hC hR HC1 HR1 k2 k3 k4 k5 k6
                by_cases hjN : j < N
                · obtain ⟨x, hx⟩ := some_of_lt (l := xs) (k := j) (by rw [HL.out]; exact hjN)
                  obtain ⟨y0, y1⟩ := HR.out.cell j x hx
                  have hx1 : Fits (x : Int) := fits_pow (m := k) (by omega) (HM.out x (List.mem_of_getElem? hx))
                  have hs1 : Fits (((xs.take j).sum : Nat) : Int) := fits_pow (m := k + 1) (by omega) (by
                    have h1 := sum_most (M := 16 ^ k) (xs := xs.take j) (fun z hz => HM.out z (List.mem_of_mem_take hz))
                    have h2 : (xs.take j).length * 16 ^ k ≤ 16 * 16 ^ k := Nat.mul_le_mul_right _ (by rw [List.length_take]; omega)
                    rw [Nat.pow_succ]; omega)
                  have HX := hid (show (xs.take (j + 1)).sum = (xs.take j).sum + x by rw [take_snoc hx]; simp)
                  have HX1 := hid hx1
                  have HS1 := hid hs1
                  have HJ := hid hj
                  clear hx hx1 hs1 hj
                  go_upto_region 34 with fail
                  have hB0 : Below wr.heap.size wr (wr.alloc (.cells #[.bool false, .string (nmg x)] 41)) := (Below.refl _ _).alloc (Nat.le_refl _) _
                  have f0' := keeps_frozen hB0 c0 f0
                  have f1' := keeps_frozen hB0 c1 f1
                  have c0' := keeps hB0 c0
                  have c1' := keeps hB0 c1
                  have HC3 := hid (HC.out.keep hB0 HC.out.hi)
                  have HR3 := hid (HR.out.keep hB0 (by omega))
                  have k2 : (wr.alloc (.cells #[.bool false, .string (nmg x)] 41)).cell? ⟨wr.heap.size, 0, none⟩ = some (.bool false) := by simp [go_sem]
                  have k3 : (wr.alloc (.cells #[.bool false, .string (nmg x)] 41)).cell? ⟨wr.heap.size, 1, none⟩ = some (.string (nmg x)) := by simp [go_sem]
                  have k4 : wr.heap.size < (wr.alloc (.cells #[.bool false, .string (nmg x)] 41)).heap.size := by simp
                  clear hB0 HC HR c0 c1 f0 f1 y0 y1
                  generalize wr.alloc (.cells #[.bool false, .string (nmg x)] 41) = w5 at *
                  generalize wr.heap.size = g18 at *
                  go_wp2_with (go_at_call 47; refine (addN_any _ x _ HS1.out HX1.out).mono ?_; rintro e' w6 ⟨rfl, hb⟩; have HC6 := hid (HC3.out.keep hb HC3.out.hi); have HR6 := hid (HR3.out.keep hb (by omega)); have f0 := keeps_frozen hb c0' f0'; have f1 := keeps_frozen hb c1' f1'; have c0 := keeps hb c0'; have c1 := keeps hb c1'; have k7 := hb.size)
                  go_roundg (N - (j + 1))
                  case rel =>
                    refine ⟨j + 1, by omega, int_eq (by omega), HC6.out.set2 _ _ _ _ (by omega), (HR6.out.far _ _ (by show g16 ≠ g; omega)).far _ _ (by show g16 ≠ g; omega), by simp [World.setCell]; omega, ?_, ?_, ?_, ?_⟩
                    · rw [World.cell?_setCell_other _ _ _ _ (by simp)]; exact World.cell?_setCell_same _ _ _ c0
                    · rw [HX.out]
                      exact World.cell?_setCell_same _ _ _ (by rw [World.cell?_setCell_other _ _ _ _ (by simp)]; exact c1)
                    · rw [World.frozen?_setCell, World.frozen?_setCell]; exact f0
                    · rw [World.frozen?_setCell, World.frozen?_setCell]; exact f1
                  case measure => have := HJ.out; omega
                · obtain rfl : N = j := by omega
                  have hsum : (xs.take N).sum = xs.sum := by rw [take_all (by rw [HL.out]; exact Nat.le_refl _)]
                  rw [hsum] at c1
                  have hres := HC.out.res
                  have r0 : wr.cell? ⟨w.heap.size, 0, none⟩ = some (.bool false) := by rw [cell_of_row _ w.heap.size 0 _ _ _ hres]; rfl
                  have r1 : wr.cell? ⟨w.heap.size, 1, none⟩ = some (.string ⟨#[]⟩) := by rw [cell_of_row _ w.heap.size 1 _ _ _ hres]; rfl
                  have r2 : wr.frozen? ⟨w.heap.size, 0, none⟩ = false := by simp only [World.frozen?, hres]; simp
                  have r3 : wr.frozen? ⟨w.heap.size, 1, none⟩ = false := by simp only [World.frozen?, hres]; simp
                  clear hj hjN hsum hres HR f0 f1
                  go_wp2
                  refine bodyPost_ret (v := .tuple #[.agg #[.bool false, .string (nmg xs.sum)], .int .i64 0]) ?_ rfl ⟨by rw [HE.out, HN'.out], ?_⟩
                  · simp [results, Try.results22, go_sem, r0, r1]
                  · exact (HC.out.bel.setCell (p := ⟨w.heap.size, 0, none⟩) (Nat.le_refl _) _).setCell (p := ⟨w.heap.size, 1, none⟩) (Nat.le_refl _) _
end Go.Proofs.Ytppflnkadjddiaa

namespace Go.Proofs.Ytppflnkadjddiaa
open Go.RowKit
theorem count_any (h n : Int) (v : Value) (l : List Int) (w : World) (hl : Sl 1 w v l.length (ints l)) :
    Calls Try.prog 22 #[.int .i64 h, .int .i64 n, v] w (CountPost h n l w) := by
  by_cases hE : cntE h n l = 0
  · have hc : chk h l = 0 := by
      rw [cntE] at hE
      split at hE
      · rename_i h1; exact absurd hE h1
      · rename_i h1; simpa using h1
    have hn : ¬ (n < 0 ∨ 4096 < n) := by
      intro h1
      rw [cntE, if_neg (by simp [hc]), if_pos h1] at hE
      cases hE
    exact count_good h n v l w hl hc (by omega) (by omega)
  · exact count_bad h n v l w hl hE
end Go.Proofs.Ytppflnkadjddiaa
