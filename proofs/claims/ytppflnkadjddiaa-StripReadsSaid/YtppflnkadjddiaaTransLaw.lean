/-
  The plain laws of StripTransposed: transposing a rectangle, and its blocks, keeps whether it is allowed; so there are as many of both.
  No condition.
-/
import Derived.Test.YtppflnkadjddiaaCntLaw
namespace Go.Proofs.Ytppflnkadjddiaa
open Go.RowKit
set_option linter.unusedVariables false

/-! A permutation keeps a number of numbers. -/
theorem len_le_of_subset : ∀ (l m : List Nat), l.Nodup → (∀ x ∈ l, x ∈ m) → l.length ≤ m.length := by
  intro l
  induction l with
  | nil => intro m _ _; simp
  | cons a t ih =>
    intro m hn hs
    rw [List.nodup_cons] at hn
    have ha := hs a (List.mem_cons_self ..)
    have h1 := ih (m.erase a) hn.2 (fun x hx => by
      have hne : x ≠ a := fun e => hn.1 (e ▸ hx)
      exact (List.mem_erase_of_ne hne).2 (hs x (List.mem_cons_of_mem _ hx)))
    rw [List.length_erase_of_mem ha] at h1
    have h2 : 0 < m.length := List.length_pos_of_mem ha
    simp only [List.length_cons]
    omega
theorem cntTo_len (p : Nat → Bool) (n : Nat) : cntTo p n = ((List.range n).filter p).length := by
  induction n with
  | zero => rfl
  | succ n ih => rw [cntTo, ih, List.range_succ, List.filter_append, List.length_append]; cases h : p n <;> simp [h]
theorem cntTo_le_perm (p q : Nat → Bool) (n : Nat) (τ σ : Nat → Nat) (h1 : ∀ i, i < n → τ i < n) (h2 : ∀ i, i < n → σ (τ i) = i) (h3 : ∀ i, i < n → p i = true → q (τ i) = true) : cntTo p n ≤ cntTo q n := by
  rw [cntTo_len, cntTo_len]
  have hnod : (((List.range n).filter p).map τ).Nodup := by
    rw [List.Nodup, List.pairwise_map]
    have hp : ((List.range n).filter p).Pairwise (· ≠ ·) := List.Pairwise.filter _ List.nodup_range
    refine List.Pairwise.imp_of_mem ?_ hp
    intro a b ha hb hab e
    have ha' := List.mem_range.1 (List.mem_filter.1 ha).1
    have hb' := List.mem_range.1 (List.mem_filter.1 hb).1
    exact hab (by rw [← h2 a ha', ← h2 b hb', e])
  have := len_le_of_subset _ ((List.range n).filter q) hnod (fun x hx => by
    obtain ⟨i, hi, rfl⟩ := List.mem_map.1 hx
    obtain ⟨hi1, hi2⟩ := List.mem_filter.1 hi
    have hi1 := List.mem_range.1 hi1
    exact List.mem_filter.2 ⟨List.mem_range.2 (h1 i hi1), h3 i hi1 hi2⟩)
  rwa [List.length_map] at this
theorem cntTo_perm (p q : Nat → Bool) (n : Nat) (τ σ : Nat → Nat) (h1 : ∀ i, i < n → τ i < n) (h2 : ∀ i, i < n → σ i < n) (h3 : ∀ i, i < n → σ (τ i) = i) (h4 : ∀ i, i < n → τ (σ i) = i) (h5 : ∀ i, i < n → q (τ i) = p i) : cntTo p n = cntTo q n :=
  Nat.le_antisymm (cntTo_le_perm p q n τ σ h1 h3 (fun i hi hp => by rw [h5 i hi, hp]))
    (cntTo_le_perm q p n σ τ h2 h4 (fun i hi hq => by rw [← h5 _ (h2 i hi), h4 i hi, hq]))

/-! Numbers by their bits. -/
def bitsOf (f : Nat → Bool) : Nat → Nat
  | 0 => 0
  | n + 1 => 2 ^ n * (f n).toNat + bitsOf f n
theorem bitsOf_lt (f : Nat → Bool) (n : Nat) : bitsOf f n < 2 ^ n := by
  induction n with
  | zero => simp [bitsOf]
  | succ n ih =>
    rw [bitsOf, Nat.two_pow_succ]
    cases f n <;> simp <;> omega
theorem bitsOf_bit (f : Nat → Bool) (n i : Nat) : (bitsOf f n).testBit i = (decide (i < n) && f i) := by
  induction n with
  | zero => simp [bitsOf]
  | succ n ih =>
    rw [bitsOf, Nat.testBit_two_pow_mul_add _ (bitsOf_lt f n), ih]
    by_cases h : i < n
    · rw [if_pos h]; simp [h]; omega
    · rw [if_neg h]
      by_cases h' : i = n
      · subst h'; cases hf : f i <;> simp
      · have e : i - n ≠ 0 := by omega
        have : ¬ i < n + 1 := by omega
        simp only [this, decide_false, Bool.false_and]
        cases hf : f n
        · simp
        · exact Nat.testBit_lt_two_pow (x := 1) (Nat.one_lt_two_pow e)
theorem bitsOf_self {x n : Nat} (h : x < 2 ^ n) : bitsOf (fun i => x.testBit i) n = x := by
  apply Nat.eq_of_testBit_eq
  intro i
  rw [bitsOf_bit]
  by_cases hi : i < n
  · simp [hi]
  · have : x.testBit i = false := Nat.testBit_lt_two_pow (Nat.lt_of_lt_of_le h (Nat.pow_le_pow_right (by decide) (by omega)))
    simp [this]

/-! What it is that two columns can stand side by side. -/
def bt (x : Int) (t : Nat) : Int := x / 2 ^ t % 2
theorem bt_bound (x : Int) (t : Nat) : 0 ≤ bt x t ∧ bt x t < 2 := ⟨Int.emod_nonneg _ (by decide), Int.emod_lt_of_pos _ (by decide)⟩
def blk4 (a b c d : Int) : Int := 8 * a + 4 * b + 2 * c + d
theorem nb_bits {h : Nat} {c e : Int} {k : Nat} (hk : k + 2 ≤ h) (hc0 : 0 ≤ c) (he0 : 0 ≤ e) : nb (h : Int) c e k = blk4 (bt c (h - 2 - k + 1)) (bt c (h - 2 - k)) (bt e (h - 2 - k + 1)) (bt e (h - 2 - k)) := by
  rw [nb_eq _ _ _ _ hc0 he0, Int.toNat_natCast]
  have e1 : h - 1 - k - 1 = h - 2 - k := by omega
  rw [e1]
  have key : ∀ x : Int, x / 2 ^ (h - 2 - k) % 4 = 2 * bt x (h - 2 - k + 1) + bt x (h - 2 - k) := by
    intro x
    unfold bt
    rw [Int.pow_succ, ← Int.ediv_ediv_of_nonneg (Int.le_of_lt (Int.pow_pos (by decide)))]
    omega
  rw [key, key, blk4]
  omega
theorem okP_iff {h : Nat} (h2 : 2 ≤ h) (b : List Int) {c e : Int} (hc0 : 0 ≤ c) (he0 : 0 ≤ e) : okP (h : Int) b c e = true ↔ ∀ t, t + 2 ≤ h → blk4 (bt c (t + 1)) (bt c t) (bt e (t + 1)) (bt e t) ∈ b := by
  have hne : ¬ (h : Int) = 1 := by omega
  simp only [okP, besP, blks, if_neg hne, List.all_eq_true, upto, List.mem_map, List.mem_range]
  constructor
  · intro H t ht
    have := H (nb (h : Int) c e (h - 2 - t)) ⟨h - 2 - t, by omega, rfl⟩
    rw [nb_bits (by omega) hc0 he0, show h - 2 - (h - 2 - t) = t from by omega] at this
    have hb : ∀ x : Int, 0 ≤ bt x (t + 1) ∧ bt x (t + 1) < 2 := fun x => bt_bound x (t + 1)
    have hb' : ∀ x : Int, 0 ≤ bt x t ∧ bt x t < 2 := fun x => bt_bound x t
    have h1 := hb c; have h2 := hb' c; have h3 := hb e; have h4 := hb' e
    have e1 : ((blk4 (bt c (t + 1)) (bt c t) (bt e (t + 1)) (bt e t)).toNat : Int) = blk4 (bt c (t + 1)) (bt c t) (bt e (t + 1)) (bt e t) := by unfold blk4; omega
    rw [e1] at this
    simpa using this
  · rintro H n ⟨k, hk, rfl⟩
    have hk' : k + 2 ≤ h := by omega
    have := H (h - 2 - k) (by omega)
    rw [← nb_bits hk' hc0 he0] at this
    have h0 := (nb_range (h : Int) c e k hc0 he0).1
    rw [Int.toNat_of_nonneg h0]
    simpa using this

theorem adjGo_iff (P : Int → Int → Bool) : ∀ (l : List Int) (p : Option Int), adjGo P p l = true ↔ (∀ q x, p = some q → l[0]? = some x → P q x = true) ∧ ∀ j x y, l[j]? = some x → l[j + 1]? = some y → P x y = true := by
  intro l
  induction l with
  | nil => intro p; cases p <;> simp [adjGo]
  | cons a r ih =>
    intro p
    have key : adjGo P (some a) r = true ↔ ∀ j x y, (a :: r)[j]? = some x → (a :: r)[j + 1]? = some y → P x y = true := by
      rw [ih]
      constructor
      · rintro ⟨h1, h2⟩ j x y hx hy
        cases j with
        | zero => simp at hx; subst hx; exact h1 _ _ rfl (by simpa using hy)
        | succ j => exact h2 j x y (by simpa using hx) (by simpa using hy)
      · intro H
        refine ⟨fun q x hq hx => ?_, fun j x y hx hy => H (j + 1) x y (by simpa using hx) (by simpa using hy)⟩
        cases hq
        exact H 0 a x (by simp) (by simpa using hx)
    cases p with
    | none => rw [adjGo, key]; simp
    | some q =>
      rw [adjGo, Bool.and_eq_true, key]
      simp
theorem adj_iff (P : Int → Int → Bool) (l : List Int) : adj P l = true ↔ ∀ j x y, l[j]? = some x → l[j + 1]? = some y → P x y = true := by
  rw [adj, adjGo_iff]
  simp

/-- A rectangle of w columns of h bits, M j t the t-th bit of the j-th column, is allowed. -/
def Fine (h w : Nat) (b : List Int) (M : Nat → Nat → Int) : Prop := ∀ j t, j + 2 ≤ w → t + 2 ≤ h → blk4 (M j (t + 1)) (M j t) (M (j + 1) (t + 1)) (M (j + 1) t) ∈ b
theorem adj_fine {h w : Nat} (h2 : 2 ≤ h) (b : List Int) (f : Nat → Int) (hf : ∀ j, j < w → 0 ≤ f j) : adj (okP (h : Int) b) ((List.range w).map f) = true ↔ Fine h w b (fun j t => bt (f j) t) := by
  rw [adj_iff]
  constructor
  · intro H j t hj ht
    have := H j (f j) (f (j + 1)) (by rw [List.getElem?_map, List.getElem?_range (by omega)]; rfl) (by rw [List.getElem?_map, List.getElem?_range (by omega)]; rfl)
    rw [okP_iff h2 b (hf j (by omega)) (hf (j + 1) (by omega))] at this
    exact this t ht
  · intro H j x y hx hy
    have hj := lt_of_some hy
    simp only [List.length_map, List.length_range] at hj
    rw [List.getElem?_map, List.getElem?_range (by omega)] at hx hy
    simp only [Option.map_some, Option.some.injEq] at hx hy
    subst hx; subst hy
    rw [okP_iff h2 b (hf j (by omega)) (hf (j + 1) (by omega))]
    intro t ht
    exact H j t (by omega) ht

/-! The transposed blocks. -/
/-- The lower left and the upper right bit change places. -/
def tr (n : Nat) : Nat := n / 8 * 8 + n / 2 % 2 * 4 + n / 4 % 2 * 2 + n % 2
theorem tr_lt {n : Nat} (h : n < 16) : tr n < 16 := by unfold tr; omega
theorem tr_tr {n : Nat} (h : n < 16) : tr (tr n) = n := by
  have : ∀ n, n < 16 → tr (tr n) = n := by decide
  exact this n h
def in16 (m : Int) : Bool := decide (0 ≤ m) && decide (m < 16)
def trs (l : List Int) : List Int := (l.filter in16).map (fun m => (tr m.toNat : Int))
def trL (l : List Int) : List Int := ((List.range 16).filter (fun (n : Nat) => (trs l).contains (n : Int))).map (fun (n : Nat) => (n : Int))
theorem mem_trs (l : List Int) {n : Nat} (h : n < 16) : (n : Int) ∈ trs l ↔ (tr n : Int) ∈ l := by
  simp only [trs, List.mem_map, List.mem_filter, in16, Bool.and_eq_true, decide_eq_true_eq]
  constructor
  · rintro ⟨m, ⟨hm, h0, h16⟩, e⟩
    have e1 : tr m.toNat = n := by omega
    have e2 := tr_tr (n := m.toNat) (by omega)
    rw [e1] at e2
    rw [e2, Int.toNat_of_nonneg h0]
    exact hm
  · intro hm
    have h1 := tr_lt h
    exact ⟨_, ⟨hm, by omega, by omega⟩, by rw [Int.toNat_natCast, tr_tr h]⟩
theorem mem_trL (l : List Int) {n : Nat} (h : n < 16) : (n : Int) ∈ trL l ↔ (tr n : Int) ∈ l := by
  rw [← mem_trs l h]
  simp only [trL, List.mem_map, List.mem_filter, List.mem_range, List.contains_iff_mem]
  constructor
  · rintro ⟨m, ⟨_, hm⟩, e⟩
    have : m = n := by omega
    rwa [this] at hm
  · intro hn
    exact ⟨n, ⟨h, hn⟩, rfl⟩
theorem blk4_lt {a b c d : Int} (ha : 0 ≤ a ∧ a < 2) (hb : 0 ≤ b ∧ b < 2) (hc : 0 ≤ c ∧ c < 2) (hd : 0 ≤ d ∧ d < 2) : 0 ≤ blk4 a b c d ∧ blk4 a b c d < 16 := by unfold blk4; omega
theorem blk4_mem (l : List Int) {a b c d : Int} (ha : 0 ≤ a ∧ a < 2) (hb : 0 ≤ b ∧ b < 2) (hc : 0 ≤ c ∧ c < 2) (hd : 0 ≤ d ∧ d < 2) : blk4 a c b d ∈ trL l ↔ blk4 a b c d ∈ l := by
  have h1 := blk4_lt ha hc hb hd
  have e : blk4 a c b d = ((blk4 a c b d).toNat : Int) := by omega
  rw [e, mem_trL l (by omega)]
  have e2 : ((tr (blk4 a c b d).toNat : Nat) : Int) = blk4 a b c d := by
    unfold tr blk4
    omega
  rw [e2]
theorem chk_trL (h : Int) (l : List Int) (h2 : 2 ≤ h) (h4 : h ≤ 4) : chk h (trL l) = 0 := by
  rw [chk, if_pos ⟨by omega, h4⟩]
  refine chkGo_ok _ _ ?_ ?_ (by simp)
  · intro x hx
    simp only [trL, List.mem_map, List.mem_filter, List.mem_range] at hx
    obtain ⟨n, ⟨hn, hb⟩, rfl⟩ := hx
    unfold most
    rw [if_neg (by omega)]
    omega
  · unfold trL
    rw [List.pairwise_map]
    exact (List.pairwise_lt_range (n := 16)).filter _ |>.imp (fun h => by omega)
theorem trL_trL (h s : Int) : trL (trL (blkOf h s)) = blkOf h s := by
  unfold blkOf
  rw [trL]
  unfold blkTo
  congr 1
  apply List.filter_congr
  intro n hn
  have hn := List.mem_range.1 hn
  rw [Bool.eq_iff_iff, List.contains_iff_mem, mem_trs _ hn, mem_trL _ (tr_lt hn), tr_tr hn]
  simp only [List.mem_map, List.mem_filter, List.mem_range]
  constructor
  · rintro ⟨m, ⟨_, hm⟩, e⟩
    have : m = n := by omega
    rwa [this] at hm
  · intro hb
    exact ⟨n, ⟨hn, hb⟩, rfl⟩
theorem trL_len (h s : Int) : (trL (blkOf h s)).length = (blkOf h s).length := by
  have e1 : (blkOf h s).length = cntTo (blkB h s) 16 := by rw [cntTo_len]; simp [blkOf, blkTo]
  have e2 : (trL (blkOf h s)).length = cntTo (fun n => (trs (blkOf h s)).contains (n : Int)) 16 := by rw [cntTo_len]; simp [trL]
  rw [e1, e2]
  refine cntTo_perm _ _ 16 tr tr (fun i hi => tr_lt hi) (fun i hi => tr_lt hi) (fun i hi => tr_tr hi) (fun i hi => tr_tr hi) (fun n hn => ?_)
  rw [Bool.eq_iff_iff, List.contains_iff_mem, mem_trs _ hn]
  have hm := tr_lt hn
  simp only [blkOf, blkTo, List.mem_map, List.mem_filter, List.mem_range]
  constructor
  · intro hb
    exact ⟨tr n, ⟨hm, hb⟩, rfl⟩
  · rintro ⟨m, ⟨_, hb⟩, e⟩
    have : m = tr n := by omega
    rwa [this] at hb
theorem fine_tr {h w : Nat} (b : List Int) {M : Nat → Nat → Int} (hM : ∀ j t, 0 ≤ M j t ∧ M j t < 2) {M' : Nat → Nat → Int} (hM' : ∀ i t, i < h → t < w → M' i t = M (w - 1 - t) (h - 1 - i)) : Fine w h (trL b) M' ↔ Fine h w b M := by
  have key : ∀ i t, i + 2 ≤ h → t + 2 ≤ w → (blk4 (M' i (t + 1)) (M' i t) (M' (i + 1) (t + 1)) (M' (i + 1) t) ∈ trL b ↔ blk4 (M (w - 2 - t) (h - 2 - i + 1)) (M (w - 2 - t) (h - 2 - i)) (M (w - 2 - t + 1) (h - 2 - i + 1)) (M (w - 2 - t + 1) (h - 2 - i)) ∈ b) := by
    intro i t hi ht
    rw [hM' i (t + 1) (by omega) (by omega), hM' i t (by omega) (by omega), hM' (i + 1) (t + 1) (by omega) (by omega), hM' (i + 1) t (by omega) (by omega)]
    rw [show w - 1 - (t + 1) = w - 2 - t from by omega, show w - 1 - t = w - 2 - t + 1 from by omega, show h - 1 - (i + 1) = h - 2 - i from by omega, show h - 1 - i = h - 2 - i + 1 from by omega]
    exact blk4_mem b (hM _ _) (hM _ _) (hM _ _) (hM _ _)
  constructor
  · intro H j t hj ht
    have := (key (h - 2 - t) (w - 2 - j) (by omega) (by omega)).1 (H (h - 2 - t) (w - 2 - j) (by omega) (by omega))
    rwa [show w - 2 - (w - 2 - j) = j from by omega, show h - 2 - (h - 2 - t) = t from by omega] at this
  · intro H i t hi ht
    exact (key i t hi ht).2 (H (w - 2 - t) (h - 2 - i) (by omega) (by omega))
end Go.Proofs.Ytppflnkadjddiaa
