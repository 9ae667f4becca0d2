/-
  The plain law of Count: it counts the rectangles that are allowed.
  No condition.
-/
import Derived.Test.YtppflnkadjddiaaNeighLaw
namespace Go.Proofs.Ytppflnkadjddiaa
open Go.RowKit
set_option linter.unusedVariables false

/-- The sum of f over the numbers below n. -/
def sumTo (f : Nat → Nat) : Nat → Nat
  | 0 => 0
  | n + 1 => sumTo f n + f n
/-- How many numbers below n meet p. -/
def cntTo (p : Nat → Bool) : Nat → Nat
  | 0 => 0
  | n + 1 => cntTo p n + if p n then 1 else 0
theorem sumTo_congr {f g : Nat → Nat} : ∀ {n : Nat}, (∀ i, i < n → f i = g i) → sumTo f n = sumTo g n := by
  intro n
  induction n with
  | zero => intro _; rfl
  | succ n ih => intro h; rw [sumTo, sumTo, ih (fun i hi => h i (by omega)), h n (by omega)]
theorem cntTo_congr {p q : Nat → Bool} : ∀ {n : Nat}, (∀ i, i < n → p i = q i) → cntTo p n = cntTo q n := by
  intro n
  induction n with
  | zero => intro _; rfl
  | succ n ih => intro h; rw [cntTo, cntTo, ih (fun i hi => h i (by omega)), h n (by omega)]
theorem cntTo_mono {p q : Nat → Bool} : ∀ {n : Nat}, (∀ i, i < n → p i = true → q i = true) → cntTo p n ≤ cntTo q n := by
  intro n
  induction n with
  | zero => intro _; exact Nat.le_refl _
  | succ n ih =>
    intro h
    have h1 := ih (fun i hi => h i (by omega))
    have h2 := h n (by omega)
    rw [cntTo, cntTo]
    cases hp : p n
    · simp; omega
    · rw [h2 hp]; simp; omega
theorem cntTo_true {p : Nat → Bool} : ∀ {n : Nat}, (∀ i, i < n → p i = true) → cntTo p n = n := by
  intro n
  induction n with
  | zero => intro _; rfl
  | succ n ih => intro h; rw [cntTo, ih (fun i hi => h i (by omega)), h n (by omega)]; rfl
theorem cntTo_le (p : Nat → Bool) (n : Nat) : cntTo p n ≤ n := by
  induction n with
  | zero => exact Nat.le_refl _
  | succ n ih => rw [cntTo]; split <;> omega
theorem cntTo_add (p : Nat → Bool) (m n : Nat) : cntTo p (m + n) = cntTo p m + cntTo (fun y => p (m + y)) n := by
  induction n with
  | zero => rfl
  | succ n ih => rw [← Nat.add_assoc, cntTo, ih, cntTo, Nat.add_assoc]
theorem cntTo_mul (p : Nat → Bool) (N M : Nat) : cntTo p (N * M) = sumTo (fun c => cntTo (fun y => p (N * c + y)) N) M := by
  induction M with
  | zero => rfl
  | succ M ih => rw [Nat.mul_succ, cntTo_add, ih, sumTo]
theorem cntTo_and (q : Nat → Bool) (b : Bool) (n : Nat) : cntTo (fun y => q y && b) n = if b then cntTo q n else 0 := by
  induction n with
  | zero => cases b <;> rfl
  | succ n ih => rw [cntTo, ih, cntTo]; cases b <;> simp
theorem sum_of_get : ∀ (N : Nat) (f : Nat → Nat), ((List.range N).map f).sum = sumTo f N := by
  intro N f
  induction N with
  | zero => rfl
  | succ N ih => rw [List.range_succ, List.map_append, List.sum_append, ih, sumTo]; simp
theorem acc_sum (P : Nat → Nat → Bool) (xs : List Nat) (c e : Nat) : acc P xs c e = sumTo (fun c' => if P c' e then xs.getD c' 0 else 0) c := by
  induction c with
  | zero => rfl
  | succ c ih => rw [acc, ih, sumTo]

/-- The columns of a number. -/
def colz (N k x : Nat) : List Int := (List.range k).map fun i => ((x / N ^ i % N : Nat) : Int)
theorem colz_len (N k x : Nat) : (colz N k x).length = k := by simp [colz]
theorem colz_succ (N k x : Nat) : colz N (k + 1) x = colz N k x ++ [((x / N ^ k % N : Nat) : Int)] := by simp [colz, List.range_succ]
theorem colz_split {N k c y : Nat} (hy : y < N ^ k) (hc : c < N) : colz N (k + 1) (N ^ k * c + y) = colz N k y ++ [(c : Int)] := by
  have hN : 0 < N := by omega
  rw [colz_succ]
  have e1 : (N ^ k * c + y) / N ^ k % N = c := by
    rw [Nat.mul_add_div (Nat.pow_pos hN), Nat.div_eq_of_lt hy, Nat.add_zero, Nat.mod_eq_of_lt hc]
  rw [e1]
  congr 1
  unfold colz
  apply List.map_congr_left
  intro i hi
  have hi := List.mem_range.1 hi
  have e2 : N ^ k * c + y = y + N ^ i * (N * (N ^ (k - i - 1) * c)) := by
    have : N ^ k = N ^ i * (N * N ^ (k - i - 1)) := by
      rw [← Nat.pow_succ', ← Nat.pow_add]; congr 1; omega
    rw [this, Nat.add_comm, Nat.mul_assoc, Nat.mul_assoc]
  rw [e2, Nat.add_mul_div_left _ _ (Nat.pow_pos hN), Nat.add_mul_mod_self_left]
theorem colz_okCol {h : Int} (k x : Nat) : (colz (side h).toNat k x).all (okCol h) = true := by
  have hp : 0 < side h := Int.pow_pos (by decide)
  rw [List.all_eq_true]
  intro y hy
  simp only [colz, List.mem_map] at hy
  obtain ⟨i, _, rfl⟩ := hy
  have := Nat.mod_lt (x / (side h).toNat ^ i) (y := (side h).toNat) (by omega)
  simp only [okCol, Bool.and_eq_true, decide_eq_true_eq]
  omega

theorem adj_snoc2 (P : Int → Int → Bool) (l : List Int) (y x : Int) : adj P (l ++ [y] ++ [x]) = (adj P (l ++ [y]) && P y x) := by
  rw [List.append_assoc]
  exact adjGo_snoc P l none y x
/-- The rectangles of k columns that are allowed with a column e behind. -/
def endsAt (P : Int → Int → Bool) (N k e : Nat) : Nat := cntTo (fun y => adj P (colz N k y ++ [(e : Int)])) (N ^ k)
theorem endsAt_succ (P : Int → Int → Bool) (N k e : Nat) : endsAt P N (k + 1) e = sumTo (fun c => if P c e then endsAt P N k c else 0) N := by
  unfold endsAt
  rw [Nat.pow_succ, cntTo_mul]
  apply sumTo_congr
  intro c hc
  rw [← cntTo_and]
  apply cntTo_congr
  intro y hy
  rw [colz_split hy hc, adj_snoc2]
theorem citer_eq (P : Int → Int → Bool) (N k : Nat) : citer (fun c e => P c e) N k = (List.range N).map (endsAt P N k) := by
  induction k with
  | zero =>
    rw [citer]
    apply List.ext_getElem
    · simp
    · intro i h1 h2; simp [endsAt, colz, adj, adjGo, cntTo]
  | succ k ih =>
    rw [citer, ih, cstep]
    apply List.map_congr_left
    intro e he
    rw [acc_sum, endsAt_succ]
    apply sumTo_congr
    intro c hc
    simp [hc]
theorem cnt_eq (P : Int → Int → Bool) (N n : Nat) : cnt (fun c e => P c e) N n = cntTo (fun x => adj P (colz N n x)) (N ^ n) := by
  cases n with
  | zero => simp [cnt, cntTo, colz, adj, adjGo]
  | succ k =>
    rw [cnt, if_neg (by omega), Nat.add_sub_cancel, citer_eq, sum_of_get, Nat.pow_succ, cntTo_mul]
    apply sumTo_congr
    intro c hc
    apply cntTo_congr
    intro y hy
    rw [colz_split hy hc]
/-- What Count returns, said by the rectangles. -/
theorem cntN_eq {h n : Int} {l : List Int} (hE : cntE h n l = 0) : cntN h n l = cntTo (fun x => adj (okP h l) (colz (side h).toNat n.toNat x)) ((side h).toNat ^ n.toNat) := by
  rw [cntN, if_pos hE]
  exact cnt_eq (okP h l) _ _
theorem cntE_ok {h n : Int} {l : List Int} (hc : chk h l = 0) (h0 : 0 ≤ n) (h1 : n ≤ 4096) : cntE h n l = 0 := by
  rw [cntE, if_neg (by simp [hc]), if_neg (by omega)]

/-! More blocks allow no fewer rectangles. -/
theorem adjGo_mono {P Q : Int → Int → Bool} (h : ∀ a b, P a b = true → Q a b = true) : ∀ (l : List Int) (p : Option Int), adjGo P p l = true → adjGo Q p l = true := by
  intro l
  induction l with
  | nil => intro p _; cases p <;> rfl
  | cons a r ih =>
    intro p hp
    cases p with
    | none => exact ih _ hp
    | some y =>
      simp only [adjGo, Bool.and_eq_true] at hp ⊢
      exact ⟨h _ _ hp.1, ih _ hp.2⟩
theorem okP_mono {h : Int} {l m : List Int} (hs : ∀ x ∈ l, x ∈ m) (a b : Int) (hp : okP h l a b = true) : okP h m a b = true := by
  simp only [okP, besP, List.all_eq_true] at hp ⊢
  intro n hn
  have := hp n hn
  simp only [List.contains_iff_mem] at this ⊢
  exact hs _ this
theorem blkOf_mono {h s t : Int} (hst : ∀ n : Nat, s / 2 ^ n % 2 = 1 → t / 2 ^ n % 2 = 1) : ∀ x ∈ blkOf h s, x ∈ blkOf h t := by
  intro x hx
  simp only [blkOf, blkTo, List.mem_map, List.mem_filter, List.mem_range] at hx ⊢
  obtain ⟨n, ⟨hn, hb⟩, rfl⟩ := hx
  refine ⟨n, ⟨hn, ?_⟩, rfl⟩
  simp only [blkB, Bool.and_eq_true, Bool.or_eq_true, decide_eq_true_eq] at hb ⊢
  exact ⟨hst n hb.1, hb.2⟩
theorem or_bits (s t : Nat) (n : Nat) (h : (s : Int) / 2 ^ n % 2 = 1) : ((s ||| t : Nat) : Int) / 2 ^ n % 2 = 1 := by
  have e : ∀ x : Nat, ((x : Int) / 2 ^ n % 2 = 1) ↔ x.testBit n = true := by
    intro x
    rw [Nat.testBit_eq_decide_div_mod_eq, decide_eq_true_eq]
    have : (x : Int) / 2 ^ n % 2 = ((x / 2 ^ n % 2 : Nat) : Int) := by simp
    rw [this]
    omega
  rw [e] at h ⊢
  rw [Nat.testBit_or, h, Bool.true_or]
theorem blks_in (h a b : Int) (h1 : 1 ≤ h) (h4 : h ≤ 4) (ha : 0 ≤ a ∧ a < side h) (hb : 0 ≤ b ∧ b < side h) : ∀ x ∈ blks h a b, 0 ≤ x ∧ x ≤ 15 ∧ (h = 1 → x ≤ 3) := by
  intro x hx
  have h2 := blks_range h a b ha.1 hb.1 (fun e => by subst e; have := ha.2; simp [side] at this; omega) (fun e => by subst e; have := hb.2; simp [side] at this; omega) x hx
  refine ⟨h2.1, h2.2, fun e => ?_⟩
  subst e
  have h3 := ha.2
  have h4 := hb.2
  simp [side] at h3 h4
  simp [blks] at hx
  omega
theorem okP_full {h a b : Int} (h1 : 1 ≤ h) (h4 : h ≤ 4) (ha : 0 ≤ a ∧ a < side h) (hb : 0 ≤ b ∧ b < side h) : okP h (blkOf h 65535) a b = true := by
  simp only [okP, besP, List.all_eq_true]
  intro n hn
  obtain ⟨n0, n15, n3⟩ := blks_in h a b h1 h4 ha hb n hn
  simp only [List.contains_iff_mem, blkOf, blkTo, List.mem_map, List.mem_filter, List.mem_range]
  refine ⟨n.toNat, ⟨by omega, ?_⟩, rfl⟩
  have key : ∀ m : Nat, m < 16 → (65535 : Int) / 2 ^ m % 2 = 1 := by decide
  simp only [blkB, Bool.and_eq_true, Bool.or_eq_true, decide_eq_true_eq]
  refine ⟨key _ (by omega), ?_⟩
  by_cases e : h = 1
  · have := n3 e; omega
  · exact .inl (by omega)
theorem adjGo_full {P : Int → Int → Bool} {ok : Int → Prop} (h : ∀ a b, ok a → ok b → P a b = true) : ∀ (l : List Int) (p : Option Int), (∀ x ∈ l, ok x) → (∀ q, p = some q → ok q) → adjGo P p l = true := by
  intro l
  induction l with
  | nil => intro p _ _; cases p <;> rfl
  | cons a r ih =>
    intro p hl hp
    have ha := hl a (List.mem_cons_self ..)
    have hr := ih (some a) (fun x hx => hl x (List.mem_cons_of_mem _ hx)) (fun q hq => by cases hq; exact ha)
    cases p with
    | none => exact hr
    | some y => simp only [adjGo, Bool.and_eq_true]; exact ⟨h _ _ (hp y rfl) ha, hr⟩
theorem adj_full {h : Int} (h1 : 1 ≤ h) (h4 : h ≤ 4) (k x : Nat) : adj (okP h (blkOf h 65535)) (colz (side h).toNat k x) = true := by
  refine adjGo_full (ok := fun a => 0 ≤ a ∧ a < side h) (fun a b ha hb => okP_full h1 h4 ha hb) _ none (fun y hy => ?_) (by simp)
  have := colz_okCol (h := h) k x
  rw [List.all_eq_true] at this
  have := this y hy
  simpa [okCol] using this
end Go.Proofs.Ytppflnkadjddiaa
