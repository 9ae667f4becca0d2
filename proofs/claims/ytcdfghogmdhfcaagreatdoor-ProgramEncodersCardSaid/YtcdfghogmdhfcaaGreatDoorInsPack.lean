/-
  Reducing, as plain functions: what is needed, where it stands then; the reduced program computes the same, and is reduced.
  No condition.
-/
import Derived.Test.YtcdfghogmdhfcaaGreatDoorInsRed
namespace Go.Proofs.YtcdfghogmdhfcaaGreatDoor
open Go.RowKit
set_option linter.unusedVariables false

theorem getD_of {c : List Ins} {i : Nat} {x : Ins} (h : c[i]? = some x) : c.getD i default = x := by rw [List.getD_eq_getElem?_getD, h]; rfl
theorem uses_a (x : Ins) (h : 0 ≤ x.a) : usesB x x.a.toNat = true := by
  unfold usesB
  have : x.a = ((x.a.toNat : Nat) : Int) := by omega
  simp [← this]
theorem uses_b (x : Ins) (h : 0 ≤ x.b) (h2 : twoB x.op = true) : usesB x x.b.toNat = true := by
  unfold usesB
  have : x.b = ((x.b.toNat : Nat) : Int) := by omega
  simp [← this, h2]
theorem two_of {x : Ins} (h : x.op = 3 ∨ x.op = 4) : twoB x.op = true := by unfold twoB; simpa using h
theorem two_not {op : Int} (h : op = 5) : twoB op = false := by subst h; rfl
theorem OkI.uses_lt {N : Nat} {c : List Ins} {i j : Nat} {x : Ins} (h : OkI N c i x) (hu : usesB x j = true) : j < N + i := by
  unfold usesB at hu
  rcases h with ⟨h1, h2, h3, _⟩ | ⟨h1, h2, h3, h4⟩
  · rw [two_not h1] at hu
    simp at hu
    omega
  · simp at hu
    omega
theorem nd_mono (N : Nat) (c : List Ins) (m : Nat) {nd : Nat → Bool} {j : Nat} (h : nd j = true) : ndFrom N c m nd j = true := by
  induction m generalizing nd with
  | zero => exact h
  | succ m ih => exact ih (by unfold ndStep; rw [h]; rfl)
theorem nd_stay {N : Nat} {c : List Ins} (H : CInv N c) (m : Nat) {nd : Nat → Bool} {k : Nat} (hm : m ≤ k + 1) (hl : m ≤ c.length) : ndFrom N c m nd (N + k) = nd (N + k) := by
  induction m generalizing nd with
  | zero => rfl
  | succ m ih =>
    rw [ndFrom, ih (by omega) (by omega)]
    obtain ⟨x, hx⟩ := some_of_lt (l := c) (k := m) (by omega)
    unfold ndStep
    rw [getD_of hx]
    have : usesB x (N + k) = false := by
      cases hu : usesB x (N + k) with
      | false => rfl
      | true => have := (H.ok m x hx).uses_lt hu; omega
    rw [this]
    simp
theorem nd_closed {N : Nat} {c : List Ins} (H : CInv N c) (m : Nat) {nd : Nat → Bool} {i j : Nat} {x : Ins} (hl : m ≤ c.length) (hi : i < m) (hx : c[i]? = some x) (h : ndFrom N c m nd (N + i) = true) (hu : usesB x j = true) : ndFrom N c m nd j = true := by
  induction m generalizing nd with
  | zero => omega
  | succ m ih =>
    rw [ndFrom] at h ⊢
    by_cases e : i = m
    · subst e
      rw [nd_stay H i (by omega) (by omega)] at h
      apply nd_mono
      unfold ndStep at h ⊢
      rw [getD_of hx] at h ⊢
      have h2 : usesB x (N + i) = false := by
        cases hu : usesB x (N + i) with
        | false => rfl
        | true => have := (H.ok i x hx).uses_lt hu; omega
      rw [h2] at h
      simp at h
      simp [h, hu]
    · exact ih (by omega) (by omega) h
theorem nd_min {N : Nat} {c : List Ins} (m : Nat) {nd : Nat → Bool} {j : Nat} (hl : m ≤ c.length) (h : ndFrom N c m nd j = true) : nd j = true ∨ ∃ i x, i < m ∧ c[i]? = some x ∧ ndFrom N c m nd (N + i) = true ∧ usesB x j = true := by
  induction m generalizing nd with
  | zero => exact .inl h
  | succ m ih =>
    rw [ndFrom] at h
    rcases ih (by omega) h with h1 | ⟨i, x, hi, hx, h1, h2⟩
    · obtain ⟨x, hx⟩ := some_of_lt (l := c) (k := m) (by omega)
      unfold ndStep at h1
      rw [getD_of hx] at h1
      simp only [Bool.or_eq_true, Bool.and_eq_true] at h1
      rcases h1 with h1 | ⟨h1, h2⟩
      · exact .inl h1
      · exact .inr ⟨m, x, by omega, hx, nd_mono N c (m + 1) h1, h2⟩
    · exact .inr ⟨i, x, by omega, hx, h1, h2⟩

theorem moved_congr {pl pl' : Nat → Int} {x : Ins} {b : Nat} (h : ∀ j, j < b → pl' j = pl j) (ha : x.a.toNat < b) (hb : x.b.toNat < b) : moved pl' x = moved pl x := by
  unfold moved; rw [h _ ha, h _ hb]
/-- What holds of the packed code, behind i instructions. -/
structure PInv (N : Nat) (c : List Ins) (nd : Nat → Bool) (i : Nat) : Prop where
  len : (packS N c nd i).1.length ≤ i
  low : ∀ j, j < N → (packS N c nd i).2 j = (j : Int)
  at' : ∀ m x, m < i → c[m]? = some x → nd (N + m) = true → ∃ t, t < (packS N c nd i).1.length ∧ (packS N c nd i).2 (N + m) = ((N + t : Nat) : Int) ∧ (packS N c nd i).1[t]? = some (moved (packS N c nd i).2 x)
  mono : ∀ m m', m < m' → m' < i → nd (N + m) = true → nd (N + m') = true → (packS N c nd i).2 (N + m) < (packS N c nd i).2 (N + m')
  surj : ∀ t, t < (packS N c nd i).1.length → ∃ m, m < i ∧ nd (N + m) = true ∧ (packS N c nd i).2 (N + m) = ((N + t : Nat) : Int)
  zero : ∀ j, N + i ≤ j → (packS N c nd i).2 j = 0
  free : ∀ m, m < i → nd (N + m) = false → (packS N c nd i).2 (N + m) = 0
theorem plU_ne {pl : Nat → Int} {i j : Nat} {v : Int} (h : j ≠ i) : plU pl i v j = pl j := by simp [plU, h]
theorem plU_eq (pl : Nat → Int) (i : Nat) (v : Int) : plU pl i v i = v := by simp [plU]
theorem pack_inv {N : Nat} {c : List Ins} (H : CInv N c) (nd : Nat → Bool) (i : Nat) (hi : i ≤ c.length) : PInv N c nd i := by
  induction i with
  | zero =>
    refine ⟨Nat.le_refl _, fun j hj => by simp [packS, hj], fun m x hm => by omega, fun m m' _ h => by omega, fun t ht => by simp [packS] at ht, fun j hj => ?_, fun m hm => by omega⟩
    simp only [packS]
    rw [if_neg (by omega)]
  | succ i ih =>
    have P := ih (by omega)
    obtain ⟨x, hx⟩ := some_of_lt (l := c) (k := i) (by omega)
    have hlt := (H.ok i x hx).lt
    by_cases hn : nd (N + i) = true
    · have e : packS N c nd (i + 1) = ((packS N c nd i).1 ++ [moved (packS N c nd i).2 x], plU (packS N c nd i).2 (N + i) ((N + (packS N c nd i).1.length : Nat) : Int)) := by
        rw [packS, if_pos hn, getD_of hx]
      obtain ⟨p1, p2, p3, p4, p5, p6, p7⟩ := P
      clear ih
      generalize (packS N c nd i).1 = o at *
      generalize (packS N c nd i).2 = pl at *
      have hst : ∀ j, j < N + i → plU pl (N + i) ((N + o.length : Nat) : Int) j = pl j := fun j hj => plU_ne (by omega)
      have hmv : ∀ m y, m ≤ i → c[m]? = some y → moved (plU pl (N + i) ((N + o.length : Nat) : Int)) y = moved pl y := fun m y hm hy => moved_congr hst (by have := (H.ok m y hy).lt; omega) (by have := (H.ok m y hy).lt; omega)
      refine ⟨?_, ?_, ?_, ?_, ?_, ?_, ?_⟩
      · rw [e]; simp; omega
      · rw [e]; intro j hj; show plU pl (N + i) ((N + o.length : Nat) : Int) j = j; rw [hst j (by omega)]; exact p2 j hj
      · rw [e]
        intro m y hm hy hnd
        by_cases em : m = i
        · subst em
          rw [hx] at hy
          cases hy
          refine ⟨o.length, by simp, plU_eq _ _ _, ?_⟩
          show (o ++ [moved pl x])[o.length]? = some (moved (plU pl (N + m) ((N + o.length : Nat) : Int)) x)
          rw [hmv m x (Nat.le_refl _) hx]
          simp
        · obtain ⟨t, t1, t2, t3⟩ := p3 m y (by omega) hy hnd
          refine ⟨t, by simp; omega, ?_, ?_⟩
          · show plU pl (N + i) ((N + o.length : Nat) : Int) (N + m) = _
            rw [hst _ (by omega)]; exact t2
          · show (o ++ [moved pl x])[t]? = some (moved (plU pl (N + i) ((N + o.length : Nat) : Int)) y)
            rw [hmv m y (by omega) hy, List.getElem?_append_left t1]; exact t3
      · rw [e]
        intro m m' h1 h2 n1 n2
        show plU pl (N + i) ((N + o.length : Nat) : Int) (N + m) < plU pl (N + i) ((N + o.length : Nat) : Int) (N + m')
        obtain ⟨y, hy⟩ := some_of_lt (l := c) (k := m) (by omega)
        obtain ⟨t, t1, t2, _⟩ := p3 m y (by omega) hy n1
        rw [hst (N + m) (by omega)]
        by_cases em : m' = i
        · subst em
          rw [plU_eq]; omega
        · rw [hst (N + m') (by omega)]
          exact p4 m m' h1 (by omega) n1 n2
      · rw [e]
        intro t ht
        simp only [List.length_append, List.length_cons, List.length_nil] at ht
        by_cases et : t = o.length
        · subst et
          exact ⟨i, by omega, hn, plU_eq _ _ _⟩
        · obtain ⟨m, m1, m2, m3⟩ := p5 t (by omega)
          refine ⟨m, by omega, m2, ?_⟩
          show plU pl (N + i) ((N + o.length : Nat) : Int) (N + m) = _
          rw [hst _ (by omega)]; exact m3
      · rw [e]
        intro j hj
        show plU pl (N + i) ((N + o.length : Nat) : Int) j = 0
        rw [plU_ne (by omega)]
        exact p6 j (by omega)
      · rw [e]
        intro m hm hmn
        have : m ≠ i := fun h => by subst h; rw [hn] at hmn; cases hmn
        show plU pl (N + i) ((N + o.length : Nat) : Int) (N + m) = 0
        rw [plU_ne (by omega)]
        exact p7 m (by omega) hmn
    · have e : packS N c nd (i + 1) = packS N c nd i := by rw [packS, if_neg hn]
      obtain ⟨p1, p2, p3, p4, p5, p6, p7⟩ := P
      have hne : ∀ m, nd (N + m) = true → m ≠ i := fun m h h' => hn (h' ▸ h)
      refine ⟨by rw [e]; omega, by rw [e]; exact p2, ?_, ?_, ?_, ?_, ?_⟩
      · rw [e]; intro m y hm hy hnd; exact p3 m y (by have := hne m hnd; omega) hy hnd
      · rw [e]; intro m m' h1 h2 n1 n2; exact p4 m m' h1 (by have := hne m' n2; omega) n1 n2
      · rw [e]; intro t ht
        obtain ⟨m, m1, m2⟩ := p5 t ht
        exact ⟨m, by omega, m2⟩
      · rw [e]; intro j hj; exact p6 j (by omega)
      · rw [e]; intro m hm hmn
        by_cases em : m = i
        · subst em; exact p6 _ (Nat.le_refl _)
        · exact p7 m (by omega) hmn

/-- A bit that is left: an input, or one that is needed. -/
def Live (N : Nat) (c : List Ins) (nd : Nat → Bool) (j : Nat) : Prop := j < N ∨ (j < N + c.length ∧ nd j = true)
theorem pl_mono {N : Nat} {c : List Ins} {nd : Nat → Bool} (P : PInv N c nd c.length) {j j' : Nat} (h : Live N c nd j) (h' : Live N c nd j') (hlt : j < j') : (packS N c nd c.length).2 j < (packS N c nd c.length).2 j' := by
  by_cases h1 : j' < N
  · rw [P.low j (by omega), P.low j' h1]; omega
  · obtain ⟨m', rfl⟩ : ∃ m', j' = N + m' := ⟨j' - N, by omega⟩
    have h2 := h'.resolve_left h1
    by_cases h3 : j < N
    · obtain ⟨y, hy⟩ := some_of_lt (l := c) (k := m') (by omega)
      obtain ⟨t, t1, t2, _⟩ := P.at' m' y (by omega) hy h2.2
      rw [P.low j h3, t2]; omega
    · obtain ⟨m, rfl⟩ : ∃ m, j = N + m := ⟨j - N, by omega⟩
      have h4 := h.resolve_left h3
      exact P.mono m m' (by omega) (by omega) h4.2 h2.2
theorem pl_inj {N : Nat} {c : List Ins} {nd : Nat → Bool} (P : PInv N c nd c.length) {j j' : Nat} (h : Live N c nd j) (h' : Live N c nd j') (he : (packS N c nd c.length).2 j = (packS N c nd c.length).2 j') : j = j' := by
  have h1 := fun hlt => pl_mono P h h' hlt
  have h2 := fun hlt => pl_mono P h' h hlt
  omega
theorem pl_range {N : Nat} {c : List Ins} {nd : Nat → Bool} (P : PInv N c nd c.length) {j : Nat} (h : Live N c nd j) : 0 ≤ (packS N c nd c.length).2 j ∧ (packS N c nd c.length).2 j < ((N + (packS N c nd c.length).1.length : Nat) : Int) := by
  by_cases h1 : j < N
  · rw [P.low j h1]; omega
  · obtain ⟨m, rfl⟩ : ∃ m, j = N + m := ⟨j - N, by omega⟩
    have h2 := h.resolve_left h1
    obtain ⟨y, hy⟩ := some_of_lt (l := c) (k := m) (by omega)
    obtain ⟨t, t1, t2, _⟩ := P.at' m y (by omega) hy h2.2
    rw [t2]; omega
/-- What the instructions that are needed use is needed. -/
def Closed53 (N : Nat) (c : List Ins) (nd : Nat → Bool) : Prop := ∀ m x j, c[m]? = some x → nd (N + m) = true → usesB x j = true → nd j = true
theorem live_a {N : Nat} {c : List Ins} {nd : Nat → Bool} {m : Nat} {x : Ins} (H : CInv N c) (C : Closed53 N c nd) (hx : c[m]? = some x) (h : nd (N + m) = true) : Live N c nd x.a.toNat := by
  have hk := H.ok m x hx
  have h0 : 0 ≤ x.a := by rcases hk with ⟨_, h, _⟩ | ⟨_, h, _⟩ <;> exact h
  have := lt_of_some hx
  exact .inr ⟨by have := hk.lt; omega, C m x _ hx h (uses_a x h0)⟩
theorem live_b {N : Nat} {c : List Ins} {nd : Nat → Bool} {m : Nat} {x : Ins} (H : CInv N c) (C : Closed53 N c nd) (hx : c[m]? = some x) (h : nd (N + m) = true) (h3 : x.op = 3 ∨ x.op = 4) : Live N c nd x.b.toNat := by
  have hk := H.ok m x hx
  have h0 : 0 ≤ x.b := by rcases hk with ⟨h, _⟩ | ⟨_, h, _⟩ <;> omega
  have := lt_of_some hx
  exact .inr ⟨by have := hk.lt; omega, C m x _ hx h (uses_b x h0 (two_of h3))⟩
theorem pack_sem {N : Nat} {l : List Bool} {c : List Ins} {nd : Nat → Bool} (hl : l.length = N) (H : CInv N c) (C : Closed53 N c nd) (j : Nat) (hj : Live N c nd j) :
    (pvals l (packS N c nd c.length).1).getD ((packS N c nd c.length).2 j).toNat false = (pvals l c).getD j false := by
  have P := pack_inv H nd c.length (Nat.le_refl _)
  induction j using Nat.strongRecOn with
  | _ j ih =>
    by_cases h1 : j < N
    · rw [P.low j h1, Int.toNat_natCast, getD_prefix (pvals_prefix l _) (by omega), getD_prefix (pvals_prefix l _) (by omega)]
    · obtain ⟨m, rfl⟩ : ∃ m, j = N + m := ⟨j - N, by omega⟩
      have h2 := hj.resolve_left h1
      obtain ⟨x, hx⟩ := some_of_lt (l := c) (k := m) (by omega)
      obtain ⟨t, t1, t2, t3⟩ := P.at' m x (by omega) hx h2.2
      have hk := H.ok m x hx
      have hlt := hk.lt
      have la := live_a H C hx h2.2
      have ra := pl_range P la
      have ma := pl_mono P la hj (by omega)
      have ia := ih x.a.toNat (by omega) la
      rw [t2] at ma ⊢
      rw [Int.toNat_natCast]
      subst hl
      rcases hk with ⟨o1, o2, o3, o4, _⟩ | ⟨o1, o2, o3, o4⟩
      · have hb : (moved (packS l.length c nd c.length).2 x).b = 0 := by unfold moved; simp only [two_not o1]; simpa using o4
        have ho : (moved (packS l.length c nd c.length).2 x).op = 5 := o1
        rw [pvals_at t3 (by show ((packS l.length c nd c.length).2 x.a.toNat).toNat < _; omega) (by rw [hb]; simp; omega), pvals_at hx hlt.1 hlt.2, ho, o1, opB_not, opB_not]
        exact congrArg _ ia
      · have lb := live_b H C hx h2.2 o1
        have rb := pl_range P lb
        have mb := pl_mono P lb hj (by omega)
        have ib := ih x.b.toNat (by omega) lb
        rw [t2] at mb
        have hb : (moved (packS l.length c nd c.length).2 x).b = (packS l.length c nd c.length).2 x.b.toNat := by unfold moved; simp only [two_of o1]; rfl
        rw [pvals_at t3 (by show ((packS l.length c nd c.length).2 x.a.toNat).toNat < _; omega) (by rw [hb]; omega), pvals_at hx hlt.1 hlt.2, hb]
        show opB x.op ((pvals l (packS l.length c nd c.length).1).getD ((packS l.length c nd c.length).2 x.a.toNat).toNat false) _ = _
        rw [ia, ib]
theorem idx_inj {c : List Ins} (h : c.Nodup) {i j : Nat} {x : Ins} (hi : c[i]? = some x) (hj : c[j]? = some x) : i = j := (List.getElem?_inj (lt_of_some hi) h).1 (hi.trans hj.symm)
theorem nodup_of {c : List Ins} (h : ∀ (i j : Nat) x, c[i]? = some x → c[j]? = some x → i = j) : c.Nodup := by
  rw [List.nodup_iff_pairwise_ne, List.pairwise_iff_getElem]
  intro i j hi hj hij he
  have := h i j (c[i]) (List.getElem?_eq_getElem hi) (by rw [he]; exact List.getElem?_eq_getElem hj)
  omega
theorem pack_ok {N : Nat} {c : List Ins} {nd : Nat → Bool} (H : CInv N c) (C : Closed53 N c nd) : CInv N (packS N c nd c.length).1 := by
  have P := pack_inv H nd c.length (Nat.le_refl _)
  have back : ∀ t y, (packS N c nd c.length).1[t]? = some y → ∃ m x, c[m]? = some x ∧ nd (N + m) = true ∧ (packS N c nd c.length).2 (N + m) = ((N + t : Nat) : Int) ∧ y = moved (packS N c nd c.length).2 x := by
    intro t y hy
    obtain ⟨m, m1, m2, m3⟩ := P.surj t (lt_of_some hy)
    obtain ⟨x, hx⟩ := some_of_lt (l := c) (k := m) m1
    obtain ⟨t', t1, t2, t3⟩ := P.at' m x m1 hx m2
    have : t' = t := by rw [m3] at t2; omega
    subst this
    rw [hy] at t3
    exact ⟨m, x, hx, m2, m3, Option.some.inj t3⟩
  refine ⟨fun t y hy => ?_, nodup_of fun i j y hi hj => ?_⟩
  · obtain ⟨m, x, hx, m2, m3, rfl⟩ := back t y hy
    have hk := H.ok m x hx
    have hml := lt_of_some hx
    have hlt := hk.lt
    have lm : Live N c nd (N + m) := .inr ⟨by omega, m2⟩
    have la := live_a H C hx m2
    have ra := pl_range P la
    have ma := pl_mono P la lm (by omega)
    rw [m3] at ma
    rcases hk with ⟨o1, o2, o3, o4, o5⟩ | ⟨o1, o2, o3, o4⟩
    · refine .inl ⟨o1, ra.1, ma, by unfold moved; simp only [two_not o1]; simpa using o4, fun m' y' hy' he => ?_⟩
      obtain ⟨m'', x'', hx'', n2, n3, rfl⟩ := back m' y' hy'
      have hinj := pl_inj P la (.inr ⟨by have := lt_of_some hx''; omega, n2⟩) (show _ = (packS N c nd c.length).2 (N + m'') by rw [n3]; exact he)
      exact o5 m'' x'' hx'' (by omega)
    · have lb := live_b H C hx m2 o1
      have mb := pl_mono P lb lm (by omega)
      have mab := pl_mono P la lb (by omega)
      rw [m3] at mb
      refine .inr ⟨o1, ra.1, ?_, ?_⟩
      · show (packS N c nd c.length).2 x.a.toNat < (if twoB x.op then (packS N c nd c.length).2 x.b.toNat else x.b)
        rw [two_of o1]; exact mab
      · show (if twoB x.op then (packS N c nd c.length).2 x.b.toNat else x.b) < _
        rw [two_of o1]; exact mb
  · obtain ⟨m, x, hx, m2, m3, e1⟩ := back i y hi
    obtain ⟨m', x', hx', n2, n3, e2⟩ := back j y hj
    have hk := H.ok m x hx
    have hk' := H.ok m' x' hx'
    have la := live_a H C hx m2
    have la' := live_a H C hx' n2
    have e : moved (packS N c nd c.length).2 x = moved (packS N c nd c.length).2 x' := e1.symm.trans e2
    simp only [moved, Ins.mk.injEq] at e
    obtain ⟨e3, e4, e5⟩ := e
    have ha := pl_inj P la la' e4
    have hab : 0 ≤ x.a ∧ 0 ≤ x'.a ∧ 0 ≤ x.b ∧ 0 ≤ x'.b := by rcases hk with ⟨_, _⟩ | ⟨_, _⟩ <;> rcases hk' with ⟨_, _⟩ | ⟨_, _⟩ <;> omega
    have hb : x.b = x'.b := by
      by_cases o1 : x.op = 3 ∨ x.op = 4
      · have lb := live_b H C hx m2 o1
        have lb' := live_b H C hx' n2 (e3 ▸ o1)
        rw [← e3, two_of o1] at e5
        have := pl_inj P lb lb' e5
        omega
      · have o5 : x.op = 5 := by rcases hk with ⟨h, _⟩ | ⟨h, _⟩; exact h; exact absurd h o1
        rw [← e3, two_not o5] at e5
        simpa using e5
    have hxx : x = x' := by
      cases x; cases x'
      simp only [Ins.mk.injEq] at *
      exact ⟨e3, by omega, hb⟩
    subst hxx
    have := idx_inj H.nodup hx hx'
    subst this
    rw [m3] at n3
    omega
end Go.Proofs.YtcdfghogmdhfcaaGreatDoor
