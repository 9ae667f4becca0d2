/-
  Reducing, as plain functions: the reduced program is valid, computes the same, is not longer but for two constants, and is reduced.
  No condition.
-/
import Derived.Test.YtcdfghogmdhfcaaGreatDoorInsPack
namespace Go.Proofs.YtcdfghogmdhfcaaGreatDoor
open Go.RowKit
set_option linter.unusedVariables false

theorem progErr_zero {n : Int} {c : List Ins} {o : List Int} : progErr n c o = 0 ↔ (0 ≤ n ∧ n ≤ 24 ∧ c.length ≤ 65536 ∧ o.length ≤ 65536 ∧ pcodeErr n c = 0 ∧ ∀ k ∈ o, 0 ≤ k ∧ k < n + c.length) := by
  unfold progErr
  by_cases h1 : n < 0 ∨ 24 < n
  · rw [if_pos h1]; constructor
    · intro h; cases h
    · intro h; omega
  · rw [if_neg h1]
    by_cases h2 : 65536 < c.length ∨ 65536 < o.length
    · rw [if_pos h2]; constructor
      · intro h; cases h
      · intro h; omega
    · rw [if_neg h2]
      by_cases h3 : pcodeErr n c = 0
      · rw [if_neg (by simp [h3])]
        unfold poutErr
        by_cases h4 : o.any (fun k => decide (k < 0) || decide (n + c.length ≤ k)) = true
        · rw [if_pos h4]
          simp only [List.any_eq_true, Bool.or_eq_true, decide_eq_true_eq] at h4
          obtain ⟨k, hk, h5⟩ := h4
          constructor
          · intro h; cases h
          · intro h; have := h.2.2.2.2.2 k hk; omega
        · rw [if_neg h4]
          refine ⟨fun _ => ⟨by omega, by omega, by omega, by omega, h3, fun k hk => ?_⟩, fun _ => rfl⟩
          have : ¬ (k < 0 ∨ n + c.length ≤ k) := fun h => h4 (by simp only [List.any_eq_true, Bool.or_eq_true, decide_eq_true_eq]; exact ⟨k, hk, h⟩)
          omega
      · rw [if_pos h3]; constructor
        · intro h; exact absurd h h3
        · intro h; exact absurd h.2.2.2.2.1 h3
/-- What is left of a program that is reduced. -/
structure RedFacts (N : Nat) (c : List Ins) (outs : List Int) : Prop where
  inv : CInv N (redS N c).1
  most : (redS N c).1.length ≤ c.length
  vals : ∀ k ∈ outs, -2 ≤ (redS N c).2.getD k.toNat 0 ∧ (redS N c).2.getD k.toNat 0 < ((N + (redS N c).1.length : Nat) : Int)
  closed : Closed53 N (redS N c).1 (ndAll N (redS N c).1 (redS N c).2 outs)
  live : ∀ k ∈ outs, 0 ≤ (redS N c).2.getD k.toNat 0 → Live N (redS N c).1 (ndAll N (redS N c).1 (redS N c).2 outs) ((redS N c).2.getD k.toNat 0).toNat
theorem nd0_of {vs outs : List Int} {k : Int} {j : Nat} (hk : k ∈ outs) (h : vs.getD k.toNat 0 = (j : Int)) : nd0 vs outs j = true := by
  unfold nd0
  rw [List.any_eq_true]
  exact ⟨k, hk, by simpa using h⟩
theorem red_facts {N : Nat} {c : List Ins} {outs : List Int} (h : pcodeErr N c = 0) (ho : ∀ k ∈ outs, 0 ≤ k ∧ k < (N : Int) + c.length) : RedFacts N c outs := by
  have R := red_inv (l := List.replicate N false) (by simp) h
  have hv : ∀ k ∈ outs, -2 ≤ (redS N c).2.getD k.toNat 0 ∧ (redS N c).2.getD k.toNat 0 < ((N + (redS N c).1.length : Nat) : Int) := fun k hk => R.rng _ (getD_mem (by rw [redS_len]; have := ho k hk; omega))
  refine ⟨R.inv, R.most, hv, fun m x j hx hn hu => nd_closed R.inv _ (Nat.le_refl _) (lt_of_some hx) hx hn hu, fun k hk h0 => ?_⟩
  have := hv k hk
  by_cases h1 : ((redS N c).2.getD k.toNat 0).toNat < N
  · exact .inl h1
  · exact .inr ⟨by omega, nd_mono _ _ _ (nd0_of hk (by omega))⟩
theorem hasV_of {vs outs : List Int} {k v : Int} (hk : k ∈ outs) (h : vs.getD k.toNat 0 = v) : hasV vs outs v = true := by
  unfold hasV
  rw [List.any_eq_true]
  exact ⟨k, hk, by simpa using h⟩
theorem constL_len (z o : Bool) : (constL z o).length = (if z then 1 else 0) + (if o then 1 else 0) := by cases z <;> cases o <;> rfl
theorem red_len (N : Nat) (c : List Ins) (outs : List Int) (F : RedFacts N c outs) : (redC N c outs).length ≤ c.length + 2 := by
  have P := (pack_inv F.inv (ndAll N (redS N c).1 (redS N c).2 outs) _ (Nat.le_refl _)).len
  have := F.most
  unfold redC
  rw [List.length_append, constL_len]
  split <;> split <;> omega
theorem redO_len (N : Nat) (c : List Ins) (outs : List Int) : (redO N c outs).length = outs.length := by simp [redO]
/-- The bits behind the constants. -/
theorem pvals_const {l : List Bool} {o : List Ins} {z1 z2 : Bool} : pvals l (o ++ constL z1 z2) = pvals l o ++ ((if z1 then [false] else []) ++ (if z2 then [true] else [])) := by
  rw [pvals_append]
  cases z1 <;> cases z2 <;> simp [constL, pvals, opB]
theorem red_same {N : Nat} {l : List Bool} {c : List Ins} {outs : List Int} (hl : l.length = N) (h : pcodeErr N c = 0) (ho : ∀ k ∈ outs, 0 ≤ k ∧ k < (N : Int) + c.length) : poutsV l (redC N c outs) (redO N c outs) = poutsV l c outs := by
  have F := red_facts h ho
  have R := red_inv hl h
  unfold poutsV redO redC
  rw [List.map_map]
  refine List.map_congr_left fun k hk => ?_
  show (pvals l _).getD (outV _ _ _ _ _).toNat false = _
  have hk2 := ho k hk
  rw [← R.sem k.toNat (by omega), pvals_const]
  have P := pack_inv F.inv (ndAll N (redS N c).1 (redS N c).2 outs) _ (Nat.le_refl _)
  have hv := F.vals k hk
  have hlive := F.live k hk
  have hps := fun j hj => pack_sem (l := l) (nd := ndAll N (redS N c).1 (redS N c).2 outs) hl F.inv F.closed j hj
  have hpr := fun j hj => pl_range (j := j) P hj
  have hz := fun h => hasV_of (vs := (redS N c).2) (v := -2) hk h
  have ho := fun h => hasV_of (vs := (redS N c).2) (v := -1) hk h
  have hlen := pvals_len l (packS N (redS N c).1 (ndAll N (redS N c).1 (redS N c).2 outs) (redS N c).1.length).1
  generalize hasV (redS N c).2 outs (-2) = z1 at *
  generalize hasV (redS N c).2 outs (-1) = z2 at *
  generalize (redS N c).2.getD k.toNat 0 = v at *
  generalize packS N (redS N c).1 (ndAll N (redS N c).1 (redS N c).2 outs) (redS N c).1.length = S at *
  rw [hl] at hlen
  unfold outV
  by_cases v2 : v = -2
  · rw [if_pos v2, v2, semV_two, hz v2, Int.toNat_natCast, List.getD_eq_getElem?_getD, List.getElem?_append_right (by omega), hlen]
    simp
  · rw [if_neg v2]
    by_cases v1 : v = -1
    · rw [if_pos v1, v1, semV_one, ho v1, Int.toNat_natCast, List.getD_eq_getElem?_getD, List.getElem?_append_right (by omega), hlen]
      cases z1 <;> simp
    · rw [if_neg v1]
      have hL := hlive (by omega)
      have := hpr _ hL
      rw [getD_prefix (List.prefix_append _ _) (by rw [hlen]; omega), hps _ hL, semV_nat (by omega)]
theorem insErr_ok {N i : Nat} {c : List Ins} {x : Ins} (h : OkI N c i x) : insErr ((N : Int) + i) x = 0 := by
  rw [insErr_zero]
  rcases h with ⟨h1, h2, h3, h4, _⟩ | ⟨h1, h2, h3, h4⟩
  · exact .inr (.inl ⟨h1, h2, by omega, h4⟩)
  · exact .inr (.inr ⟨h1, h2, by omega, by omega, by omega⟩)
theorem insErr_const (n : Int) : insErr n ⟨1, 0, 0⟩ = 0 ∧ insErr n ⟨2, 0, 0⟩ = 0 := by rw [insErr_zero, insErr_zero]; simp
theorem pcodeErr_append {c d : List Ins} {n : Int} (h : pcodeErr n c = 0) : pcodeErr n (c ++ d) = pcodeErr (n + c.length) d := by
  induction c generalizing n with
  | nil => simp
  | cons x t ih =>
    rw [pcodeErr] at h
    by_cases h1 : insErr n x = 0
    · rw [if_neg (by simp [h1])] at h
      rw [List.cons_append, pcodeErr, if_neg (by simp [h1]), ih h]
      congr 1
      simp only [List.length_cons]
      omega
    · rw [if_pos h1] at h; exact absurd h h1
theorem red_valid {N : Nat} {c : List Ins} {outs : List Int} (hN : N ≤ 24) (h : pcodeErr N c = 0) (ho : ∀ k ∈ outs, 0 ≤ k ∧ k < (N : Int) + c.length) (hc : c.length + 2 ≤ 65536) (h2 : outs.length ≤ 65536) : progErr N (redC N c outs) (redO N c outs) = 0 := by
  have F := red_facts h ho
  have hlen := red_len N c outs F
  have P := pack_inv F.inv (ndAll N (redS N c).1 (redS N c).2 outs) _ (Nat.le_refl _)
  have K := pack_ok F.inv F.closed
  rw [progErr_zero]
  refine ⟨by omega, by omega, by omega, by rw [redO_len]; exact h2, ?_, fun k hk => ?_⟩
  · unfold redC
    rw [pcodeErr_append (pcodeErr_at.2 fun i x hx => insErr_ok (K.ok i x hx))]
    obtain ⟨e1, e2⟩ := insErr_const ((N : Int) + (packS N (redS N c).1 (ndAll N (redS N c).1 (redS N c).2 outs) (redS N c).1.length).1.length)
    obtain ⟨e3, e4⟩ := insErr_const ((N : Int) + (packS N (redS N c).1 (ndAll N (redS N c).1 (redS N c).2 outs) (redS N c).1.length).1.length + 1)
    cases hasV (redS N c).2 outs (-2) <;> cases hasV (redS N c).2 outs (-1) <;> simp [constL, pcodeErr, e1, e2, e4]
  · unfold redO at hk
    obtain ⟨k0, hk0, rfl⟩ := List.mem_map.1 hk
    have hv := F.vals k0 hk0
    have hlive := F.live k0 hk0
    have hpr := fun j hj => pl_range (j := j) P hj
    have hz := fun h => hasV_of (vs := (redS N c).2) (v := -2) hk0 h
    have ho := fun h => hasV_of (vs := (redS N c).2) (v := -1) hk0 h
    unfold redC
    rw [List.length_append, constL_len]
    generalize hasV (redS N c).2 outs (-2) = z1 at *
    generalize hasV (redS N c).2 outs (-1) = z2 at *
    generalize (redS N c).2.getD k0.toNat 0 = v at *
    generalize packS N (redS N c).1 (ndAll N (redS N c).1 (redS N c).2 outs) (redS N c).1.length = S at *
    unfold outV
    by_cases v2 : v = -2
    · rw [if_pos v2, hz v2]
      simp only [if_true]
      split <;> omega
    · rw [if_neg v2]
      by_cases v1 : v = -1
      · rw [if_pos v1, ho v1]
        simp only [if_true]
        split <;> omega
      · rw [if_neg v1]
        have := hpr _ (hlive (by omega))
        split <;> split <;> omega

/-! What is reduced stays as it is. -/
theorem red_fix {N : Nat} {o : List Ins} (H : CInv N o) (k : Nat) (hk : k ≤ o.length) : redS N (o.take k) = (o.take k, upToI (N + k)) := by
  induction k with
  | zero => simp [redS]
  | succ k ih =>
    obtain ⟨x, hx⟩ := some_of_lt (l := o) (k := k) (by omega)
    rw [take_snoc hx, redS_snoc, ih (by omega)]
    have hn : x ∉ o.take k := by
      intro hm
      obtain ⟨j, hj⟩ := List.getElem?_of_mem hm
      have hjk := lt_of_some hj
      rw [List.length_take] at hjk
      rw [List.getElem?_take_of_lt (by omega)] at hj
      have := idx_inj H.nodup hx hj
      omega
    have hidx : (o.take k).idxOf x = k := by rw [List.idxOf_eq_length hn, List.length_take]; omega
    have hput : putC (o.take k) x = o.take k ++ [x] := by rw [putC, if_neg hn]
    have hpv : putV N (o.take k) x = ((N + k : Nat) : Int) := by rw [putV, hidx]
    have key : stC N (o.take k) (upToI (N + k)) x = o.take k ++ [x] ∧ stV N (o.take k) (upToI (N + k)) x = ((N + k : Nat) : Int) := by
      unfold stC stV
      rcases H.ok k x hx with ⟨h1, h2, h3, h4, h5⟩ | ⟨h1, h2, h3, h4⟩
      · have e1 : ¬ x.op = 1 := by omega
        have e2 : ¬ x.op = 2 := by omega
        have ea : (upToI (N + k)).getD x.a.toNat 0 = x.a := by rw [upToI_get (by omega)]; omega
        have ex : (⟨5, x.a, 0⟩ : Ins) = x := by cases x; simp only [Ins.mk.injEq] at *; simp [h1, h4]
        have hng : ¬ ((N : Int) ≤ x.a ∧ ((o.take k).getD (x.a - N).toNat default).op = 5) := by
          rintro ⟨g1, g2⟩
          obtain ⟨y, hy⟩ := some_of_lt (l := o) (k := (x.a - N).toNat) (by omega)
          rw [List.getD_eq_getElem?_getD, List.getElem?_take_of_lt (by omega), hy] at g2
          exact h5 _ y hy (by omega) g2
        rw [if_neg e1, if_neg e1, if_neg e2, if_neg e2, if_pos h1, if_pos h1, ea]
        unfold notC notV
        have f2 : ¬ x.a = -2 := by omega
        have f1 : ¬ x.a = -1 := by omega
        rw [if_neg f2, if_neg f2, if_neg f1, if_neg f1, if_neg hng, if_neg hng, ex]
        exact ⟨hput, hpv⟩
      · have e1 : ¬ x.op = 1 := by omega
        have e2 : ¬ x.op = 2 := by omega
        have e5 : ¬ x.op = 5 := by omega
        have ea : (upToI (N + k)).getD x.a.toNat 0 = x.a := by rw [upToI_get (by omega)]; omega
        have eb : (upToI (N + k)).getD x.b.toNat 0 = x.b := by rw [upToI_get (by omega)]; omega
        have em : minZ x.a x.b = x.a := by unfold minZ; rw [if_neg (by omega)]
        have eM : maxZ x.a x.b = x.b := by unfold maxZ; rw [if_pos h3]
        have f2 : ¬ x.a = -2 := by omega
        have f1 : ¬ x.a = -1 := by omega
        have f0 : ¬ x.a = x.b := by omega
        rw [if_neg e1, if_neg e1, if_neg e2, if_neg e2, if_neg e5, if_neg e5, ea, eb, em, eM]
        rcases h1 with h1 | h1
        · have ex : (⟨3, x.a, x.b⟩ : Ins) = x := by cases x; simp only [Ins.mk.injEq] at *; simp [h1]
          rw [if_pos h1, if_pos h1]
          unfold andC andV
          have f3 : ¬ (x.a = -2 ∨ x.a = x.b) := by omega
          rw [if_neg f3, if_neg f3, if_neg f1, if_neg f1, ex]
          exact ⟨hput, hpv⟩
        · have e3 : ¬ x.op = 3 := by omega
          have ex : (⟨4, x.a, x.b⟩ : Ins) = x := by cases x; simp only [Ins.mk.injEq] at *; simp [h1]
          rw [if_neg e3, if_neg e3]
          unfold xorC xorV
          rw [if_neg f0, if_neg f0, if_neg f2, if_neg f2, if_neg f1, if_neg f1, ex]
          exact ⟨hput, hpv⟩
    rw [key.1, key.2, ← Nat.add_assoc, upToI_succ]
def constV (z o : Bool) : List Int := (if z then [-2] else []) ++ (if o then [-1] else [])
theorem red_fix_const {N : Nat} {o : List Ins} (H : CInv N o) (z1 z2 : Bool) : redS N (o ++ constL z1 z2) = (o, upToI (N + o.length) ++ constV z1 z2) := by
  have h := red_fix H o.length (Nat.le_refl _)
  rw [List.take_length] at h
  have hz : ∀ c vs, stC N c vs ⟨1, 0, 0⟩ = c ∧ stV N c vs ⟨1, 0, 0⟩ = -2 := fun c vs => ⟨rfl, rfl⟩
  have ho : ∀ c vs, stC N c vs ⟨2, 0, 0⟩ = c ∧ stV N c vs ⟨2, 0, 0⟩ = -1 := fun c vs => ⟨rfl, rfl⟩
  cases z1 <;> cases z2
  · simp [constL, constV, h]
  · rw [show constL false true = [⟨2, 0, 0⟩] from rfl, redS_snoc, h]
    simp [(ho _ _).1, (ho _ _).2, constV]
  · rw [show constL true false = [⟨1, 0, 0⟩] from rfl, redS_snoc, h]
    simp [(hz _ _).1, (hz _ _).2, constV]
  · rw [show constL true true = [⟨1, 0, 0⟩] ++ [⟨2, 0, 0⟩] from rfl, ← List.append_assoc, redS_snoc, redS_snoc, h]
    simp [(ho _ _).1, (ho _ _).2, (hz _ _).1, (hz _ _).2, constV]
/-- The value of an output of the reduced program. -/
theorem again_at {N m : Nat} {z1 z2 : Bool} {pl : Nat → Int} {v : Int} (h2 : v = -2 → z1 = true) (h1 : v = -1 → z2 = true) (h0 : v ≠ -2 → v ≠ -1 → 0 ≤ pl v.toNat ∧ pl v.toNat < ((N + m : Nat) : Int)) :
    (upToI (N + m) ++ constV z1 z2).getD (outV N m z1 pl v).toNat 0 = if v = -2 then -2 else if v = -1 then -1 else pl v.toNat := by
  unfold outV
  by_cases v2 : v = -2
  · rw [if_pos v2, if_pos v2, Int.toNat_natCast, List.getD_eq_getElem?_getD, List.getElem?_append_right (by rw [upToI_len]; omega), upToI_len, h2 v2]
    simp [constV]
  · rw [if_neg v2, if_neg v2]
    by_cases v1 : v = -1
    · rw [if_pos v1, if_pos v1, Int.toNat_natCast, List.getD_eq_getElem?_getD, List.getElem?_append_right (by rw [upToI_len]; omega), upToI_len, h1 v1]
      cases z1 <;> simp [constV]
    · rw [if_neg v1, if_neg v1]
      obtain ⟨a, b⟩ := h0 v2 v1
      rw [List.getD_eq_getElem?_getD, List.getElem?_append_left (by rw [upToI_len]; omega), ← List.getD_eq_getElem?_getD, upToI_get (by omega)]
      omega
theorem pack_fix {N : Nat} {o : List Ins} {nd : Nat → Bool} (H : CInv N o) (hn : ∀ t, t < o.length → nd (N + t) = true) (i : Nat) (hi : i ≤ o.length) : (packS N o nd i).1 = o.take i ∧ ∀ j, j < N + i → (packS N o nd i).2 j = (j : Int) := by
  induction i with
  | zero => exact ⟨by simp [packS], fun j hj => by simp only [packS]; rw [if_pos (by omega)]⟩
  | succ i ih =>
    obtain ⟨h1, h2⟩ := ih (by omega)
    obtain ⟨x, hx⟩ := some_of_lt (l := o) (k := i) (by omega)
    have hk := H.ok i x hx
    have hlt := hk.lt
    have hmv : moved (packS N o nd i).2 x = x := by
      unfold moved
      rw [h2 _ hlt.1, h2 _ hlt.2]
      rcases hk with ⟨o1, o2, o3, o4, _⟩ | ⟨o1, o2, o3, o4⟩
      · rw [two_not o1]
        cases x
        simp only [Ins.mk.injEq] at *
        refine ⟨trivial, by omega, by simp⟩
      · rw [two_of o1]
        cases x
        simp only [Ins.mk.injEq] at *
        refine ⟨trivial, by omega, ?_⟩
        simp only [if_true]; omega
    rw [packS, if_pos (hn i (by omega)), getD_of hx, hmv, h1, take_snoc hx]
    refine ⟨rfl, fun j hj => ?_⟩
    show plU _ _ _ j = _
    by_cases e : j = N + i
    · subst e
      rw [plU_eq, List.length_take]
      congr 2
      omega
    · rw [plU_ne e]; exact h2 j (by omega)
theorem red_idem {N : Nat} {c : List Ins} {outs : List Int} (h : pcodeErr N c = 0) (ho : ∀ k ∈ outs, 0 ≤ k ∧ k < (N : Int) + c.length) :
    redC N (redC N c outs) (redO N c outs) = redC N c outs ∧ redO N (redC N c outs) (redO N c outs) = redO N c outs := by
  have F := red_facts h ho
  have P := pack_inv F.inv (ndAll N (redS N c).1 (redS N c).2 outs) _ (Nat.le_refl _)
  have K := pack_ok F.inv F.closed
  have hpr := fun j hj => pl_range (j := j) P hj
  have hz := fun k hk h => hasV_of (vs := (redS N c).2) (outs := outs) (k := k) (v := -2) hk h
  have hw := fun k hk h => hasV_of (vs := (redS N c).2) (outs := outs) (k := k) (v := -1) hk h
  have hmin := fun j h => nd_min (N := N) (c := (redS N c).1) (nd := nd0 (redS N c).2 outs) (j := j) _ (Nat.le_refl _) h
  obtain ⟨hinv, _, hvals, hclosed, hlive⟩ := F
  have hzz : hasV (redS N c).2 outs (-2) = true → ∃ k ∈ outs, (redS N c).2.getD k.toNat 0 = -2 := fun h => by
    unfold hasV at h; rw [List.any_eq_true] at h; obtain ⟨k, hk, h⟩ := h; exact ⟨k, hk, by simpa using h⟩
  have hww : hasV (redS N c).2 outs (-1) = true → ∃ k ∈ outs, (redS N c).2.getD k.toNat 0 = -1 := fun h => by
    unfold hasV at h; rw [List.any_eq_true] at h; obtain ⟨k, hk, h⟩ := h; exact ⟨k, hk, by simpa using h⟩
  have hnd0 : ∀ j, nd0 (redS N c).2 outs j = true → ∃ k ∈ outs, (redS N c).2.getD k.toNat 0 = (j : Int) := fun j h => by
    unfold nd0 at h; rw [List.any_eq_true] at h; obtain ⟨k, hk, h⟩ := h; exact ⟨k, hk, by simpa using h⟩
  have eC : redC N c outs = (packS N (redS N c).1 (ndAll N (redS N c).1 (redS N c).2 outs) (redS N c).1.length).1 ++ constL (hasV (redS N c).2 outs (-2)) (hasV (redS N c).2 outs (-1)) := rfl
  have eO : redO N c outs = outs.map fun k => outV N (packS N (redS N c).1 (ndAll N (redS N c).1 (redS N c).2 outs) (redS N c).1.length).1.length (hasV (redS N c).2 outs (-2)) (packS N (redS N c).1 (ndAll N (redS N c).1 (redS N c).2 outs) (redS N c).1.length).2 ((redS N c).2.getD k.toNat 0) := rfl
  generalize redC N c outs = C' at *
  generalize redO N c outs = O' at *
  have hmin : ∀ j, ndAll N (redS N c).1 (redS N c).2 outs j = true → nd0 (redS N c).2 outs j = true ∨ ∃ i x, i < (redS N c).1.length ∧ (redS N c).1[i]? = some x ∧ ndAll N (redS N c).1 (redS N c).2 outs (N + i) = true ∧ usesB x j = true := hmin
  generalize ndAll N (redS N c).1 (redS N c).2 outs = nd at *
  generalize hasV (redS N c).2 outs (-2) = z1 at *
  generalize hasV (redS N c).2 outs (-1) = z2 at *
  obtain ⟨cc, hcc⟩ : ∃ cc, (redS N c).1 = cc := ⟨_, rfl⟩
  obtain ⟨vs, hvs⟩ : ∃ vs, (redS N c).2 = vs := ⟨_, rfl⟩
  simp only [hcc, hvs] at hinv hvals hclosed hlive P K hpr hz hw hmin hzz hww hnd0 eC eO
  clear hcc hvs
  obtain ⟨o, hoo⟩ : ∃ o, (packS N cc nd cc.length).1 = o := ⟨_, rfl⟩
  obtain ⟨pl, hpl⟩ : ∃ pl, (packS N cc nd cc.length).2 = pl := ⟨_, rfl⟩
  have hmono := fun j j' h h' hlt => pl_mono (j := j) (j' := j') P h h' hlt
  obtain ⟨_, p2, p3, _, p5, _, _⟩ := P
  simp only [hoo, hpl] at K hpr eC eO p2 p3 p5 hmono
  clear hoo hpl
  have hfix := red_fix_const K z1 z2
  have hat : ∀ k ∈ outs, (upToI (N + o.length) ++ constV z1 z2).getD (outV N o.length z1 pl (vs.getD k.toNat 0)).toNat 0 = if vs.getD k.toNat 0 = -2 then -2 else if vs.getD k.toNat 0 = -1 then -1 else pl (vs.getD k.toNat 0).toNat := fun k hk =>
    again_at (hz k hk) (hw k hk) (fun h2 h1 => hpr _ (hlive k hk (by have := hvals k hk; omega)))
  -- all of the new instructions are needed
  have hneed : ∀ d j, cc.length - j ≤ d → j < cc.length → nd (N + j) = true → ndAll N o (upToI (N + o.length) ++ constV z1 z2) O' (pl (N + j)).toNat = true := by
    intro d
    induction d with
    | zero => intro j h1 h2; omega
    | succ d ih =>
      intro j h1 h2 h3
      have hL : Live N cc nd (N + j) := .inr ⟨by omega, h3⟩
      have hr := hpr _ hL
      rcases hmin _ h3 with h4 | ⟨i, x, hi, hx, hn, hu⟩
      · obtain ⟨k, hk, hkv⟩ := hnd0 _ h4
        refine nd_mono _ _ _ ?_
        refine nd0_of (k := outV N o.length z1 pl (vs.getD k.toNat 0)) ?_ ?_
        · rw [eO]; exact List.mem_map_of_mem hk
        · rw [hat k hk, hkv, if_neg (by omega), if_neg (by omega), Int.toNat_natCast]; omega
      · have hk := hinv.ok i x hx
        have hlt := hk.uses_lt hu
        have hI := ih i (by omega) hi hn
        obtain ⟨t, t1, t2, t3⟩ := p3 i x hi hx hn
        rw [t2, Int.toNat_natCast] at hI
        refine nd_closed K o.length (Nat.le_refl _) t1 t3 hI ?_
        unfold usesB at hu ⊢
        simp only [Bool.or_eq_true, Bool.and_eq_true, decide_eq_true_eq] at hu ⊢
        rcases hu with hu | ⟨hu1, hu2⟩
        · left
          show pl x.a.toNat = _
          rw [hu, Int.toNat_natCast]; omega
        · right
          refine ⟨hu1, ?_⟩
          show (if twoB x.op then pl x.b.toNat else x.b) = _
          rw [hu1, if_pos rfl, hu2, Int.toNat_natCast]; omega
  have hall : ∀ t, t < o.length → ndAll N o (upToI (N + o.length) ++ constV z1 z2) O' (N + t) = true := by
    intro t ht
    obtain ⟨m, m1, m2, m3⟩ := p5 t ht
    have := hneed _ m (Nat.le_refl _) m1 m2
    rw [m3, Int.toNat_natCast] at this
    exact this
  obtain ⟨f1, f2⟩ := pack_fix K hall o.length (Nat.le_refl _)
  rw [List.take_length] at f1
  have hz2 : hasV (upToI (N + o.length) ++ constV z1 z2) O' (-2) = z1 := by
    rw [Bool.eq_iff_iff]
    constructor
    · intro h
      unfold hasV at h
      rw [List.any_eq_true] at h
      obtain ⟨k', hk', h⟩ := h
      rw [eO] at hk'
      obtain ⟨k, hk, rfl⟩ := List.mem_map.1 hk'
      have hv := hat k hk
      have h := of_decide_eq_true h
      rw [hv] at h
      by_cases v2 : vs.getD k.toNat 0 = -2
      · exact hz k hk v2
      · rw [if_neg v2] at h
        by_cases v1 : vs.getD k.toNat 0 = -1
        · rw [if_pos v1] at h; cases h
        · rw [if_neg v1] at h
          have := hpr _ (hlive k hk (by have := hvals k hk; omega))
          omega
    · intro h
      obtain ⟨k, hk, hkv⟩ := hzz h
      refine hasV_of (k := outV N o.length z1 pl (vs.getD k.toNat 0)) ?_ ?_
      · rw [eO]; exact List.mem_map_of_mem hk
      · rw [hat k hk, hkv, if_pos rfl]
  have hw2 : hasV (upToI (N + o.length) ++ constV z1 z2) O' (-1) = z2 := by
    rw [Bool.eq_iff_iff]
    constructor
    · intro h
      unfold hasV at h
      rw [List.any_eq_true] at h
      obtain ⟨k', hk', h⟩ := h
      rw [eO] at hk'
      obtain ⟨k, hk, rfl⟩ := List.mem_map.1 hk'
      have hv := hat k hk
      have h := of_decide_eq_true h
      rw [hv] at h
      by_cases v2 : vs.getD k.toNat 0 = -2
      · rw [if_pos v2] at h; cases h
      · rw [if_neg v2] at h
        by_cases v1 : vs.getD k.toNat 0 = -1
        · exact hw k hk v1
        · rw [if_neg v1] at h
          have := hpr _ (hlive k hk (by have := hvals k hk; omega))
          omega
    · intro h
      obtain ⟨k, hk, hkv⟩ := hww h
      refine hasV_of (k := outV N o.length z1 pl (vs.getD k.toNat 0)) ?_ ?_
      · rw [eO]; exact List.mem_map_of_mem hk
      · rw [hat k hk, hkv, if_neg (by omega), if_pos rfl]
  constructor
  · show (packS N (redS N C').1 (ndAll N (redS N C').1 (redS N C').2 O') (redS N C').1.length).1 ++ constL (hasV (redS N C').2 O' (-2)) (hasV (redS N C').2 O' (-1)) = C'
    rw [eC, hfix]
    simp only
    rw [f1, hz2, hw2]
  · show (O'.map fun k => outV N (packS N (redS N C').1 (ndAll N (redS N C').1 (redS N C').2 O') (redS N C').1.length).1.length (hasV (redS N C').2 O' (-2)) (packS N (redS N C').1 (ndAll N (redS N C').1 (redS N C').2 O') (redS N C').1.length).2 ((redS N C').2.getD k.toNat 0)) = O'
    rw [eC, hfix]
    simp only
    rw [f1, hz2]
    conv => rhs; rw [eO]
    conv => lhs; arg 2; rw [eO]
    rw [List.map_map]
    refine List.map_congr_left fun k hk => ?_
    simp only [Function.comp]
    rw [hat k hk]
    by_cases v2 : vs.getD k.toNat 0 = -2
    · rw [if_pos v2]; unfold outV; rw [if_pos rfl, if_pos v2]
    · rw [if_neg v2]
      by_cases v1 : vs.getD k.toNat 0 = -1
      · rw [if_pos v1]; unfold outV; rw [if_neg (by omega), if_pos rfl, if_neg v2, if_pos v1]
      · rw [if_neg v1]
        have hr := hpr _ (hlive k hk (by have := hvals k hk; omega))
        unfold outV
        rw [if_neg (by omega), if_neg (by omega), if_neg v2, if_neg v1, f2 _ (by omega)]
        omega
end Go.Proofs.YtcdfghogmdhfcaaGreatDoor
