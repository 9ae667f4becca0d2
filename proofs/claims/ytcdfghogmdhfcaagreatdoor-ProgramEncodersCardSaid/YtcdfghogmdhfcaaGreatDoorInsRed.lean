/-
  Reducing, as plain functions: the new program is well formed, and computes the same.
  No condition.
-/
import Derived.Test.YtcdfghogmdhfcaaGreatDoorInsLaw
namespace Go.Proofs.YtcdfghogmdhfcaaGreatDoor
open Go.RowKit
set_option linter.unusedVariables false

/-- The i-th instruction of a reduced program. -/
def OkI (N : Nat) (c : List Ins) (i : Nat) (x : Ins) : Prop :=
  (x.op = 5 ∧ 0 ≤ x.a ∧ x.a < ((N + i : Nat) : Int) ∧ x.b = 0 ∧ ∀ (m : Nat) y, c[m]? = some y → x.a = ((N + m : Nat) : Int) → y.op ≠ 5) ∨
  ((x.op = 3 ∨ x.op = 4) ∧ 0 ≤ x.a ∧ x.a < x.b ∧ x.b < ((N + i : Nat) : Int))
structure CInv (N : Nat) (c : List Ins) : Prop where
  ok : ∀ (i : Nat) x, c[i]? = some x → OkI N c i x
  nodup : c.Nodup
theorem OkI.bound {N : Nat} {c : List Ins} {i : Nat} {x : Ins} (h : OkI N c i x) : 0 ≤ x.a ∧ x.a.toNat < N + i ∧ x.b.toNat < N + i ∨ (N + i = 0) := by
  rcases h with ⟨_, h1, h2, h3, _⟩ | ⟨_, h1, h2, h3⟩ <;> omega
theorem OkI.lt {N : Nat} {c : List Ins} {i : Nat} {x : Ins} (h : OkI N c i x) : x.a.toNat < N + i ∧ x.b.toNat < N + i := by
  rcases h with ⟨_, h1, h2, h3, _⟩ | ⟨_, h1, h2, h3⟩ <;> omega
theorem CInv.nil (N : Nat) : CInv N [] := ⟨fun i x h => by simp at h, List.nodup_nil⟩
theorem CInv.snoc {N : Nat} {c : List Ins} {x : Ins} (h : CInv N c) (hx : OkI N c c.length x) (hn : x ∉ c) : CInv N (c ++ [x]) := by
  refine ⟨fun i y hy => ?_, ?_⟩
  · have key : ∀ z, OkI N c i z → i ≤ c.length → OkI N (c ++ [x]) i z := by
      intro z hz hi
      rcases hz with ⟨h1, h2, h3, h4, h5⟩ | h2
      · refine .inl ⟨h1, h2, h3, h4, fun m y hm ha => h5 m y ?_ ha⟩
        have : m < c.length := by omega
        rwa [List.getElem?_append_left this] at hm
      · exact .inr h2
    by_cases hi : i < c.length
    · rw [List.getElem?_append_left hi] at hy
      exact key y (h.ok i y hy) (by omega)
    · have hi2 : i = c.length := by
        have := lt_of_some hy
        simp at this
        omega
      subst hi2
      simp at hy
      subst hy
      exact key x hx (Nat.le_refl _)
  · rw [List.nodup_append]
    refine ⟨h.nodup, by simp, fun a ha b hb => ?_⟩
    simp at hb
    subst hb
    exact fun e => hn (e ▸ ha)
/-- A value: 0, 1, or a bit of the new program. -/
def semV (l : List Bool) (c : List Ins) (v : Int) : Bool := if v = -2 then false else if v = -1 then true else (pvals l c).getD v.toNat false
theorem semV_two (l : List Bool) (c : List Ins) : semV l c (-2) = false := by simp [semV]
theorem semV_one (l : List Bool) (c : List Ins) : semV l c (-1) = true := by simp [semV]
theorem semV_nat {l : List Bool} {c : List Ins} {v : Int} (h : 0 ≤ v) : semV l c v = (pvals l c).getD v.toNat false := by
  rw [semV, if_neg (by omega), if_neg (by omega)]
theorem semV_snoc {N : Nat} {l : List Bool} {c : List Ins} {x : Ins} (hl : l.length = N) {v : Int} (h1 : -2 ≤ v) (h2 : v < ((N + c.length : Nat) : Int)) : semV l (c ++ [x]) v = semV l c v := by
  unfold semV
  split
  · rfl
  · split
    · rfl
    · rw [pvals_snoc, getD_prefix (List.prefix_append _ _)]
      rw [pvals_len]
      omega
/-- What a step makes of code c: code c', with the value v. -/
structure Made (N : Nat) (l : List Bool) (c c' : List Ins) (v : Int) (val : Bool) : Prop where
  inv : CInv N c'
  lo : -2 ≤ v
  hi : v < ((N + c'.length : Nat) : Int)
  same : ∀ u : Int, -2 ≤ u → u < ((N + c.length : Nat) : Int) → semV l c' u = semV l c u
  sem : semV l c' v = val
  grow : c.length ≤ c'.length
  most : c'.length ≤ c.length + 1
theorem Made.still {N : Nat} {l : List Bool} {c : List Ins} {v : Int} {val : Bool} (h : CInv N c) (h1 : -2 ≤ v) (h2 : v < ((N + c.length : Nat) : Int)) (h3 : semV l c v = val) : Made N l c c v val :=
  ⟨h, h1, h2, fun _ _ _ => rfl, h3, Nat.le_refl _, by omega⟩
theorem put_made {N : Nat} {l : List Bool} {c : List Ins} {x : Ins} (hl : l.length = N) (h : CInv N c) (hx : OkI N c c.length x) : Made N l c (putC c x) (putV N c x) (opB x.op (semV l c x.a) (semV l c x.b)) := by
  have hb : 0 ≤ x.a ∧ 0 ≤ x.b := by rcases hx with ⟨_, h1, h2, h3, _⟩ | ⟨_, h1, h2, h3⟩ <;> omega
  by_cases hm : x ∈ c
  · have hi : c.idxOf x < c.length := List.idxOf_lt_length_of_mem hm
    have hg : c[c.idxOf x]? = some x := by rw [List.getElem?_eq_getElem hi]; simp
    have hlt := (h.ok _ _ hg).lt
    rw [putC, if_pos hm]
    refine Made.still h (by unfold putV; omega) (by unfold putV; omega) ?_
    rw [semV_nat (by unfold putV; omega), semV_nat hb.1, semV_nat hb.2]
    unfold putV
    rw [Int.toNat_natCast]
    subst hl
    exact pvals_at hg hlt.1 hlt.2
  · have hi : c.idxOf x = c.length := List.idxOf_eq_length hm
    rw [putC, if_neg hm]
    have hlt := hx.lt
    refine ⟨h.snoc hx hm, by unfold putV; omega, by unfold putV; rw [hi]; simp; omega, fun u h0 hu => semV_snoc hl h0 hu, ?_, by simp, by simp⟩
    rw [semV_nat (by unfold putV; omega), semV_nat hb.1, semV_nat hb.2]
    unfold putV
    rw [Int.toNat_natCast, hi]
    subst hl
    have hg : (c ++ [x])[c.length]? = some x := by simp
    rw [pvals_at hg hlt.1 hlt.2, pvals_snoc, getD_prefix (List.prefix_append _ _) (by rw [pvals_len]; exact hlt.1), getD_prefix (List.prefix_append _ _) (by rw [pvals_len]; exact hlt.2)]
theorem opB_not (a b : Bool) : opB 5 a b = !a := by simp [opB]
theorem opB_and (a b : Bool) : opB 3 a b = (a && b) := by simp [opB]
theorem opB_xor (a b : Bool) : opB 4 a b = (a != b) := by simp [opB]
theorem not_made {N : Nat} {l : List Bool} {c : List Ins} {a : Int} (hl : l.length = N) (h : CInv N c) (h1 : -2 ≤ a) (h2 : a < ((N + c.length : Nat) : Int)) : Made N l c (notC N c a) (notV N c a) (!semV l c a) := by
  unfold notC notV
  by_cases a2 : a = -2
  · rw [if_pos a2, if_pos a2]
    exact Made.still h (by omega) (by omega) (by rw [a2, semV_one, semV_two]; rfl)
  · rw [if_neg a2, if_neg a2]
    by_cases a1 : a = -1
    · rw [if_pos a1, if_pos a1]
      exact Made.still h (by omega) (by omega) (by rw [a1, semV_one, semV_two]; rfl)
    · rw [if_neg a1, if_neg a1]
      by_cases a5 : (N : Int) ≤ a ∧ (c.getD (a - N).toNat default).op = 5
      · rw [if_pos a5, if_pos a5]
        obtain ⟨a6, a7⟩ := a5
        have hi : (a - N).toNat < c.length := by omega
        obtain ⟨x, hx⟩ := some_of_lt hi
        have hgd : c.getD (a - N).toNat default = x := by rw [List.getD_eq_getElem?_getD, hx]; rfl
        rw [hgd] at a7 ⊢
        have hok := h.ok _ _ hx
        have hlt := hok.lt
        rcases hok with ⟨o1, o2, o3, o4, o5⟩ | ⟨o1, _⟩
        · refine Made.still h (by omega) (by omega) ?_
          rw [semV_nat o2, semV_nat (v := a) (by omega)]
          have hat : a.toNat = l.length + (a - N).toNat := by omega
          subst hl
          rw [hat, pvals_at hx hlt.1 hlt.2, a7, opB_not]
          simp
        · omega
      · rw [if_neg a5, if_neg a5]
        have hm := put_made (x := ⟨5, a, 0⟩) hl h (.inl ⟨rfl, by show 0 ≤ a; omega, h2, rfl, fun m y hy ha hop => a5 ⟨by simp only at ha; omega, by
          have : (a - N).toNat = m := by simp only at ha; omega
          rw [this, List.getD_eq_getElem?_getD, hy]; exact hop⟩⟩)
        rw [show opB (Ins.mk 5 a 0).op (semV l c (Ins.mk 5 a 0).a) (semV l c (Ins.mk 5 a 0).b) = !semV l c a from opB_not _ _] at hm
        exact hm
theorem and_made {N : Nat} {l : List Bool} {c : List Ins} {a b : Int} (hl : l.length = N) (h : CInv N c) (h1 : -2 ≤ a) (hab : a ≤ b) (h2 : b < ((N + c.length : Nat) : Int)) : Made N l c (andC N c a b) (andV N c a b) (semV l c a && semV l c b) := by
  unfold andC andV
  by_cases a2 : a = -2 ∨ a = b
  · rw [if_pos a2, if_pos a2]
    refine Made.still h (by omega) (by omega) ?_
    rcases a2 with a2 | a2
    · rw [a2, semV_two]; rfl
    · rw [← a2]; simp
  · rw [if_neg a2, if_neg a2]
    by_cases a1 : a = -1
    · rw [if_pos a1, if_pos a1]
      exact Made.still h (by omega) (by omega) (by rw [a1, semV_one]; rfl)
    · rw [if_neg a1, if_neg a1]
      have hm := put_made (x := ⟨3, a, b⟩) hl h (.inr ⟨.inl rfl, by show 0 ≤ a; omega, by show a < b; omega, h2⟩)
      rw [show opB (Ins.mk 3 a b).op (semV l c (Ins.mk 3 a b).a) (semV l c (Ins.mk 3 a b).b) = (semV l c a && semV l c b) from opB_and _ _] at hm
      exact hm
theorem xor_made {N : Nat} {l : List Bool} {c : List Ins} {a b : Int} (hl : l.length = N) (h : CInv N c) (h1 : -2 ≤ a) (hab : a ≤ b) (h2 : b < ((N + c.length : Nat) : Int)) : Made N l c (xorC N c a b) (xorV N c a b) (semV l c a != semV l c b) := by
  unfold xorC xorV
  by_cases a0 : a = b
  · rw [if_pos a0, if_pos a0]
    exact Made.still h (by omega) (by omega) (by rw [a0, semV_two]; simp)
  · rw [if_neg a0, if_neg a0]
    by_cases a2 : a = -2
    · rw [if_pos a2, if_pos a2]
      exact Made.still h (by omega) (by omega) (by rw [a2, semV_two]; simp)
    · rw [if_neg a2, if_neg a2]
      by_cases a1 : a = -1
      · rw [if_pos a1, if_pos a1]
        have hm := not_made hl h (show -2 ≤ b by omega) h2
        rw [show (semV l c a != semV l c b) = !semV l c b by rw [a1, semV_one]; simp]
        exact hm
      · rw [if_neg a1, if_neg a1]
        have hm := put_made (x := ⟨4, a, b⟩) hl h (.inr ⟨.inr rfl, by show 0 ≤ a; omega, by show a < b; omega, h2⟩)
        rw [show opB (Ins.mk 4 a b).op (semV l c (Ins.mk 4 a b).a) (semV l c (Ins.mk 4 a b).b) = (semV l c a != semV l c b) from opB_xor _ _] at hm
        exact hm
theorem minZ_le (a b : Int) : minZ a b ≤ maxZ a b := by unfold minZ maxZ; split <;> split <;> omega
theorem minZ_or (a b : Int) : (minZ a b = a ∧ maxZ a b = b) ∨ (minZ a b = b ∧ maxZ a b = a) := by unfold minZ maxZ; split <;> split <;> omega

/-- What holds behind so many instructions. -/
structure RInv (N : Nat) (l : List Bool) (c : List Ins) : Prop where
  inv : CInv N (redS N c).1
  rng : ∀ v ∈ (redS N c).2, -2 ≤ v ∧ v < ((N + (redS N c).1.length : Nat) : Int)
  sem : ∀ j, j < N + c.length → semV l (redS N c).1 ((redS N c).2.getD j 0) = (pvals l c).getD j false
  most : (redS N c).1.length ≤ c.length
theorem getD_mem {vs : List Int} {j : Nat} (h : j < vs.length) : vs.getD j 0 ∈ vs := by
  rw [List.getD_eq_getElem?_getD, List.getElem?_eq_getElem h]; exact List.getElem_mem _
theorem getD_snoc_lt {α : Type} {vs : List α} {x d : α} {j : Nat} (h : j < vs.length) : (vs ++ [x]).getD j d = vs.getD j d := by
  rw [List.getD_eq_getElem?_getD, List.getD_eq_getElem?_getD, List.getElem?_append_left h]
theorem getD_snoc_eq {α : Type} {vs : List α} {x d : α} {j : Nat} (h : j = vs.length) : (vs ++ [x]).getD j d = x := by
  subst h
  simp
theorem st_made {N : Nat} {l : List Bool} {c : List Ins} {vs : List Int} {x : Ins} {n : Int} (hl : l.length = N) (h : CInv N c) (hr : ∀ v ∈ vs, -2 ≤ v ∧ v < ((N + c.length : Nat) : Int)) (hn : n = vs.length) (hx : insErr n x = 0) :
    Made N l c (stC N c vs x) (stV N c vs x) (opB x.op (semV l c (vs.getD x.a.toNat 0)) (semV l c (vs.getD x.b.toNat 0))) := by
  unfold stC stV
  rcases insErr_zero.1 hx with ⟨h1 | h1, h2, h3⟩ | ⟨h1, h2, h3, h4⟩ | ⟨h1, h2, h3, h4, h5⟩
  · rw [if_pos h1, if_pos h1]
    exact Made.still h (by omega) (by omega) (by rw [semV_two, h1]; simp [opB])
  · have e1 : ¬ x.op = 1 := by omega
    rw [if_neg e1, if_neg e1, if_pos h1, if_pos h1]
    exact Made.still h (by omega) (by omega) (by rw [semV_one, h1]; simp [opB])
  · have e1 : ¬ x.op = 1 := by omega
    have e2 : ¬ x.op = 2 := by omega
    rw [if_neg e1, if_neg e1, if_neg e2, if_neg e2, if_pos h1, if_pos h1, h1, opB_not]
    obtain ⟨r1, r2⟩ := hr _ (getD_mem (vs := vs) (j := x.a.toNat) (by omega))
    exact not_made hl h r1 r2
  · have e1 : ¬ x.op = 1 := by omega
    have e2 : ¬ x.op = 2 := by omega
    have e5 : ¬ x.op = 5 := by omega
    obtain ⟨r1, r2⟩ := hr _ (getD_mem (vs := vs) (j := x.a.toNat) (by omega))
    obtain ⟨s1, s2⟩ := hr _ (getD_mem (vs := vs) (j := x.b.toNat) (by omega))
    generalize vs.getD x.a.toNat 0 = A at *
    generalize vs.getD x.b.toNat 0 = B at *
    have hle := minZ_le A B
    have hor := minZ_or A B
    rw [if_neg e1, if_neg e1, if_neg e2, if_neg e2, if_neg e5, if_neg e5]
    rcases h1 with h1 | h1
    · rw [if_pos h1, if_pos h1, h1, opB_and]
      have hm := and_made (a := minZ A B) (b := maxZ A B) hl h (by omega) hle (by omega)
      rcases hor with ⟨e1, e2⟩ | ⟨e1, e2⟩
      · rw [e1, e2] at hm ⊢; exact hm
      · rw [e1, e2] at hm ⊢; rw [Bool.and_comm]; exact hm
    · have e3 : ¬ x.op = 3 := by omega
      rw [if_neg e3, if_neg e3, h1, opB_xor]
      have hm := xor_made (a := minZ A B) (b := maxZ A B) hl h (by omega) hle (by omega)
      rcases hor with ⟨e1, e2⟩ | ⟨e1, e2⟩
      · rw [e1, e2] at hm ⊢; exact hm
      · rw [e1, e2] at hm ⊢
        rw [show (semV l c A != semV l c B) = (semV l c B != semV l c A) by cases semV l c A <;> cases semV l c B <;> rfl]
        exact hm
theorem pcodeErr_snoc {c : List Ins} {x : Ins} {n : Int} (h : pcodeErr n (c ++ [x]) = 0) : pcodeErr n c = 0 ∧ insErr (n + c.length) x = 0 := by
  rw [pcodeErr_at] at h ⊢
  refine ⟨fun i y hy => h i y ?_, h c.length x (by simp)⟩
  rw [List.getElem?_append_left (lt_of_some hy)]
  exact hy
theorem upToI_mem {n : Nat} {v : Int} (h : v ∈ upToI n) : 0 ≤ v ∧ v < n := by
  simp only [upToI, List.mem_map, List.mem_range] at h
  obtain ⟨k, hk, rfl⟩ := h
  omega
theorem red_inv {N : Nat} {l : List Bool} {c : List Ins} (hl : l.length = N) (h : pcodeErr N c = 0) : RInv N l c := by
  induction c using snoc_ind with
  | h0 =>
    refine ⟨CInv.nil N, fun v hv => ?_, fun j hj => ?_, Nat.le_refl _⟩
    · have := upToI_mem hv
      simp only [redS, List.foldl_nil, List.length_nil]
      omega
    · simp only [redS, List.foldl_nil, List.length_nil, Nat.add_zero] at hj ⊢
      rw [upToI_get hj, semV_nat (by omega)]
      rfl
  | h1 c x ih =>
    obtain ⟨h1, h2⟩ := pcodeErr_snoc h
    have H := ih h1
    have hlen := redS_len N c
    have M := st_made (n := (N : Int) + (c.length : Int)) hl H.inv H.rng (by rw [hlen]; omega) h2
    have hx := insErr_zero.1 h2
    have hxa : x.a.toNat < N + c.length ∨ x.op = 1 ∨ x.op = 2 := by omega
    have hxb : x.b.toNat < N + c.length ∨ x.op = 1 ∨ x.op = 2 ∨ x.op = 5 := by omega
    have hval : opB x.op (semV l (redS N c).1 ((redS N c).2.getD x.a.toNat 0)) (semV l (redS N c).1 ((redS N c).2.getD x.b.toNat 0)) = opB x.op ((pvals l c).getD x.a.toNat false) ((pvals l c).getD x.b.toNat false) := by
      rcases hxb with hb | hb | hb | hb
      · rcases hxa with ha | ha | ha
        · rw [H.sem _ ha, H.sem _ hb]
        · rw [ha]; simp [opB]
        · rw [ha]; simp [opB]
      · rw [hb]; simp [opB]
      · rw [hb]; simp [opB]
      · rcases hxa with ha | ha | ha
        · rw [H.sem _ ha, hb, opB_not, opB_not]
        · rw [ha]; simp [opB]
        · rw [ha]; simp [opB]
    rw [hval] at M
    refine ⟨?_, ?_, ?_, ?_⟩
    · rw [redS_snoc]; exact M.inv
    · rw [redS_snoc]
      intro v hv
      rw [List.mem_append, List.mem_singleton] at hv
      have := M.grow
      rcases hv with hv | rfl
      · have := H.rng v hv; show -2 ≤ v ∧ v < ((N + (stC N (redS N c).1 (redS N c).2 x).length : Nat) : Int); omega
      · exact ⟨M.lo, M.hi⟩
    · rw [redS_snoc]
      intro j hj
      simp only [List.length_append, List.length_cons, List.length_nil] at hj
      rw [pvals_snoc]
      by_cases e : j = N + c.length
      · rw [getD_snoc_eq (by rw [hlen]; exact e), getD_snoc_eq (by rw [pvals_len, hl]; exact e)]
        exact M.sem
      · rw [getD_snoc_lt (by rw [hlen]; omega), getD_snoc_lt (by rw [pvals_len, hl]; omega), ← H.sem j (by omega)]
        exact M.same _ (H.rng _ (getD_mem (by rw [hlen]; omega))).1 (H.rng _ (getD_mem (by rw [hlen]; omega))).2
    · rw [redS_snoc]
      have := M.most
      have := H.most
      simp only [List.length_append, List.length_cons, List.length_nil]
      omega
end Go.Proofs.YtcdfghogmdhfcaaGreatDoor
