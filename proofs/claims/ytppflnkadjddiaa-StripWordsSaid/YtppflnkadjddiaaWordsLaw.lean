/-
  The graph of a strip, in plain words: it is valid; its words are the columns of rectangles that are allowed.
  No condition.
-/
import Derived.Test.YtppflnkadjddiaaRefGr
import Derived.Test.YtppflnkadjddiaaGraphKeep
import Derived.Test.YtppflnkadjddiaaLeaving
import Derived.Test.YtppflnkadjddiaaNeighLaw
namespace Go.Proofs.Ytppflnkadjddiaa
open Go.RowKit Go.Sort
set_option linter.unusedVariables false

theorem cmpZ_m1 {a b : Int} : cmpZ a b = -1 ↔ a < b := by unfold cmpZ; split <;> (try split) <;> omega
theorem cmpE_m1 (x y : Edge) : cmpE x y = -1 ↔ x.f < y.f ∨ (x.f = y.f ∧ (x.l < y.l ∨ (x.l = y.l ∧ x.t < y.t))) := by
  obtain ⟨a, b, c⟩ := x
  obtain ⟨d, e, f⟩ := y
  simp only [cmpE, Edge.nums, cmpL]
  by_cases h1 : cmpZ a d = 0
  · have e1 := cmpZ_zero.1 h1
    rw [if_pos h1]
    by_cases h2 : cmpZ b e = 0
    · have e2 := cmpZ_zero.1 h2
      rw [if_pos h2]
      by_cases h3 : cmpZ c f = 0
      · have e3 := cmpZ_zero.1 h3
        rw [if_pos h3]; omega
      · rw [if_neg h3, cmpZ_m1]; omega
    · have n2 : ¬ b = e := fun h => h2 (cmpZ_zero.2 h)
      rw [if_neg h2, cmpZ_m1]; omega
  · have n1 : ¬ a = d := fun h => h1 (cmpZ_zero.2 h)
    rw [if_neg h1, cmpZ_m1]; omega

theorem ess_fix (es : List Edge) (st : List Int) : rnd es (ess es st) = ess es st := by
  induction hn : st.length using Nat.strongRecOn generalizing st with
  | _ n ih =>
    by_cases h : (rnd es st).length < st.length
    · rw [ess_step h]
      exact ih _ (by omega) (rnd es st) rfl
    · rw [ess_done h]; exact rnd_same h
theorem ess_stays {es : List Edge} {st : List Int} {s : Int} (h : s ∈ ess es st) : stays es (ess es st) s = true := by
  have e := ess_fix es st
  rw [← e] at h
  unfold rnd at h
  exact (List.mem_filter.1 h).2
theorem posOf_get : ∀ {st : List Int} {p : Nat} {x : Int}, st.Pairwise (· < ·) → st[p]? = some x → posOf x st = p := by
  intro st
  induction st with
  | nil => intro p x _ h; simp at h
  | cons a t ih =>
    intro p x hs hx
    obtain ⟨ha, ht⟩ := List.pairwise_cons.1 hs
    cases p with
    | zero =>
      simp at hx
      subst hx
      rw [posOf, List.countP_cons, if_neg (by simp), Nat.add_zero, List.countP_eq_zero]
      intro y hy
      have := ha y hy
      simp; omega
    | succ p =>
      have hx' : t[p]? = some x := by simpa using hx
      have := ha x (List.mem_of_getElem? hx')
      have h1 := ih ht hx'
      rw [posOf] at h1 ⊢
      rw [List.countP_cons, if_pos (by simpa using this), h1]
theorem hasB_mem {st : List Int} {x : Int} : hasB st x = true ↔ x ∈ st := by simp [hasB]
theorem get_posOf {st : List Int} {x : Int} (hs : st.Pairwise (· < ·)) (h : hasB st x = true) : st[posOf x st]? = some x := by
  obtain ⟨p, hp⟩ := List.getElem?_of_mem (hasB_mem.1 h)
  rw [posOf_get hs hp]; exact hp
theorem posOf_lt {st : List Int} {x y : Int} (hs : st.Pairwise (· < ·)) (hx : hasB st x = true) (hy : hasB st y = true) (h : x < y) : posOf x st < posOf y st := by
  have h1 := get_posOf hs hx
  have h2 := get_posOf hs hy
  rcases Nat.lt_trichotomy (posOf x st) (posOf y st) with h3 | h3 | h3
  · exact h3
  · rw [h3, h2] at h1; simp at h1; omega
  · obtain ⟨k1, e1⟩ := List.getElem?_eq_some_iff.1 h1
    obtain ⟨k2, e2⟩ := List.getElem?_eq_some_iff.1 h2
    have := List.pairwise_iff_getElem.1 hs _ _ k2 k1 h3
    omega
theorem partE_mem {st : List Int} {es : List Edge} (hs : st.Pairwise (· < ·)) {y : Edge} (h : y ∈ partE st es) : ∃ x ∈ es, hasB st x.f = true ∧ hasB st x.t = true ∧ y = ⟨(posOf x.f st : Nat), x.l, (posOf x.t st : Nat)⟩ := by
  obtain ⟨x, hx, hy⟩ := List.mem_filterMap.1 h
  rw [part1_eq hs] at hy
  by_cases hc : hasB st x.f = true ∧ hasB st x.t = true
  · rw [if_pos hc] at hy
    exact ⟨x, hx, hc.1, hc.2, (Option.some.inj hy).symm⟩
  · rw [if_neg hc] at hy; cases hy
theorem partE_pairs {st : List Int} {es : List Edge} (hs : st.Pairwise (· < ·)) (hp : es.Pairwise (fun x y => cmpE x y = -1)) : (partE st es).Pairwise (fun x y => cmpE x y = -1) := by
  rw [partE, List.pairwise_filterMap]
  refine hp.imp fun {x y} h x' hx y' hy => ?_
  rw [part1_eq hs] at hx hy
  by_cases hc : hasB st x.f = true ∧ hasB st x.t = true
  · by_cases hd : hasB st y.f = true ∧ hasB st y.t = true
    · rw [if_pos hc] at hx
      rw [if_pos hd] at hy
      obtain rfl := Option.some.inj hx
      obtain rfl := Option.some.inj hy
      rw [cmpE_m1] at h ⊢
      simp only
      rcases h with h | ⟨h, h'⟩
      · have := posOf_lt hs hc.1 hd.1 h
        left; omega
      · rw [h]
        rcases h' with h' | ⟨h', h''⟩
        · right; exact ⟨rfl, .inl h'⟩
        · have := posOf_lt hs hc.2 hd.2 h''
          right; exact ⟨rfl, .inr ⟨h', by omega⟩⟩
    · rw [if_neg hd] at hy; cases hy
  · rw [if_neg hc] at hx; cases hx
theorem partE_fine {L S : Int} {st : List Int} {es : List Edge} (hF : GFine L S es) (hs : st.Pairwise (· < ·)) (hp : es.Pairwise (fun x y => cmpE x y = -1)) (hn : st.length ≤ 64) : GFine L st.length (partE st es) := by
  refine ⟨hF.l0, hF.l1, by omega, by omega, Nat.le_trans (partE_len st es) hF.len, ?_, asc_of_pairs (partE_pairs hs hp)⟩
  intro y hy
  obtain ⟨x, hx, h1, h2, rfl⟩ := partE_mem hs hy
  have k1 := lt_of_some (get_posOf hs h1)
  have k2 := lt_of_some (get_posOf hs h2)
  have m := hF.mem x hx
  refine ⟨?_, ?_, ?_, ?_, m.2.2.2.2.1, m.2.2.2.2.2⟩ <;> simp only <;> omega

/-! ### The strip's graph -/
theorem strS_asc (h : Int) (l : List Int) : (strS h l).Pairwise (· < ·) := (upTo_asc _).sublist (ess_sub _ _)
theorem strS_mem {h : Int} {l : List Int} {s : Int} (hm : s ∈ strS h l) : 0 ≤ s ∧ s < ((side h).toNat : Int) := by
  have := (ess_sub (strE h l) (upTo (side h).toNat)).subset hm
  obtain ⟨k, hk, rfl⟩ := List.mem_map.1 this
  have := List.mem_range.1 hk
  omega
theorem strS_len (h : Int) (l : List Int) : (strS h l).length ≤ (side h).toNat := by
  have := (ess_sub (strE h l) (upTo (side h).toNat)).length_le
  rwa [upTo_len] at this
theorem strE_mem {h : Int} {l : List Int} {x : Edge} (hx : x ∈ strE h l) : x.l = x.t ∧ okP h l x.f x.t = true := by
  rw [strE, gE, List.mem_map] at hx
  obtain ⟨j, hj, rfl⟩ := hx
  have := (List.mem_filter.1 hj).2
  exact ⟨rfl, this⟩
/-- What an edge of the graph says: from the column c to the column e. -/
theorem edge_says {h : Int} {l : List Int} {y : Edge} (hy : y ∈ partE (strS h l) (strE h l)) :
    ∃ c e, (strS h l)[y.f.toNat]? = some c ∧ (strS h l)[y.t.toNat]? = some e ∧ y.l = e ∧ okP h l c e = true ∧ 0 ≤ y.f ∧ 0 ≤ y.t ∧ 0 ≤ e ∧ e < ((side h).toNat : Int) := by
  have hs := strS_asc h l
  obtain ⟨x, hx, h1, h2, rfl⟩ := partE_mem hs hy
  obtain ⟨hlt, hok⟩ := strE_mem hx
  have g1 := get_posOf hs h1
  have g2 := get_posOf hs h2
  have m := strS_mem (hasB_mem.1 h2)
  refine ⟨x.f, x.t, ?_, ?_, hlt, hok, ?_, ?_, m.1, m.2⟩
  · simp only [Int.toNat_natCast]; exact g1
  · simp only [Int.toNat_natCast]; exact g2
  · simp only; omega
  · simp only; omega
theorem same_to {h : Int} {l : List Int} {y z : Edge} (hy : y ∈ partE (strS h l) (strE h l)) (hz : z ∈ partE (strS h l) (strE h l)) (he : y.t = z.t) : y.l = z.l := by
  obtain ⟨_, e, _, h2, h3, _⟩ := edge_says hy
  obtain ⟨_, e', _, k2, k3, _⟩ := edge_says hz
  rw [he, k2] at h2
  rw [h3, k3, Option.some.inj h2]
/-- Each state has an edge that leaves it. -/
theorem leaves_some {h : Int} {l : List Int} {p : Nat} (hp : p < (strS h l).length) : 0 < (leavs (partE (strS h l) (strE h l)) p (partE (strS h l) (strE h l)).length).length := by
  have hs := strS_asc h l
  obtain ⟨s, hsp⟩ := some_of_lt hp
  have hst : stays (strE h l) (strS h l) s = true := ess_stays (List.mem_of_getElem? hsp)
  simp only [stays, Bool.and_eq_true] at hst
  obtain ⟨x, hx, hx2⟩ := List.any_eq_true.1 hst.2
  simp only [Bool.and_eq_true, decide_eq_true_eq] at hx2
  obtain ⟨hxf, hxt⟩ := hx2
  have hf : hasB (strS h l) x.f = true := by rw [hxf]; exact hasB_mem.2 (List.mem_of_getElem? hsp)
  have hm : (⟨(posOf x.f (strS h l) : Nat), x.l, (posOf x.t (strS h l) : Nat)⟩ : Edge) ∈ partE (strS h l) (strE h l) := by
    refine List.mem_filterMap.2 ⟨x, hx, ?_⟩
    rw [part1_eq hs, if_pos ⟨hf, hxt⟩]
  obtain ⟨k, hk⟩ := List.getElem?_of_mem hm
  have hpos : posOf x.f (strS h l) = p := by rw [hxf]; exact posOf_get hs hsp
  refine List.length_pos_of_mem (a := (k, ⟨(posOf x.f (strS h l) : Nat), x.l, (posOf x.t (strS h l) : Nat)⟩)) ?_
  refine List.mem_filterMap.2 ⟨k, List.mem_range.2 (lt_of_some hk), ?_⟩
  simp [leav1, hk, hpos]
theorem leavs_get {es : List Edge} {s : Int} {n j : Nat} {x : Nat × Edge} (h : (leavs es s n)[j]? = some x) : es[x.1]? = some x.2 ∧ x.2.f = s := by
  obtain ⟨k, hk, hx⟩ := List.mem_filterMap.1 (List.mem_of_getElem? h)
  rw [leav1] at hx
  obtain ⟨y, hy, hz⟩ := Option.bind_eq_some_iff.1 hx
  split at hz
  · rename_i hf
    obtain rfl := Option.some.inj hz
    exact ⟨hy, hf⟩
  · cases hz
/-- The columns so far, and the state behind them. -/
structure Path (h : Int) (l : List Int) (C : List Int) (p : Int) : Prop where
  p0 : 0 ≤ p
  p1 : p < ((strS h l).length : Int)
  last : C = [] ∨ ∃ C' y, C = C' ++ [y] ∧ (strS h l)[p.toNat]? = some y
  ok : adj (okP h l) C = true
  col : C.all (okCol h) = true
theorem Path.start {h : Int} {l : List Int} (hp : 0 < (strS h l).length) : Path h l [] 0 := ⟨by omega, by omega, .inl rfl, rfl, rfl⟩
theorem Path.step {h : Int} {l : List Int} {C : List Int} {p : Int} (hP : Path h l C p) {y : Edge} (hy : y ∈ partE (strS h l) (strE h l)) (hf : y.f = p) : Path h l (C ++ [y.l]) y.t := by
  obtain ⟨c, e, h1, h2, h3, h4, h5, h6, h7, h8⟩ := edge_says hy
  have hlt := lt_of_some h2
  refine ⟨h6, by omega, .inr ⟨C, y.l, rfl, by rw [h3]; exact h2⟩, ?_, ?_⟩
  · rcases hP.last with rfl | ⟨C', z, rfl, hz⟩
    · simp [adj, adjGo]
    · have hzc : z = c := by rw [hf, hz] at h1; exact Option.some.inj h1
      have hok := hP.ok
      rw [adj] at hok ⊢
      rw [List.append_assoc]
      show adjGo (okP h l) none (C' ++ [z, y.l]) = true
      rw [adjGo_snoc, hok, hzc, h3, h4]; rfl
  · rw [List.all_append, hP.col]
    have : okCol h y.l = true := by
      have hs : 0 ≤ side h := Int.pow_nonneg (by decide)
      simp only [okCol, Bool.and_eq_true, decide_eq_true_eq]
      rw [h3]; omega
    simp [this]
end Go.Proofs.Ytppflnkadjddiaa
