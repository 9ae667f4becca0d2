/-
  What grooveref45.of keeps in memory: a machine of two tables, whose rows grow by append; and plain laws for it.
  No condition.
-/
import Derived.Test.YtalklhjmnoodeaaRefStates
import Derived.Test.YtalklhjmnoodeaaRBuild
import Derived.Test.YtalklhjmnoodeaaPBuildA
import Derived.Deep.AppendLies
namespace Go.Proofs.Ytalklhjmnoodeaa
open Go.RowKit Go.Deep
set_option linter.unusedVariables false

theorem free_no_state {ws : List ByteArray} (hf : freeB ws = true) {x : ByteArray} (hx : x ∈ ws) : idxW (stW ws) x < 0 := by
  by_cases h : idxW (stW ws) x < 0
  · exact h
  · exfalso
    have hm := (idxW_mem (stW ws) x).1 (by omega)
    obtain ⟨y, hy, n, hn, e⟩ := mem_stW.1 hm
    have hs : x.size = n := by rw [← e, ByteArray.size_extract]; omega
    obtain ⟨i, hi, ei⟩ := List.mem_iff_getElem.1 hy
    obtain ⟨k, hk, ek⟩ := List.mem_iff_getElem.1 hx
    have hne : i ≠ k := by
      intro h2; subst h2
      rw [ei] at ek
      subst ek; omega
    have hb := (freeB_iff.1 hf) i k y x (by rw [List.getElem?_eq_getElem hi, ei]) (by rw [List.getElem?_eq_getElem hk, ek]) hne
    rw [begW, pre_iff, decide_eq_false_iff_not] at hb
    apply hb
    rw [← e, Lib.extract_data]
    simp
theorem rowV_snoc (m : Nat) (g : Nat → Int) : rowV (m + 1) g = rowV m g ++ [.int .i64 (g m)] := by simp [rowV, List.range_succ]
theorem rErr_nil_check {q : Int} {ws : List ByteArray} (h : codeErr q ws ≠ 0) : rErr q ws [] = 1 := by
  have e : bErr q ws = 1 := by rw [bErr, if_pos h]
  rw [rErr, aErr, e]; rfl
theorem rErr_nil_pre {q : Int} {ws : List ByteArray} (h : codeErr q ws = 0) (hf : freeB ws = false) : rErr q ws [] = 8 := by
  have e : bErr q ws = 8 := by rw [bErr, if_neg (by simp [h]), hf]; rfl
  rw [rErr, aErr, e]; rfl
theorem rErr_nil_stuck {q : Int} {ws : List ByteArray} (h : codeErr q ws = 0) (hf : freeB ws = true) (hs : stuckM (sizeW ws) q.toNat (nxI ws) = true) : rErr q ws [] = 8 := by
  have e : bErr q ws = 0 := by rw [bErr, if_neg (by simp [h]), if_pos hf]
  rw [rErr, aErr, e, hs]; rfl
theorem rErr_nil_all {q : Int} {ws : List ByteArray} (h : codeErr q ws = 0) (hf : freeB ws = true) (hs : stuckM (sizeW ws) q.toNat (nxI ws) = false) : rErr q ws [] = if 64 < sizeW ws then 4 else 0 := by
  have e : bErr q ws = 0 := by rw [bErr, if_neg (by simp [h]), if_pos hf]
  rw [rErr, aErr, e, hs]; rfl

/-- 'out = append(out, x)', and where the result lies. -/
theorem wpList_push_at {P : Program} {ops : Array Oper} {rest : List Oper} {o : Oper} {a : Act} {Q : Exit → Act → World → Prop} (wr : World) (hgd : o.guard = none) (s x : Operand) (t : TypeId)
    (ho : o.op = .call { callee := .builtin .append, args := #[s, x], argTypes := #[t, t] })
    (base : Nat) (e : TypeId) (z : Value) (sz bytes : Nat) (ht : P.underlying t = some (.slice e)) (hinfo : (P.info? e).map (fun i => (i.zero, i.size, i.bytes)) = some (some z, sz, bytes))
    (hzs : z.cells.size = sz) (hsz : 0 < sz) (v : Value) (n : Nat) (xs : List Value) (hs : a.eval s = v) (hown : wr.ownsRow base e sz v n xs)
    (us : Array Value) (hus : us.size = sz) (hu : ∀ u ∈ us.toList, u.oneCell' = true) (hx : a.eval x = .slice (some ⟨wr.heap.size, 0, none⟩) 1 1)
    (h63 : n + 1 ≤ maxLen) (hbytes : (n + 1) * bytes ≤ 140737488355328) (hbase : base ≤ wr.heap.size)
    (h : ∀ g cap w', w'.ownsRow base e sz (.slice (some ⟨g, 0, none⟩) (n + 1) cap) (n + 1) (xs ++ us.toList) → wr.grownBy w' v.ownBlock → (v.ownBlock = some g ∨ g = wr.heap.size + 1) → Below base wr w' → wpList P ops Q rest (a.put o.dst (.slice (some ⟨g, 0, none⟩) (n + 1) cap)) w') :
    wpList P ops Q (o :: rest) a (wr.alloc (.cells us e)) := by
  obtain ⟨i0, hi, hz0, hz1, hz2⟩ := info_parts hinfo
  refine wpList_append_lies _ hgd s x t ho base e i0 z sz bytes ht hi hz0 hz1 hz2 hzs hsz v n xs hs (hown.alloc _) ⟨wr.heap.size, 0, none⟩ 1 1 us.toList hx (by simp [hus]) (cells_new wr us e) hu (by decide) h63 hbytes (by simp; omega) (wr.heap.size + 1) (by simp) ?_
  intro g cap w' ho' hg hl _
  have hg' : wr.grownBy w' v.ownBlock := ⟨hg.os, hg.tape, hg.output, by have := hg.size; simp at this; omega, fun k hk hne => (hg.block k (by simp; omega) hne).trans (Below.heap_alloc wr _ k hk)⟩
  exact h g cap w' ho' hg' hl ((Below.refl _ _).grown hg' hbase (fun k hk => ((hown.lt k hk).1)))

/-- Two rows of one call, apart from each other. -/
structure TwoO (wk : World) (a : Nat) (f g : Nat → Int) (vn ve : Value) (wr : World) : Prop where
  bel : Below wk.heap.size wk wr
  n : wr.ownsRow wk.heap.size 3 1 vn a (rowV a f)
  e : wr.ownsRow wk.heap.size 3 1 ve a (rowV a g)
  ne : ve.ownBlock = none ∨ ve.ownBlock ≠ vn.ownBlock
theorem TwoO.start (wk : World) (f g : Nat → Int) : TwoO wk 0 f g (.slice none 0 0) (.slice none 0 0) wk := ⟨Below.refl _ _, World.ownsRow_nil _ _ _ _, World.ownsRow_nil _ _ _ _, .inl rfl⟩
/-- Behind the first append. -/
structure TwoH (wk : World) (a : Nat) (f g : Nat → Int) (vn ve : Value) (wr : World) : Prop where
  bel : Below wk.heap.size wk wr
  n : wr.ownsRow wk.heap.size 3 1 vn (a + 1) (rowV (a + 1) f)
  e : wr.ownsRow wk.heap.size 3 1 ve a (rowV a g)
  ne : ve.ownBlock = none ∨ ve.ownBlock ≠ vn.ownBlock
theorem TwoO.one {wk wr w1 : World} {a : Nat} {f g : Nat → Int} {vn ve : Value} {b c : Nat} (h : TwoO wk a f g vn ve wr)
    (ho : w1.ownsRow wk.heap.size 3 1 (.slice (some ⟨b, 0, none⟩) (a + 1) c) (a + 1) (rowV (a + 1) f)) (hg : wr.grownBy w1 vn.ownBlock) (hl : vn.ownBlock = some b ∨ b = wr.heap.size + 1) (hb : Below wk.heap.size wr w1) :
    TwoH wk a f g (.slice (some ⟨b, 0, none⟩) (a + 1) c) ve w1 := by
  refine ⟨h.bel.trans hb, ho, h.e.kept hg h.ne, ?_⟩
  cases hv : ve.ownBlock with
  | none => exact .inl rfl
  | some k =>
    right
    intro e2
    simp only [Value.ownBlock, Option.some.injEq] at e2
    rcases hl with hl | hl
    · rcases h.ne with h0 | h0
      · rw [hv] at h0; cases h0
      · exact h0 (by rw [hv, hl, e2])
    · have := own_lt h.e hv
      omega
theorem TwoH.two {wk wr w1 : World} {a : Nat} {f g : Nat → Int} {vn ve : Value} {b c : Nat} (h : TwoH wk a f g vn ve wr)
    (ho : w1.ownsRow wk.heap.size 3 1 (.slice (some ⟨b, 0, none⟩) (a + 1) c) (a + 1) (rowV (a + 1) g)) (hg : wr.grownBy w1 ve.ownBlock) (hl : ve.ownBlock = some b ∨ b = wr.heap.size + 1) (hb : Below wk.heap.size wr w1) :
    TwoO wk (a + 1) f g vn (.slice (some ⟨b, 0, none⟩) (a + 1) c) w1 := by
  have hne : vn.ownBlock = none ∨ vn.ownBlock ≠ ve.ownBlock := by
    cases hv : vn.ownBlock with
    | none => exact .inl rfl
    | some k =>
      right
      intro e2
      rcases h.ne with h0 | h0
      · rw [h0] at e2; cases e2
      · exact h0 (by rw [hv]; exact e2.symm)
  refine ⟨h.bel.trans hb, h.n.kept hg hne, ho, ?_⟩
  right
  simp only [Value.ownBlock]
  intro e2
  rcases hl with hl | hl
  · rcases h.ne with h0 | h0
    · rw [hl] at h0; cases h0
    · exact h0 (by rw [hl]; exact e2)
  · have := own_lt h.n e2.symm
    omega

/-- A row of rows, each as a call owns it. -/
def mapV (V : Nat → Value) (k : Nat) : List Value := (List.range k).map V
theorem mapV_get {V : Nat → Value} {k i : Nat} (h : i < k) : (mapV V k)[i]? = some (V i) := by simp [mapV, h]
def upV (V : Nat → Value) (k : Nat) (v : Value) : Nat → Value := fun i => if i = k then v else V i
theorem mapV_snoc (V : Nat → Value) (k : Nat) (v : Value) : mapV V k ++ [v] = mapV (upV V k v) (k + 1) := by
  unfold mapV
  rw [List.range_succ, List.map_append]
  congr 1
  · apply List.map_congr_left
    intro i hi
    have := List.mem_range.1 hi
    rw [upV, if_neg (by omega)]
  · simp [upV]
structure Rwg (w : World) (B Q k : Nat) (u : Value) (V : Nat → Value) (f : Nat → Nat → Int) : Prop where
  o : w.ownsRow B 41 1 u k (mapV V k)
  r : ∀ i < k, w.ownsRow B 3 1 (V i) Q (rowV Q (f i))
section
variable {w w' : World} {B Q k : Nat} {u u' : Value} {V : Nat → Value} {f : Nat → Nat → Int}
theorem Rwg.keep (h : Rwg w B Q k u V f) (hb : Below w.heap.size w w') : Rwg w' B Q k u V f := ⟨own_below h.o hb, fun i hi => own_below (h.r i hi) hb⟩
theorem Rwg.mt (h : Rwg w B Q k u V f) : Mt w u k Q f := ⟨mapV V k, Sl.of_owns h.o, fun i hi => ⟨_, mapV_get hi, Sl.of_owns (h.r i hi)⟩⟩
theorem Rwg.start (w : World) (B Q : Nat) (V : Nat → Value) (f : Nat → Nat → Int) : Rwg w B Q 0 (.slice none 0 0) V f := ⟨World.ownsRow_nil _ _ _ _, fun i hi => by omega⟩
theorem Rwg.other {B' sz n : Nat} {xs : List Value} (h : Rwg w B Q k u V f) (ho : w.ownsRow B' 41 sz u' n xs) (hg : w.grownBy w' u'.ownBlock) (hne : u.ownBlock = none ∨ u.ownBlock ≠ u'.ownBlock) : Rwg w' B Q k u V f :=
  ⟨h.o.kept hg hne, fun i hi => (h.r i hi).kept hg (own_apart (h.r i hi) ho (by decide))⟩
theorem Rwg.push {v : Value} (h : Rwg w B Q k u V f) (hg : w.grownBy w' u.ownBlock) (ho : w'.ownsRow B 41 1 u' (k + 1) (mapV V k ++ [v])) (hr : w.ownsRow B 3 1 v Q (rowV Q (f k))) : Rwg w' B Q (k + 1) u' (upV V k v) f := by
  refine ⟨by rw [← mapV_snoc]; exact ho, fun i hi => ?_⟩
  unfold upV
  by_cases e : i = k
  · subst e
    rw [if_pos rfl]
    exact hr.kept hg (own_apart hr h.o (by decide))
  · rw [if_neg e]
    have h1 := h.r i (by omega)
    exact h1.kept hg (own_apart h1 h.o (by decide))
theorem Rwg.set (h : Rwg w B Q k u V f) {a : Addr} (ha : a.block < B) (v : Value) : Rwg (w.setCell a v) B Q k u V f :=
  ⟨ownsRow_setCell_below h.o ha _, fun i hi => ownsRow_setCell_below (h.r i hi) ha _⟩
end
/-- The machine's cells. -/
def mfun (uN uE : Value) : Nat → Value := fun i => if i = 0 then uN else uE
structure RN (w0 : World) (Q : Nat) (nx em : Nat → Nat → Int) (k : Nat) (uN uE : Value) (VN VE : Nat → Value) (wr : World) : Prop where
  bel : Below w0.heap.size w0 wr
  hi : w0.heap.size + 1 ≤ wr.heap.size
  p : wr.rowIs w0.heap.size 69 2 (mfun uN uE)
  N : Rwg wr (w0.heap.size + 1) Q k uN VN nx
  E : Rwg wr (w0.heap.size + 1) Q k uE VE em
  ne : uN.ownBlock = none ∨ uN.ownBlock ≠ uE.ownBlock
structure RN1 (w0 : World) (Q : Nat) (nx em : Nat → Nat → Int) (k : Nat) (ve uN uE uN' : Value) (VN VE : Nat → Value) (w1 : World) : Prop where
  bel : Below w0.heap.size w0 w1
  hi : w0.heap.size + 1 ≤ w1.heap.size
  p : w1.rowIs w0.heap.size 69 2 (mfun uN uE)
  N : Rwg w1 (w0.heap.size + 1) Q (k + 1) uN' VN nx
  E : Rwg w1 (w0.heap.size + 1) Q k uE VE em
  ne : uN'.ownBlock ≠ uE.ownBlock
  r2 : w1.ownsRow (w0.heap.size + 1) 3 1 ve Q (rowV Q (em k))
section
variable {w0 : World} {Q k : Nat} {nx em : Nat → Nat → Int} {uN uE uN' uE' vn ve : Value} {VN VE : Nat → Value} {wr w' : World}
theorem RN.keep (h : RN w0 Q nx em k uN uE VN VE wr) (hb : Below wr.heap.size wr w') : RN w0 Q nx em k uN uE VN VE w' :=
  ⟨bel_step h.bel (hb.mono (Nat.le_refl _)), Nat.le_trans h.hi hb.size, row_below h.p hb, h.N.keep hb, h.E.keep hb, h.ne⟩
theorem RN1.keep (h : RN1 w0 Q nx em k ve uN uE uN' VN VE wr) (hb : Below wr.heap.size wr w') : RN1 w0 Q nx em k ve uN uE uN' VN VE w' :=
  ⟨bel_step h.bel hb, Nat.le_trans h.hi hb.size, row_below h.p hb, h.N.keep hb, h.E.keep hb, h.ne, own_below h.r2 hb⟩
theorem RN.start (w0 : World) (Q : Nat) (nx em : Nat → Nat → Int) (VN VE : Nat → Value) : RN w0 Q nx em 0 (.slice none 0 0) (.slice none 0 0) VN VE (w0.alloc (.cells #[.slice none 0 0, .slice none 0 0] 69)) := by
  refine ⟨bel_alloc _ _, by simp, World.rowIs_alloc _ _ _ _ ?_, Rwg.start _ _ _ _ _, Rwg.start _ _ _ _ _, .inl rfl⟩
  intro i hi
  have hi' : i < 2 := hi
  have : i = 0 ∨ i = 1 := by omega
  rcases this with rfl | rfl <;> rfl
theorem RN.c (h : RN w0 Q nx em k uN uE VN VE wr) : wr.cell? ⟨w0.heap.size, 0, none⟩ = some uN ∧ wr.cell? ⟨w0.heap.size, 1, none⟩ = some uE := ⟨h.p.cell (by omega), h.p.cell (by omega)⟩
theorem RN1.c (h : RN1 w0 Q nx em k ve uN uE uN' VN VE wr) : wr.cell? ⟨w0.heap.size, 0, none⟩ = some uN ∧ wr.cell? ⟨w0.heap.size, 1, none⟩ = some uE := ⟨h.p.cell (by omega), h.p.cell (by omega)⟩
theorem RN.one {Wa w1 : World} (h : RN w0 Q nx em k uN uE VN VE Wa) (r1 : Wa.ownsRow (w0.heap.size + 1) 3 1 vn Q (rowV Q (nx k))) (r2 : Wa.ownsRow (w0.heap.size + 1) 3 1 ve Q (rowV Q (em k)))
    (g1 : Wa.grownBy w1 uN.ownBlock) (o1 : w1.ownsRow (w0.heap.size + 1) 41 1 uN' (k + 1) (mapV VN k ++ [vn])) (p1 : uN.ownBlock = uN'.ownBlock ∨ uN'.ownBlock = some Wa.heap.size) :
    RN1 w0 Q nx em k ve uN uE uN' (upV VN k vn) VE w1 := by
  have hneE : uE.ownBlock = none ∨ uE.ownBlock ≠ uN.ownBlock := by
    cases hb : uE.ownBlock with
    | none => exact .inl rfl
    | some g =>
      right
      rcases h.ne with h0 | h0
      · rw [h0]; simp
      · rw [hb] at h0; exact fun e => h0 e.symm
  have hs1 := g1.size
  have hi := h.hi
  refine ⟨h.bel.grown g1 (by omega) fun k hk => by have := (own_block h.N.o hk).1; omega, by omega, row_grown h.p g1 (row_ne_low h.N.o (by omega)), h.N.push g1 o1 r1, h.E.other h.N.o g1 hneE, ?_, r2.kept g1 (own_apart r2 h.N.o (by decide))⟩
  rcases p1 with e | e
  · rw [← e]
    rcases h.ne with h0 | h0
    · rw [h0] at e
      rcases o1.2 with ⟨_, hz⟩ | ⟨g, cap, cur, hv, _⟩
      · omega
      · rw [hv] at e; cases e
    · exact h0
  · rw [e]
    intro e2
    have h1 := own_lt h.E.o e2.symm
    omega
theorem RN1.two {Wb w2 : World} (h : RN1 w0 Q nx em k ve uN uE uN' VN VE Wb) (g2 : Wb.grownBy w2 uE.ownBlock) (o2 : w2.ownsRow (w0.heap.size + 1) 41 1 uE' (k + 1) (mapV VE k ++ [ve])) (p2 : uE.ownBlock = uE'.ownBlock ∨ uE'.ownBlock = some Wb.heap.size) :
    RN w0 Q nx em (k + 1) uN' uE' VN (upV VE k ve) ((w2.setCell ⟨w0.heap.size, 0, none⟩ uN').setCell ⟨w0.heap.size, 1, none⟩ uE') := by
  have hE4 := h.E.push g2 o2 h.r2
  have hN4 := h.N.other h.E.o g2 (.inr h.ne)
  have hP4 := row_grown h.p g2 (row_ne_low h.E.o (by omega))
  have hs := g2.size
  have hi := h.hi
  refine ⟨((h.bel.grown g2 (by omega) fun k hk => by have := (own_block h.E.o hk).1; omega).setCell (by exact Nat.le_refl _) _).setCell (by exact Nat.le_refl _) _, by simp; omega, ((hP4.set 0 uN').set 1 uE').congr ?_, (hN4.set (by show w0.heap.size < _; omega) _).set (by show w0.heap.size < _; omega) _, (hE4.set (by show w0.heap.size < _; omega) _).set (by show w0.heap.size < _; omega) _, ?_⟩
  · intro i hi
    have : i = 0 ∨ i = 1 := by omega
    rcases this with rfl | rfl <;> rfl
  · right
    rcases p2 with e | e
    · rw [← e]; exact h.ne
    · rw [e]
      intro e2
      have h1 := own_lt h.N.o e2
      omega
end
end Go.Proofs.Ytalklhjmnoodeaa
