/-
  What lies in memory while parser.build works: the map of numbers, the parser in its block, the rows of its tables.
  No condition: these are general lemmas.
-/
import Derived.Test.YtjcdddccnfiemaaDoorStrMap
import Derived.Test.YtjcdddccnfiemaaDoorCodeLaw
import Derived.Deep.OwnRows
import Derived.Sort.OwnSorted
namespace Go.Proofs.YtjcdddccnfiemaaDoor
open Go.RowKit Go.Deep
set_option linter.unusedVariables false

theorem own_block {w : World} {base : Nat} {e : TypeId} {sz : Nat} {v : Value} {n : Nat} {xs : List Value} (h : w.ownsRow base e sz v n xs) {g : Nat} (hg : v.ownBlock = some g) : base ≤ g ∧ ∃ cur, w.heap[g]? = some (.cells cur e (0, 0)) := by
  rcases h.2 with ⟨rfl, _⟩ | ⟨g', cap, cur, rfl, h1, h2, _⟩
  · cases hg
  · simp only [Value.ownBlock, Option.some.injEq] at hg
    subst hg
    exact ⟨h1, cur, h2⟩
/-- Rows of different element types are different. -/
theorem own_apart {w : World} {b1 b2 : Nat} {e1 e2 : TypeId} {s1 s2 : Nat} {v1 v2 : Value} {n1 n2 : Nat} {x1 x2 : List Value} (h1 : w.ownsRow b1 e1 s1 v1 n1 x1) (h2 : w.ownsRow b2 e2 s2 v2 n2 x2) (hne : e1 ≠ e2) : v1.ownBlock = none ∨ v1.ownBlock ≠ v2.ownBlock := by
  cases h : v1.ownBlock with
  | none => exact .inl rfl
  | some g =>
    right
    intro e
    obtain ⟨_, c1, hc1⟩ := own_block h1 h
    obtain ⟨_, c2, hc2⟩ := own_block h2 e.symm
    rw [hc1] at hc2
    simp only [Option.some.injEq, Obj.cells.injEq] at hc2
    exact hne hc2.2.1
theorem row_apart {w : World} {b : Nat} {t : TypeId} {n : Nat} {f : Nat → Value} {base : Nat} {e : TypeId} {sz : Nat} {v : Value} {m : Nat} {xs : List Value} (h1 : w.rowIs b t n f) (h2 : w.ownsRow base e sz v m xs) (hne : t ≠ e) : some b ≠ v.ownBlock := by
  intro h
  obtain ⟨c1, hc1, _⟩ := h1
  obtain ⟨_, c2, hc2⟩ := own_block h2 h.symm
  rw [hc1] at hc2
  simp only [Option.some.injEq, Obj.cells.injEq] at hc2
  exact hne hc2.2.1
theorem row_grown {w w' : World} {b : Nat} {t : TypeId} {n : Nat} {f : Nat → Value} {row : Option Nat} (h : w.rowIs b t n f) (hg : w.grownBy w' row) (hne : some b ≠ row) : w'.rowIs b t n f := h.of_block (hg.block b h.lt hne)
theorem row_below {w w' : World} {b : Nat} {t : TypeId} {n : Nat} {f : Nat → Value} (h : w.rowIs b t n f) (hb : Below w.heap.size w w') : w'.rowIs b t n f := h.of_block (hb.block b h.lt)
theorem below_grown (w w' : World) (h : Below w.heap.size w w') : w.grownBy w' none := ⟨h.os, h.tape, h.output, h.size, fun k hk _ => h.block k hk⟩

def pfun (q : Int) (u vN vE : Value) : Nat → Value
  | 0 => .int .i64 q
  | 1 => u
  | 2 => vN
  | _ => vE
/-- The map of numbers, the parser in its block, its list of states. -/
structure PB (w0 : World) (q : Int) (S : List ByteArray) (n : Nat) (f : ByteArray → Option Int) (uS vN vE : Value) (wr : World) : Prop where
  bel : Below w0.heap.size w0 wr
  map : SM wr w0.heap.size n f
  p : wr.rowIs (w0.heap.size + 1) 27 4 (pfun q uS vN vE)
  s : wr.ownsRow (w0.heap.size + 2) 9 1 uS S.length (strs S)
section
variable {w0 : World} {q : Int} {S S' : List ByteArray} {n n' : Nat} {f f' : ByteArray → Option Int} {uS uS' vN vE : Value} {wr w' : World}
theorem PB.hi (h : PB w0 q S n f uS vN vE wr) : w0.heap.size + 2 ≤ wr.heap.size := by have := h.p.lt; omega
theorem PB.keep (h : PB w0 q S n f uS vN vE wr) (hb : Below wr.heap.size wr w') : PB w0 q S n f uS vN vE w' :=
  ⟨h.bel.trans (hb.mono h.bel.size), h.map.below hb h.map.lt, row_below h.p hb, own_below h.s hb⟩
/-- Behind an append to the list and the store of the new slice. -/
theorem PB.push (h : PB w0 q S n f uS vN vE wr) (hg : wr.grownBy w' uS.ownBlock) (ho : w'.ownsRow (w0.heap.size + 2) 9 1 uS' S'.length (strs S')) : PB w0 q S' n f uS' vN vE (w'.setCell ⟨w0.heap.size + 1, 1, none⟩ uS') := by
  have hm : SM w' w0.heap.size n f := h.map.same (hg.block _ h.map.lt (row_ne_low h.s (by omega)))
  have hp : w'.rowIs (w0.heap.size + 1) 27 4 (pfun q uS vN vE) := row_grown h.p hg (row_ne_low h.s (by omega))
  refine ⟨(h.bel.grown hg h.bel.size fun k hk => ?_).setCell (by show w0.heap.size ≤ w0.heap.size + 1; omega) _, hm.same (blk_setCell_other _ _ _ _ (by show w0.heap.size ≠ w0.heap.size + 1; omega)), (hp.set 1 uS').congr ?_, ownsRow_setCell_below ho (by show w0.heap.size + 1 < _; omega) _⟩
  · have := (own_block h.s hk).1; omega
  · intro i hi
    have : i = 0 ∨ i = 1 ∨ i = 2 ∨ i = 3 := by omega
    rcases this with rfl | rfl | rfl | rfl <;> rfl
/-- Behind a sort of the list where it lies. -/
theorem PB.turn (h : PB w0 q S n f uS vN vE wr) (hg : wr.grownBy w' uS.ownBlock) (ho : w'.ownsRow (w0.heap.size + 2) 9 1 uS S'.length (strs S')) : PB w0 q S' n f uS vN vE w' :=
  ⟨h.bel.grown hg h.bel.size fun k hk => by have := (own_block h.s hk).1; omega, h.map.same (hg.block _ h.map.lt (row_ne_low h.s (by omega))), row_grown h.p hg (row_ne_low h.s (by omega)), ho⟩
/-- Behind a store into the map. -/
theorem PB.put (h : PB w0 q S n f uS vN vE wr) (hg : wr.grownBy w' (some w0.heap.size)) (hm : SM w' w0.heap.size n' f') : PB w0 q S n' f' uS vN vE w' := by
  refine ⟨h.bel.grown hg h.bel.size fun k hk => ?_, hm, row_grown h.p hg (by simp), h.s.kept hg ?_⟩
  · simp only [Option.some.injEq] at hk; omega
  · cases hb : uS.ownBlock with
    | none => exact .inl rfl
    | some g =>
      right
      have := (own_block h.s hb).1
      simp only [ne_eq, Option.some.injEq]
      omega
theorem PB.c (h : PB w0 q S n f uS vN vE wr) : wr.cell? ⟨w0.heap.size + 1, 0, none⟩ = some (.int .i64 q) ∧ wr.cell? ⟨w0.heap.size + 1, 1, none⟩ = some uS ∧ wr.cell? ⟨w0.heap.size + 1, 2, none⟩ = some vN ∧ wr.cell? ⟨w0.heap.size + 1, 3, none⟩ = some vE :=
  ⟨h.p.cell (by omega), h.p.cell (by omega), h.p.cell (by omega), h.p.cell (by omega)⟩
end
theorem PB.start (w0 : World) (q : Int) : PB w0 q [] 0 (fun _ => none) (.slice none 0 0) (.slice none 0 0) (.slice none 0 0) ((w0.alloc (.map #[] 0)).alloc (.cells #[.int .i64 q, .slice none 0 0, .slice none 0 0, .slice none 0 0] 27)) := by
  refine ⟨((Below.refl _ _).alloc (Nat.le_refl _) _).alloc (by simp) _, (SM.made w0).below (bel_alloc _ _) (by simp), ?_, World.ownsRow_nil _ _ _ _⟩
  rw [show w0.heap.size + 1 = (w0.alloc (.map #[] 0)).heap.size by simp]
  refine World.rowIs_alloc _ _ _ _ ?_
  intro i hi
  have hi' : i < 4 := hi
  have : i = 0 ∨ i = 1 ∨ i = 2 ∨ i = 3 := by omega
  rcases this with rfl | rfl | rfl | rfl <;> rfl

/-- Slices of Q numbers, in the blocks g. -/
def slV (Q : Nat) (g : Nat → Nat) (k : Nat) : List Value := (List.range k).map fun i => .slice (some ⟨g i, 0, none⟩) Q Q
theorem slV_len (Q : Nat) (g : Nat → Nat) (k : Nat) : (slV Q g k).length = k := by simp [slV]
theorem slV_get {Q : Nat} {g : Nat → Nat} {k i : Nat} (h : i < k) : (slV Q g k)[i]? = some (.slice (some ⟨g i, 0, none⟩) Q Q) := by simp [slV, h]
def upG (g : Nat → Nat) (k b : Nat) : Nat → Nat := fun i => if i = k then b else g i
theorem slV_snoc (Q : Nat) (g : Nat → Nat) (k b : Nat) : slV Q g k ++ [.slice (some ⟨b, 0, none⟩) Q Q] = slV Q (upG g k b) (k + 1) := by
  unfold slV
  rw [List.range_succ, List.map_append]
  congr 1
  · apply List.map_congr_left
    intro i hi
    have := List.mem_range.1 hi
    rw [upG, if_neg (by omega)]
  · simp [upG]
def rowF (f : Nat → Int) : Nat → Value := fun j => .int .i64 (f j)
theorem Sl.of_row {w : World} {b n : Nat} {t : TypeId} {f : Nat → Int} (h : w.rowIs b t n (rowF f)) (hn : n ≤ 1000000) : Sl 1 w (.slice (some ⟨b, 0, none⟩) n n) n (rowV n f) := by
  refine ⟨_, _, rfl, by rw [rowV_len, Nat.mul_one], Nat.le_refl _, by omega, .inr ⟨b, 0, rfl, fun j x hj => ?_⟩⟩
  have hl := lt_of_some hj
  rw [rowV_len] at hl
  rw [rowV_get f hl] at hj
  rw [Nat.zero_add, h.cell hl]
  exact hj
/-- The rows of a table. -/
structure Rws (w : World) (B Q k : Nat) (u : Value) (g : Nat → Nat) (f : Nat → Nat → Int) : Prop where
  o : w.ownsRow B 37 1 u k (slV Q g k)
  r : ∀ i < k, w.rowIs (g i) 3 Q (rowF (f i)) ∧ B ≤ g i
theorem Rws.keep {w w' : World} {B Q k : Nat} {u : Value} {g : Nat → Nat} {f : Nat → Nat → Int} (h : Rws w B Q k u g f) (hb : Below w.heap.size w w') : Rws w' B Q k u g f :=
  ⟨own_below h.o hb, fun i hi => ⟨row_below (h.r i hi).1 hb, (h.r i hi).2⟩⟩
theorem Rws.mt {w : World} {B Q k : Nat} {u : Value} {g : Nat → Nat} {f : Nat → Nat → Int} (h : Rws w B Q k u g f) (hQ : Q ≤ 1000000) : Mt w u k Q f :=
  ⟨slV Q g k, Sl.of_owns h.o, fun i hi => ⟨_, slV_get hi, Sl.of_row (h.r i hi).1 hQ⟩⟩
theorem Rws.start (w : World) (B Q : Nat) (g : Nat → Nat) (f : Nat → Nat → Int) : Rws w B Q 0 (.slice none 0 0) g f := ⟨World.ownsRow_nil _ _ _ _, fun i hi => by omega⟩
/-- Behind an append to another row. -/
theorem Rws.other {w w' : World} {B Q k : Nat} {u : Value} {g : Nat → Nat} {f : Nat → Nat → Int} {B' sz n : Nat} {u' : Value} {xs : List Value} (h : Rws w B Q k u g f) (ho : w.ownsRow B' 37 sz u' n xs) (hg : w.grownBy w' u'.ownBlock) (hne : u.ownBlock = none ∨ u.ownBlock ≠ u'.ownBlock) : Rws w' B Q k u g f :=
  ⟨h.o.kept hg hne, fun i hi => ⟨row_grown (h.r i hi).1 hg (row_apart (h.r i hi).1 ho (by decide)), (h.r i hi).2⟩⟩
/-- Behind an append to it. -/
theorem Rws.push {w w' : World} {B Q k b : Nat} {u u' : Value} {g : Nat → Nat} {f : Nat → Nat → Int} (h : Rws w B Q k u g f) (hg : w.grownBy w' u.ownBlock) (ho : w'.ownsRow B 37 1 u' (k + 1) (slV Q g k ++ [.slice (some ⟨b, 0, none⟩) Q Q])) (hr : w.rowIs b 3 Q (rowF (f k))) (hb : B ≤ b) : Rws w' B Q (k + 1) u' (upG g k b) f := by
  refine ⟨by rw [← slV_snoc]; exact ho, fun i hi => ?_⟩
  unfold upG
  by_cases e : i = k
  · subst e
    rw [if_pos rfl]
    exact ⟨row_grown hr hg (row_apart hr h.o (by decide)), hb⟩
  · rw [if_neg e]
    have h1 := h.r i (by omega)
    exact ⟨row_grown h1.1 hg (row_apart h1.1 h.o (by decide)), h1.2⟩
theorem Rws.set {w : World} {B Q k : Nat} {u : Value} {g : Nat → Nat} {f : Nat → Nat → Int} (h : Rws w B Q k u g f) {a : Addr} (ha : a.block < B) (v : Value) : Rws (w.setCell a v) B Q k u g f :=
  ⟨ownsRow_setCell_below h.o ha _, fun i hi => ⟨(h.r i hi).1.setOther (by have := (h.r i hi).2; omega) _, (h.r i hi).2⟩⟩
theorem own_lt {w : World} {base : Nat} {e : TypeId} {sz : Nat} {v : Value} {n : Nat} {xs : List Value} (h : w.ownsRow base e sz v n xs) {g : Nat} (hg : v.ownBlock = some g) : g < w.heap.size := by
  obtain ⟨_, cur, hc⟩ := own_block h hg
  exact (Array.getElem?_eq_some_iff.1 hc).1
/-- The parser with k lines of its two tables. -/
structure PN (w0 : World) (q : Int) (st : List ByteArray) (n : Nat) (f : ByteArray → Option Int) (Q : Nat) (nx em : Nat → Nat → Int) (k : Nat) (uS uN uE : Value) (gN gE : Nat → Nat) (wr : World) : Prop where
  pb : PB w0 q st n f uS uN uE wr
  N : Rws wr (w0.heap.size + 2) Q k uN gN nx
  E : Rws wr (w0.heap.size + 2) Q k uE gE em
  ne : uN.ownBlock = none ∨ uN.ownBlock ≠ uE.ownBlock
section
variable {w0 : World} {q : Int} {st : List ByteArray} {n : Nat} {f : ByteArray → Option Int} {Q k : Nat} {nx em : Nat → Nat → Int} {uS uN uE uN' uE' : Value} {gN gE : Nat → Nat} {wr w' : World}
theorem PN.keep (h : PN w0 q st n f Q nx em k uS uN uE gN gE wr) (hb : Below wr.heap.size wr w') : PN w0 q st n f Q nx em k uS uN uE gN gE w' := ⟨h.pb.keep hb, h.N.keep hb, h.E.keep hb, h.ne⟩
/-- Behind an append to a table's slice the rest is as it was. -/
theorem PB.other {vN vE u : Value} {m : Nat} {xs : List Value} (h : PB w0 q st n f uS vN vE wr) (ho : wr.ownsRow (w0.heap.size + 2) 37 1 u m xs) (hg : wr.grownBy w' u.ownBlock) : PB w0 q st n f uS vN vE w' :=
  ⟨h.bel.grown hg h.bel.size fun k hk => by have := (own_block ho hk).1; omega, h.map.same (hg.block _ h.map.lt (row_ne_low ho (by omega))), row_grown h.p hg (row_ne_low ho (by omega)), h.s.kept hg (own_apart h.s ho (by decide))⟩
theorem PB.setN {vN vE : Value} (h : PB w0 q st n f uS vN vE wr) (u : Value) : PB w0 q st n f uS u vE (wr.setCell ⟨w0.heap.size + 1, 2, none⟩ u) := by
  refine ⟨h.bel.setCell (by show w0.heap.size ≤ w0.heap.size + 1; omega) _, h.map.same (blk_setCell_other _ _ _ _ (by show w0.heap.size ≠ w0.heap.size + 1; omega)), (h.p.set 2 u).congr ?_, ownsRow_setCell_below h.s (by show w0.heap.size + 1 < _; omega) _⟩
  intro i hi
  have : i = 0 ∨ i = 1 ∨ i = 2 ∨ i = 3 := by omega
  rcases this with rfl | rfl | rfl | rfl <;> rfl
theorem PB.setE {vN vE : Value} (h : PB w0 q st n f uS vN vE wr) (u : Value) : PB w0 q st n f uS vN u (wr.setCell ⟨w0.heap.size + 1, 3, none⟩ u) := by
  refine ⟨h.bel.setCell (by show w0.heap.size ≤ w0.heap.size + 1; omega) _, h.map.same (blk_setCell_other _ _ _ _ (by show w0.heap.size ≠ w0.heap.size + 1; omega)), (h.p.set 3 u).congr ?_, ownsRow_setCell_below h.s (by show w0.heap.size + 1 < _; omega) _⟩
  intro i hi
  have : i = 0 ∨ i = 1 ∨ i = 2 ∨ i = 3 := by omega
  rcases this with rfl | rfl | rfl | rfl <;> rfl
/-- Between the two appends. -/
structure PN1 (w0 : World) (q : Int) (st : List ByteArray) (n : Nat) (f : ByteArray → Option Int) (Q : Nat) (nx em : Nat → Nat → Int) (k b2 : Nat) (uS uN uE uN' : Value) (gN gE : Nat → Nat) (w1 : World) : Prop where
  pb : PB w0 q st n f uS uN uE w1
  N : Rws w1 (w0.heap.size + 2) Q (k + 1) uN' gN nx
  E : Rws w1 (w0.heap.size + 2) Q k uE gE em
  ne : uN'.ownBlock ≠ uE.ownBlock
  r2 : w1.rowIs b2 3 Q (rowF (em k))
  l2 : w0.heap.size + 2 ≤ b2
theorem PN1.keep {b2 : Nat} (h : PN1 w0 q st n f Q nx em k b2 uS uN uE uN' gN gE wr) (hb : Below wr.heap.size wr w') : PN1 w0 q st n f Q nx em k b2 uS uN uE uN' gN gE w' := ⟨h.pb.keep hb, h.N.keep hb, h.E.keep hb, h.ne, row_below h.r2 hb, h.l2⟩
theorem PN.one {Wa w1 : World} {b1 b2 : Nat} (h : PN w0 q st n f Q nx em k uS uN uE gN gE Wa) (r1 : Wa.rowIs b1 3 Q (rowF (nx k))) (r2 : Wa.rowIs b2 3 Q (rowF (em k))) (hb1 : w0.heap.size + 2 ≤ b1) (hb2 : w0.heap.size + 2 ≤ b2)
    (g1 : Wa.grownBy w1 uN.ownBlock) (o1 : w1.ownsRow (w0.heap.size + 2) 37 1 uN' (k + 1) (slV Q gN k ++ [.slice (some ⟨b1, 0, none⟩) Q Q])) (p1 : uN.ownBlock = uN'.ownBlock ∨ uN'.ownBlock = some Wa.heap.size) :
    PN1 w0 q st n f Q nx em k b2 uS uN uE uN' (upG gN k b1) gE w1 := by
  have hneE : uE.ownBlock = none ∨ uE.ownBlock ≠ uN.ownBlock := by
    cases hb : uE.ownBlock with
    | none => exact .inl rfl
    | some g =>
      right
      rcases h.ne with h0 | h0
      · rw [h0]; simp
      · rw [hb] at h0; exact fun e => h0 e.symm
  refine ⟨h.pb.other h.N.o g1, h.N.push g1 o1 r1 hb1, h.E.other h.N.o g1 hneE, ?_, row_grown r2 g1 (row_apart r2 h.N.o (by decide)), hb2⟩
  rcases p1 with e | e
  · rw [← e]
    rcases h.ne with h0 | h0
    · rw [h0] at e
      rcases o1.2 with ⟨_, hz⟩ | ⟨g, cap, cur, hv, _⟩
      · omega
      · rw [hv] at e; cases e
    · exact h0
  · rw [e]
    intro e2
    have h1 := own_lt h.E.o e2.symm
    omega
theorem PN1.two {Wb w2 : World} {b2 : Nat} (h : PN1 w0 q st n f Q nx em k b2 uS uN uE uN' gN gE Wb) (g2 : Wb.grownBy w2 uE.ownBlock) (o2 : w2.ownsRow (w0.heap.size + 2) 37 1 uE' (k + 1) (slV Q gE k ++ [.slice (some ⟨b2, 0, none⟩) Q Q])) (p2 : uE.ownBlock = uE'.ownBlock ∨ uE'.ownBlock = some Wb.heap.size) :
    PN w0 q st n f Q nx em (k + 1) uS uN' uE' gN (upG gE k b2) ((w2.setCell ⟨w0.heap.size + 1, 2, none⟩ uN').setCell ⟨w0.heap.size + 1, 3, none⟩ uE') := by
  have hE4 := h.E.push g2 o2 h.r2 h.l2
  have hN4 := h.N.other h.E.o g2 (.inr h.ne)
  have hP4 := h.pb.other h.E.o g2
  refine ⟨(hP4.setN uN').setE uE', (hN4.set (by show w0.heap.size + 1 < _; omega) _).set (by show w0.heap.size + 1 < _; omega) _, (hE4.set (by show w0.heap.size + 1 < _; omega) _).set (by show w0.heap.size + 1 < _; omega) _, ?_⟩
  right
  rcases p2 with e | e
  · rw [← e]; exact h.ne
  · rw [e]
    intro e2
    have h1 := own_lt h.N.o e2
    omega
end

theorem step_push_at {P : Program} {ops : Array Oper} {o : Oper} {a : Act} {K : Act → World → Prop} {Q : Exit → Act → World → Prop} {E : Prop} {W : World} (hgd : o.guard = none) (s x : Operand) (t : TypeId)
    (ho : o.op = .call { callee := .builtin .append, args := #[s, x], argTypes := #[t, t] })
    (base : Nat) (e : TypeId) (z : Value) (sz bytes : Nat) (ht : P.underlying t = some (.slice e)) (hinfo : (P.info? e).map (fun i => (i.zero, i.size, i.bytes)) = some (some z, sz, bytes))
    (hzs : z.cells.size = sz) (hsz : 0 < sz) (v : Value) (n : Nat) (xs : List Value) (hs : a.eval s = v) (hown : W.ownsRow base e sz v n xs)
    (g0 : Nat) (us : Array Value) (hus : us.size = sz) (hu : ∀ u ∈ us.toList, u.oneCell' = true) (hx : a.eval x = .slice (some ⟨g0, 0, none⟩) 1 1) (hb : W.heap[g0]? = some (.cells us e (0, 0)))
    (h63 : n + 1 ≤ maxLen) (hbytes : (n + 1) * bytes ≤ 140737488355328) (hbase : base ≤ W.heap.size)
    (h : ∀ g cap w', w'.ownsRow base e sz (.slice (some ⟨g, 0, none⟩) (n + 1) cap) (n + 1) (xs ++ us.toList) → W.grownBy w' v.ownBlock → (v.ownBlock = some g ∨ g = W.heap.size) → K (a.put o.dst (.slice (some ⟨g, 0, none⟩) (n + 1) cap)) w') :
    if Region.wanted o (yielded ops a.tmps) = true then Oper.wp P o a W K Q else E := by
  obtain ⟨i0, hi, hz0, hz1, hz2⟩ := info_parts hinfo
  refine step_append_lies W hgd s x t ho base e i0 z sz bytes ht hi hz0 hz1 hz2 hzs hsz v n xs hs hown ⟨g0, 0, none⟩ 1 1 us.toList hx (by simp [hus]) (World.news_of_block hb) hu (by decide) h63 hbytes hbase _ rfl ?_
  intro g cap w' ho' hg hl _
  exact h g cap w' ho' hg hl
theorem oneCell_slice (ao : Option Addr) (n c : Nat) : ∀ u ∈ (#[Value.slice ao n c] : Array Value).toList, u.oneCell' = true := by simp [Value.oneCell']

/-- Two new rows of Q zeros, in whatever order they were made. -/
structure TwoRows (wr : World) (Q b1 b2 : Nat) (w' : World) : Prop where
  bel : Below wr.heap.size wr w'
  r1 : w'.rowIs b1 3 Q (fun _ => .int .i64 0)
  r2 : w'.rowIs b2 3 Q (fun _ => .int .i64 0)
  ne : b1 ≠ b2
  l1 : wr.heap.size ≤ b1
  l2 : wr.heap.size ≤ b2
theorem TwoRows.made (wr : World) (Q : Nat) : TwoRows wr Q wr.heap.size (wr.heap.size + 1) (((wr.alloc (.cells (madeCells #[.int .i64 0] Q) 3)).alloc (.cells (madeCells #[.int .i64 0] Q) 3)).drew) := by
  refine ⟨below_drewN ((bel_alloc _ _).alloc (by simp) _) 1, ?_, ?_, by omega, Nat.le_refl _, by omega⟩
  · exact ((World.rowIs_made wr (.int .i64 0) Q 3).alloc _).drew
  · have h := World.rowIs_made (wr.alloc (.cells (madeCells #[.int .i64 0] Q) 3)) (.int .i64 0) Q 3
    rw [World.size_alloc] at h
    exact h.drew
theorem TwoRows.swap {wr w' : World} {Q b1 b2 : Nat} (h : TwoRows wr Q b1 b2 w') : TwoRows wr Q b2 b1 w' := ⟨h.bel, h.r2, h.r1, h.ne.symm, h.l2, h.l1⟩

/-- A row whose first a cells are filled. -/
def partF (f : Nat → Int) (a : Nat) : Nat → Value := fun j => .int .i64 (if j < a then f j else 0)
structure TwoIn (wr : World) (Q b1 b2 : Nat) (f g : Nat → Int) (a : Nat) (wi : World) : Prop where
  bel : Below wr.heap.size wr wi
  r1 : wi.rowIs b1 3 Q (partF f a)
  r2 : wi.rowIs b2 3 Q (partF g a)
  ne : b1 ≠ b2
  l1 : wr.heap.size ≤ b1
  l2 : wr.heap.size ≤ b2
theorem TwoIn.start {wr w' : World} {Q b1 b2 : Nat} (h : TwoRows wr Q b1 b2 w') (f g : Nat → Int) : TwoIn wr Q b1 b2 f g 0 w' :=
  ⟨h.bel, h.r1.congr fun i _ => by simp [partF], h.r2.congr fun i _ => by simp [partF], h.ne, h.l1, h.l2⟩
/-- The same, the cells a holding two values. -/
structure TwoAt (wr : World) (Q b1 b2 : Nat) (f g : Nat → Int) (a : Nat) (v1 v2 : Value) (wi : World) : Prop where
  bel : Below wr.heap.size wr wi
  r1 : wi.rowIs b1 3 Q (fun j => if j = a then v1 else partF f a j)
  r2 : wi.rowIs b2 3 Q (fun j => if j = a then v2 else partF g a j)
  ne : b1 ≠ b2
  l1 : wr.heap.size ≤ b1
  l2 : wr.heap.size ≤ b2
theorem TwoIn.at {wr wi : World} {Q b1 b2 : Nat} {f g : Nat → Int} {a : Nat} (h : TwoIn wr Q b1 b2 f g a wi) (v1 v2 : Value) : TwoAt wr Q b1 b2 f g a v1 v2 ((wi.setCell ⟨b1, a, none⟩ v1).setCell ⟨b2, a, none⟩ v2) :=
  ⟨(h.bel.setCell (by exact h.l1) _).setCell (by exact h.l2) _, (h.r1.set a v1).setOther (by exact h.ne) _, (h.r2.setOther (by exact h.ne.symm) _).set a v2, h.ne, h.l1, h.l2⟩
theorem TwoAt.set1 {wr wi : World} {Q b1 b2 : Nat} {f g : Nat → Int} {a : Nat} {v1 v2 : Value} (h : TwoAt wr Q b1 b2 f g a v1 v2 wi) (v : Value) : TwoAt wr Q b1 b2 f g a v v2 (wi.setCell ⟨b1, a, none⟩ v) :=
  ⟨h.bel.setCell (by exact h.l1) _, (h.r1.set a v).congr fun i _ => by by_cases e : i = a <;> simp [e], h.r2.setOther (by exact h.ne.symm) _, h.ne, h.l1, h.l2⟩
theorem TwoAt.done {wr wi : World} {Q b1 b2 : Nat} {f g : Nat → Int} {a : Nat} (h : TwoAt wr Q b1 b2 f g a (.int .i64 (f a)) (.int .i64 (g a)) wi) : TwoIn wr Q b1 b2 f g (a + 1) wi := by
  refine ⟨h.bel, h.r1.congr fun i _ => ?_, h.r2.congr fun i _ => ?_, h.ne, h.l1, h.l2⟩
  all_goals
    unfold partF
    by_cases e : i = a
    · subst e; rw [if_pos rfl, if_pos (by omega)]
    · rw [if_neg e]
      by_cases e2 : i < a
      · rw [if_pos e2, if_pos (by omega)]
      · rw [if_neg e2, if_neg (by omega)]
theorem TwoIn.all {wr wi : World} {Q b1 b2 : Nat} {f g : Nat → Int} (h : TwoIn wr Q b1 b2 f g Q wi) : wi.rowIs b1 3 Q (rowF f) ∧ wi.rowIs b2 3 Q (rowF g) :=
  ⟨h.r1.congr fun i hi => by rw [partF, if_pos hi]; rfl, h.r2.congr fun i hi => by rw [partF, if_pos hi]; rfl⟩

theorem Rws.base {w : World} {B B' Q k : Nat} {u : Value} {g : Nat → Nat} {f : Nat → Nat → Int} (h : Rws w B Q k u g f) (hB : B' ≤ B) : Rws w B' Q k u g f :=
  ⟨own_base h.o hB, fun i hi => ⟨(h.r i hi).1, Nat.le_trans hB (h.r i hi).2⟩⟩
/-- A parser that a call owns: all its memory lies from the block B on. -/
structure PRes (w : World) (B : Nat) (vS vN vE : Value) (n q : Nat) (st : List ByteArray) (nx em : Nat → Nat → Int) : Prop where
  s : w.ownsRow B 9 1 vS n (strs st)
  N : ∃ g, Rws w B q n vN g nx
  E : ∃ g, Rws w B q n vE g em
theorem PRes.keep {w w' : World} {B : Nat} {vS vN vE : Value} {n q : Nat} {st : List ByteArray} {nx em : Nat → Nat → Int} (h : PRes w B vS vN vE n q st nx em) (hb : Below w.heap.size w w') : PRes w' B vS vN vE n q st nx em := by
  obtain ⟨h1, ⟨g, h2⟩, g', h3⟩ := h
  exact ⟨own_below h1 hb, ⟨g, h2.keep hb⟩, g', h3.keep hb⟩
theorem PRes.set {w : World} {B : Nat} {vS vN vE : Value} {n q : Nat} {st : List ByteArray} {nx em : Nat → Nat → Int} (h : PRes w B vS vN vE n q st nx em) {a : Addr} (ha : a.block < B) (v : Value) : PRes (w.setCell a v) B vS vN vE n q st nx em := by
  obtain ⟨h1, ⟨g, h2⟩, g', h3⟩ := h
  exact ⟨ownsRow_setCell_below h1 ha v, ⟨g, h2.set ha v⟩, g', h3.set ha v⟩
theorem PRes.base {w : World} {B B' : Nat} {vS vN vE : Value} {n q : Nat} {st : List ByteArray} {nx em : Nat → Nat → Int} (h : PRes w B vS vN vE n q st nx em) (hB : B' ≤ B) : PRes w B' vS vN vE n q st nx em := by
  obtain ⟨h1, ⟨g, h2⟩, g', h3⟩ := h
  exact ⟨own_base h1 hB, ⟨g, h2.base hB⟩, g', h3.base hB⟩
theorem PRes.slices {w : World} {B : Nat} {vS vN vE : Value} {n q : Nat} {st : List ByteArray} {nx em : Nat → Nat → Int} (h : PRes w B vS vN vE n q st nx em) : ∃ aS cS aN cN aE cE, vS = .slice aS n cS ∧ vN = .slice aN n cN ∧ vE = .slice aE n cE := by
  obtain ⟨h1, ⟨g, h2⟩, g', h3⟩ := h
  obtain ⟨a1, c1, e1⟩ := own_slice h1
  obtain ⟨a2, c2, e2⟩ := own_slice h2.o
  obtain ⟨a3, c3, e3⟩ := own_slice h3.o
  exact ⟨a1, c1, a2, c2, a3, c3, e1, e2, e3⟩
end Go.Proofs.YtjcdddccnfiemaaDoor
