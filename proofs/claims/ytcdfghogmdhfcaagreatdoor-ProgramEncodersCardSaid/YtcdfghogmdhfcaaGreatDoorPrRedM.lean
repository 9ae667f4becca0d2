/-
  What lies in memory while program.Reduce works: values and reducer; what is needed, which constants; the new program and its places.
  No condition: these are general lemmas.
-/
import Derived.Test.YtcdfghogmdhfcaaGreatDoorMg42
import Derived.Test.YtcdfghogmdhfcaaGreatDoorInsIdem
namespace Go.Proofs.YtcdfghogmdhfcaaGreatDoor
open Go.RowKit Go.Deep
set_option linter.unusedVariables false

theorem Tryz.infoBool : (Tryz.prog.info? 4).map (fun i => (i.zero, i.size, i.bytes)) = some (some (.bool false), 1, 1) := by kernel_rfl
/-- All below block B as it was, but the reducer and its map. -/
structure BX (B RB MB : Nat) (w w' : World) : Prop where
  os : w'.os = w.os
  tape : w'.tape = w.tape
  output : w'.output = w.output
  size : w.heap.size ≤ w'.heap.size
  block : ∀ k, k < B → k ≠ RB → k ≠ MB → w'.heap[k]? = w.heap[k]?
theorem BX.fr {B RB MB : Nat} {w w' w'' : World} (hB : w.heap.size = B) (h : BX B RB MB w w') (f : Fr B RB MB w' w'') : BX B RB MB w w'' :=
  ⟨f.os.trans h.os, f.tape.trans h.tape, f.output.trans h.output, Nat.le_trans h.size f.size, fun k hk h1 h2 => (f.block k (by have := h.size; omega) h1 h2 (.inl hk)).trans (h.block k hk h1 h2)⟩
theorem BX.below {B RB MB : Nat} {w w' w'' : World} (h : BX B RB MB w w') (hb : Below B w' w'') : BX B RB MB w w'' :=
  ⟨hb.os.trans h.os, hb.tape.trans h.tape, hb.output.trans h.output, Nat.le_trans h.size hb.size, fun k hk h1 h2 => (hb.block k hk).trans (h.block k hk h1 h2)⟩
/-- The reducer, and the row of values. -/
structure VS (w2 : World) (B RB MB N : Nat) (c : List Ins) (vs : List Int) (vv : Value) (wr : World) : Prop where
  rs : RS wr B RB MB N c
  vals : wr.ownsRow B 3 1 vv vs.length (ints vs)
  bx : BX B RB MB w2 wr
section
variable {w2 wr w' : World} {B RB MB N : Nat} {c c' : List Ins} {vs : List Int} {vv : Value}
theorem VS.keep (h : VS w2 B RB MB N c vs vv wr) (hb : Below wr.heap.size wr w') : VS w2 B RB MB N c vs vv w' :=
  ⟨h.rs.below hb, own_below h.vals hb, h.bx.below (hb.mono h.rs.lb)⟩
theorem VS.call (hB : w2.heap.size = B) (h : VS w2 B RB MB N c vs vv wr) (hr : RS w' B RB MB N c') (hf : Fr B RB MB wr w') : VS w2 B RB MB N c' vs vv w' :=
  ⟨hr, hf.own h.vals (by decide) h.rs.lr h.rs.lm, h.bx.fr hB hf⟩
theorem VS.push {vv' : Value} {v : Int} (h : VS w2 B RB MB N c vs vv wr) (hg : wr.grownBy w' vv.ownBlock) (ho : w'.ownsRow B 3 1 vv' (vs.length + 1) (ints vs ++ [.int .i64 v])) (hb : Below B wr w') : VS w2 B RB MB N c (vs ++ [v]) vv' w' := by
  refine ⟨h.rs.other h.vals (by decide) (Nat.le_refl _) hg, ?_, h.bx.below hb⟩
  rw [List.length_append, show ints (vs ++ [v]) = ints vs ++ [.int .i64 v] by simp [ints]]
  exact ho
end

/-- The constants that so many outputs want. -/
def cfK (vs o : List Int) : Int → Bool := fun v => decide (v < 0) && hasV vs o v
/-- What is needed, and which constants the outputs want. -/
def bolF (nd : Nat → Bool) : Nat → Value := fun j => .bool (nd j)
structure NS (w7 : World) (g NB CB n m : Nat) (nd : Nat → Bool) (cf : Int → Bool) (wr : World) : Prop where
  bel : Below w7.heap.size w7 wr
  ops : Ops wr g
  row : wr.rowIs NB 4 n (bolF nd)
  map : BZ wr CB m cf
  lg : w7.heap.size ≤ g
  ln : w7.heap.size ≤ NB
  lc : w7.heap.size ≤ CB
  ne : NB ≠ CB
  ng : g ≠ NB
  nc : g ≠ CB
  hg : g < wr.heap.size
section
variable {w7 wr w' : World} {g NB CB n m : Nat} {nd nd' : Nat → Bool} {cf cf' : Int → Bool}
theorem NS.keep (h : NS w7 g NB CB n m nd cf wr) (hb : Below wr.heap.size wr w') : NS w7 g NB CB n m nd cf w' :=
  ⟨h.bel.trans (hb.mono h.bel.size), h.ops.below hb h.hg, row_below h.row hb, h.map.below hb, h.lg, h.ln, h.lc, h.ne, h.ng, h.nc, Nat.lt_of_lt_of_le h.hg hb.size⟩
theorem NS.congr (h : NS w7 g NB CB n m nd cf wr) (h1 : ∀ j, j < n → nd j = nd' j) (h2 : ∀ v, cf v = cf' v) : NS w7 g NB CB n m nd' cf' wr :=
  ⟨h.bel, h.ops, h.row.congr fun i hi => by show Value.bool (nd i) = _; rw [h1 i hi]; rfl, h.map.congr h2, h.lg, h.ln, h.lc, h.ne, h.ng, h.nc, h.hg⟩
theorem NS.mono {m' : Nat} (h : NS w7 g NB CB n m nd cf wr) (hm : m ≤ m') : NS w7 g NB CB n m' nd cf wr :=
  ⟨h.bel, h.ops, h.row, h.map.mono hm, h.lg, h.ln, h.lc, h.ne, h.ng, h.nc, h.hg⟩
theorem ops_set {w : World} {g b j : Nat} {v : Value} (h : Ops w g) (hne : g ≠ b) : Ops (w.setCell ⟨b, j, none⟩ v) g := fun i u hi => (World.cell?_setCell_other _ _ _ _ (fun e => hne (congrArg Addr.block e).symm)).trans (h i u hi)
theorem NS.set (h : NS w7 g NB CB n m nd cf wr) (j : Nat) : NS w7 g NB CB n m (fun i => nd i || decide (i = j)) cf (wr.setCell ⟨NB, j, none⟩ (.bool true)) := by
  refine ⟨h.bel.setCell h.ln _, ops_set h.ops h.ng, (h.row.set j (.bool true)).congr fun i hi => ?_, h.map.same (blk_setCell_other _ _ _ _ (by exact fun e => h.ne e.symm)), h.lg, h.ln, h.lc, h.ne, h.ng, h.nc, by simpa using h.hg⟩
  by_cases e : i = j
  · subst e; simp [bolF]
  · simp [bolF, e]
theorem ops_same {w w' : World} {g : Nat} (h : Ops w g) (hb : w'.heap[g]? = w.heap[g]?) : Ops w' g := fun i u hi => (World.cell?_of_block (a := ⟨g, 0 + i, none⟩) hb).trans (h i u hi)
theorem NS.put {m' : Nat} (h : NS w7 g NB CB n m nd cf wr) (hg : wr.grownBy w' (some CB)) (hm : BZ w' CB m' cf') : NS w7 g NB CB n m' nd cf' w' := by
  refine ⟨h.bel.grown hg h.bel.size fun k hk => ?_, ops_same h.ops (hg.block _ h.hg (by simp; exact h.nc)), row_grown h.row hg (by simp; exact h.ne), hm, h.lg, h.ln, h.lc, h.ne, h.ng, h.nc, Nat.lt_of_lt_of_le h.hg hg.size⟩
  simp only [Option.some.injEq] at hk
  have := h.lc
  omega
end
theorem NS.start {w7 w4 w5 : World} {g n : Nat} (h4 : Below w7.heap.size w7 w4) (ho : Ops w4 g) (hg : w7.heap.size ≤ g) (hg4 : g < w4.heap.size) (h5 : Below w4.heap.size w4 w5) (hr : w5.rowIs w4.heap.size 4 n (fun _ => .bool false)) (hs : w5.heap.size = w4.heap.size + 1) (vs : List Int) :
    NS w7 g w4.heap.size (w4.heap.size + 1) n 0 (nd0 vs []) (cfK vs []) (w5.alloc (.map #[] 0)) := by
  have hb : Below w4.heap.size w4 (w5.alloc (.map #[] 0)) := h5.alloc (by omega) _
  refine ⟨h4.trans (hb.mono h4.size), ho.below hb hg4, (row_below hr (bel_alloc _ _)).congr fun i hi => rfl, ?_, hg, h4.size, by have := h4.size; omega, by omega, by omega, by omega, by simp; omega⟩
  have := (BZ.made w5).congr (g := cfK vs []) fun s => by simp [cfK, hasV]
  rw [hs] at this
  exact this

theorem row_apart53 {w : World} {b : Nat} {t : TypeId} {n : Nat} {f : Nat → Value} {base : Nat} {e : TypeId} {sz : Nat} {v : Value} {m : Nat} {xs : List Value} (h1 : w.rowIs b t n f) (h2 : w.ownsRow base e sz v m xs) (hne : t ≠ e) : some b ≠ v.ownBlock := by
  intro h
  obtain ⟨c1, hc1, _⟩ := h1
  obtain ⟨_, c2, hc2⟩ := own_block h2 h.symm
  rw [hc1] at hc2
  simp only [Option.some.injEq, Obj.cells.injEq] at hc2
  exact hne hc2.2.1
theorem boxF {w w0 : World} {cs : Array Value} {T : TypeId} (h : w.alloc (.cells cs T) = w0) (j : Nat) : w0.frozen? ⟨w.heap.size, j, none⟩ = false := by
  subst h
  have hb := heap_alloc_new w (.cells cs T)
  simp only [World.frozen?, hb]
  simp

def p3 (N : Nat) (va vb : Value) : Nat → Value
  | 0 => .int .i64 N
  | 1 => va
  | _ => vb
/-- The new program in its block, the map of places behind it. -/
structure QS (w8 : World) (N : Nat) (oc : List Ins) (oo : List Int) (n : Nat) (pl : Int → Int) (va vb : Value) (wr : World) : Prop where
  bel : Below w8.heap.size w8 wr
  q : wr.rowIs w8.heap.size 28 3 (p3 N va vb)
  map : IZ wr (w8.heap.size + 1) n pl
  c : wr.ownsRow (w8.heap.size + 2) 47 3 va oc.length (icells oc)
  o : wr.ownsRow (w8.heap.size + 2) 3 1 vb oo.length (ints oo)
section
variable {w8 wr w' : World} {N n : Nat} {oc : List Ins} {oo : List Int} {pl pl' : Int → Int} {va vb : Value}
theorem QS.hi (h : QS w8 N oc oo n pl va vb wr) : w8.heap.size + 2 ≤ wr.heap.size := by have := h.map.lt; omega
theorem QS.keep (h : QS w8 N oc oo n pl va vb wr) (hb : Below wr.heap.size wr w') : QS w8 N oc oo n pl va vb w' :=
  ⟨h.bel.trans (hb.mono h.bel.size), row_below h.q hb, h.map.below hb, own_below h.c hb, own_below h.o hb⟩
theorem QS.congr (h : QS w8 N oc oo n pl va vb wr) (he : ∀ s, pl s = pl' s) : QS w8 N oc oo n pl' va vb wr := ⟨h.bel, h.q, h.map.congr he, h.c, h.o⟩
theorem QS.mono {n' : Nat} (h : QS w8 N oc oo n pl va vb wr) (hn : n ≤ n') : QS w8 N oc oo n' pl va vb wr := ⟨h.bel, h.q, h.map.mono hn, h.c, h.o⟩
theorem own_ne_low {w : World} {base : Nat} {e : TypeId} {sz : Nat} {v : Value} {n : Nat} {xs : List Value} (h : w.ownsRow base e sz v n xs) {b : Nat} (hb : b < base) : v.ownBlock = none ∨ v.ownBlock ≠ some b := by
  cases hb' : v.ownBlock with
  | none => exact .inl rfl
  | some g =>
    right
    have := (own_block h hb').1
    simp only [ne_eq, Option.some.injEq]
    omega
theorem QS.put {n' : Nat} (h : QS w8 N oc oo n pl va vb wr) (hg : wr.grownBy w' (some (w8.heap.size + 1))) (hm : IZ w' (w8.heap.size + 1) n' pl') : QS w8 N oc oo n' pl' va vb w' := by
  refine ⟨h.bel.grown hg h.bel.size fun k hk => ?_, row_grown h.q hg (by simp), hm, h.c.kept hg (own_ne_low h.c (by omega)), h.o.kept hg (own_ne_low h.o (by omega))⟩
  simp only [Option.some.injEq] at hk
  omega
theorem QS.pushC {va' : Value} {x : Ins} (h : QS w8 N oc oo n pl va vb wr) (hg : wr.grownBy w' va.ownBlock) (ho : w'.ownsRow (w8.heap.size + 2) 47 3 va' (oc.length + 1) (icells oc ++ [.int .i64 x.op, .int .i64 x.a, .int .i64 x.b])) : QS w8 N (oc ++ [x]) oo n pl va' vb (w'.setCell ⟨w8.heap.size, 1, none⟩ va') := by
  have hq : w'.rowIs w8.heap.size 28 3 (p3 N va vb) := row_grown h.q hg (row_ne_low53 h.c (by omega))
  refine ⟨(h.bel.grown hg h.bel.size fun k hk => ?_).setCell (Nat.le_refl _) _, (hq.set 1 va').congr ?_, (h.map.same (hg.block _ h.map.lt (row_ne_low53 h.c (by omega)))).same (blk_setCell_other _ _ _ _ (by show w8.heap.size + 1 ≠ w8.heap.size; omega)), ?_, ownsRow_setCell_below (h.o.kept hg (own_apart h.o h.c (by decide))) (by show w8.heap.size < _; omega) _⟩
  · have := (own_block h.c hk).1; omega
  · intro i hi
    have : i = 0 ∨ i = 1 ∨ i = 2 := by omega
    rcases this with rfl | rfl | rfl <;> rfl
  · rw [List.length_append, icells_snoc]
    exact ownsRow_setCell_below ho (by show w8.heap.size < _; omega) _
theorem QS.pushO {vb' : Value} {v : Int} (h : QS w8 N oc oo n pl va vb wr) (hg : wr.grownBy w' vb.ownBlock) (ho : w'.ownsRow (w8.heap.size + 2) 3 1 vb' (oo.length + 1) (ints oo ++ [.int .i64 v])) : QS w8 N oc (oo ++ [v]) n pl va vb' (w'.setCell ⟨w8.heap.size, 2, none⟩ vb') := by
  have hq : w'.rowIs w8.heap.size 28 3 (p3 N va vb) := row_grown h.q hg (row_ne_low53 h.o (by omega))
  refine ⟨(h.bel.grown hg h.bel.size fun k hk => ?_).setCell (Nat.le_refl _) _, (hq.set 2 vb').congr ?_, (h.map.same (hg.block _ h.map.lt (row_ne_low53 h.o (by omega)))).same (blk_setCell_other _ _ _ _ (by show w8.heap.size + 1 ≠ w8.heap.size; omega)), ownsRow_setCell_below (h.c.kept hg (own_apart h.c h.o (by decide))) (by show w8.heap.size < _; omega) _, ?_⟩
  · have := (own_block h.o hk).1; omega
  · intro i hi
    have : i = 0 ∨ i = 1 ∨ i = 2 := by omega
    rcases this with rfl | rfl | rfl <;> rfl
  · rw [List.length_append, show ints (oo ++ [v]) = ints oo ++ [.int .i64 v] by simp [ints]]
    exact ownsRow_setCell_below ho (by show w8.heap.size < _; omega) _
theorem QS.cells (h : QS w8 N oc oo n pl va vb wr) : wr.cell? ⟨w8.heap.size, 0, none⟩ = some (.int .i64 N) ∧ wr.cell? ⟨w8.heap.size, 1, none⟩ = some va ∧ wr.cell? ⟨w8.heap.size, 2, none⟩ = some vb ∧ wr.frozen? ⟨w8.heap.size, 1, none⟩ = false ∧ wr.frozen? ⟨w8.heap.size, 2, none⟩ = false :=
  ⟨h.q.cell (by omega), h.q.cell (by omega), h.q.cell (by omega), h.q.frozen 1, h.q.frozen 2⟩
theorem QS.start (w8 : World) (N : Nat) : QS w8 N [] [] 0 (fun _ => 0) (.slice none 0 0) (.slice none 0 0) ((w8.alloc (.cells #[.int .i64 N, .slice none 0 0, .slice none 0 0] 28)).alloc (.map #[] 0)) := by
  refine ⟨(bel_alloc _ _).alloc (by simp) _, ?_, ?_, World.ownsRow_nil _ _ _ _, World.ownsRow_nil _ _ _ _⟩
  · refine row_below (World.rowIs_alloc _ _ _ _ ?_) (bel_alloc _ _)
    intro i hi
    have hi' : i < 3 := hi
    have : i = 0 ∨ i = 1 ∨ i = 2 := by omega
    rcases this with rfl | rfl | rfl <;> rfl
  · have := IZ.made (w8.alloc (.cells #[.int .i64 N, .slice none 0 0, .slice none 0 0] 28))
    rw [World.size_alloc] at this
    exact this
end

theorem BX.low {B RB MB b : Nat} {w1 w2 wr : World} (hb : Below b w1 w2) (h : BX B RB MB w2 wr) (h1 : b ≤ RB) (h2 : b ≤ MB) (h3 : b ≤ B) : Below b w1 wr :=
  ⟨h.os.trans hb.os, h.tape.trans hb.tape, h.output.trans hb.output, Nat.le_trans hb.size h.size, fun k hk => (h.block k (by omega) (by omega) (by omega)).trans (hb.block k hk)⟩
/-- A number of a row that the call owns. -/
theorem own_num {w : World} {base n j : Nat} {ao : Option Addr} {cap : Nat} {l : List Int} (h : w.ownsRow base 3 1 (.slice ao n cap) n (ints l)) (hj : j < l.length) :
    ∃ g, ao = some ⟨g, 0, none⟩ ∧ base ≤ g ∧ w.cell? ⟨g, j, none⟩ = some (.int .i64 (l.getD j 0)) := by
  rcases h.2 with ⟨h1, h2⟩ | ⟨g, cap', cur, h1, hg, _⟩
  · have := h.1
    rw [show (ints l).length = l.length by simp [ints]] at this
    omega
  · simp only [Value.slice.injEq] at h1
    obtain ⟨rfl, _, _⟩ := h1
    refine ⟨g, rfl, hg, ?_⟩
    obtain ⟨b, o, e, hc⟩ := (Sl.of_owns h).cell (show (ints l)[j]? = some (.int .i64 (l.getD j 0)) by simp [ints, hj])
    simp only [Option.some.injEq, Addr.mk.injEq, and_true] at e
    obtain ⟨rfl, rfl⟩ := e
    rwa [Nat.zero_add] at hc

/-- What follows a statement, as a variable: 'go_cut' wants one. -/
theorem wp_then_var {P : Program} {c : Code} {Q : Exit → Act → World → Prop} {a : Act} {w : World} (h : ∀ K : Act → World → Prop, Hid (∀ a w, Q .normal a w → K a w) → Hid (∀ a w, K a w → Q .normal a w) → Code.wp P c (Exit.then K Q) a w) : Code.wp P c Q a w :=
  Code.wp_mono (fun e a w h => by cases e <;> exact h) (h (fun a w => Q .normal a w) (hid fun _ _ h => h) (hid fun _ _ h => h))

/-! Plain: the loops' steps. -/
theorem stC1 {N : Nat} {C : List Ins} {vs : List Int} {a b : Int} : stC N C vs ⟨1, a, b⟩ = C ∧ stV N C vs ⟨1, a, b⟩ = -2 := ⟨rfl, rfl⟩
theorem stC2 {N : Nat} {C : List Ins} {vs : List Int} {a b : Int} : stC N C vs ⟨2, a, b⟩ = C ∧ stV N C vs ⟨2, a, b⟩ = -1 := ⟨rfl, rfl⟩
theorem stC5 {N : Nat} {C : List Ins} {vs : List Int} {a b : Int} : stC N C vs ⟨5, a, b⟩ = notC N C (vs.getD a.toNat 0) ∧ stV N C vs ⟨5, a, b⟩ = notV N C (vs.getD a.toNat 0) := ⟨rfl, rfl⟩
theorem stC3 {N : Nat} {C : List Ins} {vs : List Int} {a b : Int} : stC N C vs ⟨3, a, b⟩ = andC N C (minZ (vs.getD a.toNat 0) (vs.getD b.toNat 0)) (maxZ (vs.getD a.toNat 0) (vs.getD b.toNat 0)) ∧ stV N C vs ⟨3, a, b⟩ = andV N C (minZ (vs.getD a.toNat 0) (vs.getD b.toNat 0)) (maxZ (vs.getD a.toNat 0) (vs.getD b.toNat 0)) := ⟨rfl, rfl⟩
theorem stC4 {N : Nat} {C : List Ins} {vs : List Int} {a b : Int} : stC N C vs ⟨4, a, b⟩ = xorC N C (minZ (vs.getD a.toNat 0) (vs.getD b.toNat 0)) (maxZ (vs.getD a.toNat 0) (vs.getD b.toNat 0)) ∧ stV N C vs ⟨4, a, b⟩ = xorV N C (minZ (vs.getD a.toNat 0) (vs.getD b.toNat 0)) (maxZ (vs.getD a.toNat 0) (vs.getD b.toNat 0)) := ⟨rfl, rfl⟩
theorem red_take {N k : Nat} {c : List Ins} {x : Ins} (hx : c[k]? = some x) : redS N (c.take (k + 1)) = (stC N (redS N (c.take k)).1 (redS N (c.take k)).2 x, (redS N (c.take k)).2 ++ [stV N (redS N (c.take k)).1 (redS N (c.take k)).2 x]) := by rw [take_snoc hx, redS_snoc]
theorem nd0_snoc {vs o : List Int} {k : Int} (j : Nat) : nd0 vs (o ++ [k]) j = (nd0 vs o j || decide (vs.getD k.toNat 0 = (j : Int))) := by simp [nd0]
theorem hasV_snoc {vs o : List Int} {k v : Int} : hasV vs (o ++ [k]) v = (hasV vs o v || decide (vs.getD k.toNat 0 = v)) := by simp [hasV]
theorem cfK_neg {vs o : List Int} {k v : Int} (hv : vs.getD k.toNat 0 = v) (h : v < 0) (t : Int) : (decide (t = v) || cfK vs o t) = cfK vs (o ++ [k]) t := by
  unfold cfK
  rw [hasV_snoc, hv]
  by_cases e : t = v
  · subst e; simp [h]
  · have e' : ¬ v = t := fun h => e h.symm
    simp [e, e']
theorem cfK_pos {vs o : List Int} {k v : Int} (hv : vs.getD k.toNat 0 = v) (h : 0 ≤ v) (t : Int) : cfK vs o t = cfK vs (o ++ [k]) t := by
  unfold cfK
  rw [hasV_snoc, hv]
  by_cases e : t < 0
  · have e' : ¬ v = t := by omega
    simp [e']
  · simp [e]
theorem nd0_neg {vs o : List Int} {k v : Int} (hv : vs.getD k.toNat 0 = v) (h : v < 0) (j : Nat) : nd0 vs o j = nd0 vs (o ++ [k]) j := by
  rw [nd0_snoc, hv]
  have : ¬ v = (j : Int) := by omega
  simp [this]
theorem nd0_pos {vs o : List Int} {k v : Int} (hv : vs.getD k.toNat 0 = v) (h : 0 ≤ v) (j : Nat) : (nd0 vs o j || decide (j = v.toNat)) = nd0 vs (o ++ [k]) j := by
  rw [nd0_snoc, hv]
  congr 1
  rw [decide_eq_decide]
  omega
theorem ndS_no {N i : Nat} {c : List Ins} {nd : Nat → Bool} (h : nd (N + i) = false) (j : Nat) : nd j = ndStep N c nd i j := by simp [ndStep, h]
theorem ndS_one {N i : Nat} {c : List Ins} {nd : Nat → Bool} {x : Ins} (hx : c[i]? = some x) (h : nd (N + i) = true) (h2 : twoB x.op = false) (ha : 0 ≤ x.a) (j : Nat) : (nd j || decide (j = x.a.toNat)) = ndStep N c nd i j := by
  simp only [ndStep, h, getD_of hx, usesB, h2, Bool.true_and, Bool.false_and, Bool.or_false]
  congr 1
  rw [decide_eq_decide]
  omega
theorem ndS_two {N i : Nat} {c : List Ins} {nd : Nat → Bool} {x : Ins} (hx : c[i]? = some x) (h : nd (N + i) = true) (h2 : twoB x.op = true) (ha : 0 ≤ x.a) (hb : 0 ≤ x.b) (j : Nat) : ((nd j || decide (j = x.a.toNat)) || decide (j = x.b.toNat)) = ndStep N c nd i j := by
  simp only [ndStep, h, getD_of hx, usesB, h2, Bool.true_and]
  rw [Bool.or_assoc]
  congr 1
  congr 1
  · rw [decide_eq_decide]; omega
  · rw [decide_eq_decide]; omega
/-- Places, at any number. -/
def plZ (pl : Nat → Int) : Int → Int := fun t => if t < 0 then 0 else pl t.toNat
theorem plZ_nat {pl : Nat → Int} {t : Int} (h : 0 ≤ t) : plZ pl t = pl t.toNat := by rw [plZ, if_neg (by omega)]
theorem plZ_init (k : Nat) (t : Int) : (if t = (k : Int) then (k : Int) else plZ (fun j => if j < k then (j : Int) else 0) t) = plZ (fun j => if j < k + 1 then (j : Int) else 0) t := by
  unfold plZ
  by_cases e : t = (k : Int)
  · subst e
    rw [if_pos rfl, if_neg (by omega)]
    show _ = if _ then _ else _
    rw [if_pos (by omega)]
    omega
  · rw [if_neg e]
    by_cases e0 : t < 0
    · rw [if_pos e0, if_pos e0]
    · rw [if_neg e0, if_neg e0]
      show (if _ then _ else _) = if _ then _ else _
      by_cases e1 : t.toNat < k
      · rw [if_pos e1, if_pos (by omega)]
      · rw [if_neg e1, if_neg (by omega)]
theorem plZ_up (pl : Nat → Int) (i : Nat) (v t : Int) : (if t = (i : Int) then v else plZ pl t) = plZ (plU pl i v) t := by
  unfold plZ plU
  by_cases e : t = (i : Int)
  · subst e
    rw [if_pos rfl, if_neg (by omega), if_pos (by omega)]
  · rw [if_neg e]
    by_cases e0 : t < 0
    · rw [if_pos e0, if_pos e0]
    · rw [if_neg e0, if_neg e0, if_neg (by omega)]
theorem pack_no {N i : Nat} {c : List Ins} {nd : Nat → Bool} (h : nd (N + i) = false) : packS N c nd (i + 1) = packS N c nd i := by
  rw [packS, h]; rfl
theorem pack_yes {N i : Nat} {c : List Ins} {nd : Nat → Bool} {x : Ins} (hx : c[i]? = some x) (h : nd (N + i) = true) : packS N c nd (i + 1) = ((packS N c nd i).1 ++ [moved (packS N c nd i).2 x], plU (packS N c nd i).2 (N + i) ((N + (packS N c nd i).1.length : Nat) : Int)) := by
  rw [packS, if_pos h, getD_of hx]
theorem pack_len (N : Nat) (c : List Ins) (nd : Nat → Bool) (i : Nat) : (packS N c nd i).1.length ≤ i := by
  induction i with
  | zero => simp [packS]
  | succ i ih =>
    rw [packS]
    split
    · simp; omega
    · omega
/-- The constants, one after the other: code and places. -/
def cstS (N : Nat) (has : Int → Bool) (oc : List Ins) (pl : Int → Int) : Nat → List Ins × (Int → Int)
  | 0 => (oc, pl)
  | k + 1 => if has ((k : Int) - 2) then ((cstS N has oc pl k).1 ++ [⟨(k : Int) + 1, 0, 0⟩], fun t => if t = (k : Int) - 2 then ((N + (cstS N has oc pl k).1.length : Nat) : Int) else (cstS N has oc pl k).2 t) else cstS N has oc pl k
theorem cst_no {N k : Nat} {has : Int → Bool} {oc : List Ins} {pl : Int → Int} (h : has ((k : Int) - 2) = false) : cstS N has oc pl (k + 1) = cstS N has oc pl k := by rw [cstS, h]; rfl
theorem cst_yes {N k : Nat} {has : Int → Bool} {oc : List Ins} {pl : Int → Int} (h : has ((k : Int) - 2) = true) : cstS N has oc pl (k + 1) = ((cstS N has oc pl k).1 ++ [⟨(k : Int) + 1, 0, 0⟩], fun t => if t = (k : Int) - 2 then ((N + (cstS N has oc pl k).1.length : Nat) : Int) else (cstS N has oc pl k).2 t) := by rw [cstS, if_pos h]
theorem cst_code (N : Nat) (has : Int → Bool) (oc : List Ins) (pl : Int → Int) : (cstS N has oc pl 2).1 = oc ++ constL (has (-2)) (has (-1)) := by
  unfold cstS cstS cstS
  simp only [show ((1 : Nat) : Int) - 2 = -1 by rfl, show ((0 : Nat) : Int) - 2 = -2 by rfl]
  cases has (-1) <;> cases has (-2) <;> simp [constL]
theorem cst_pl {N : Nat} {has : Int → Bool} {oc : List Ins} {pl : Nat → Int} {v : Int} (h2 : v = -2 → has (-2) = true) (h1 : v = -1 → has (-1) = true) (h0 : v ≠ -2 → v ≠ -1 → 0 ≤ v) : (cstS N has oc (plZ pl) 2).2 v = outV N oc.length (has (-2)) pl v := by
  unfold cstS cstS cstS outV
  simp only [show ((1 : Nat) : Int) - 2 = -1 by rfl, show ((0 : Nat) : Int) - 2 = -2 by rfl]
  by_cases e2 : v = -2
  · rw [h2 e2, e2]
    cases has (-1) <;> simp
  · by_cases e1 : v = -1
    · rw [h1 e1, e1]
      cases has (-2) <;> simp [Int.add_assoc]
    · have := h0 e2 e1
      rw [if_neg e2, if_neg e1]
      cases has (-2) <;> cases has (-1) <;> simp [e1, e2, plZ_nat this]
theorem cst_len (N : Nat) (has : Int → Bool) (oc : List Ins) (pl : Int → Int) (k : Nat) : (cstS N has oc pl k).1.length ≤ oc.length + k := by
  induction k with
  | zero => simp [cstS]
  | succ k ih => rw [cstS]; split; simp; omega; omega
end Go.Proofs.YtcdfghogmdhfcaaGreatDoor
