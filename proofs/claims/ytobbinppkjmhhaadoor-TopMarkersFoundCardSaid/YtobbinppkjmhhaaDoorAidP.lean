/-
  Small aids for the walks: worlds step by step, calls in regions without an order, types, rows of numbers.
  No condition: these are general lemmas.
-/
import Derived.Test.YtobbinppkjmhhaaDoorProg
import Derived.Test.YtobbinppkjmhhaaDoorLibTwo
namespace Go.Proofs.YtobbinppkjmhhaaDoor
open Go.RowKit
set_option linter.unusedVariables false

theorem Tryd.infoInt : (Tryd.prog.info? 3).map (fun i => (i.zero, i.size, i.bytes)) = some (some (.int .i64 0), 1, 8) := by kernel_rfl
theorem Tryd.infoString : (Tryd.prog.info? 9).map (fun i => (i.zero, i.size, i.bytes)) = some (some (.string ⟨#[]⟩), 1, 16) := by kernel_rfl

/-- One call more. -/
theorem bel_step {w wc wd w' : World} (h : Below w.heap.size w wc) (hb : Below wd.heap.size wd w') (hd : wd.os = wc.os ∧ wd.tape = wc.tape ∧ wd.output = wc.output ∧ wd.heap = wc.heap := by exact ⟨rfl, rfl, rfl, rfl⟩) : Below w.heap.size w w' := by
  obtain ⟨d1, d2, d3, d4⟩ := hd
  refine h.trans ⟨hb.os.trans d1, hb.tape.trans d2, hb.output.trans d3, by rw [← d4]; exact hb.size, fun k hk => ?_⟩
  rw [hb.block k (by rw [d4]; have := h.size; omega), d4]
theorem bel_alloc (w : World) (o : Obj) : Below w.heap.size w (w.alloc o) := (Below.refl _ _).alloc (Nat.le_refl _) _
theorem below_now {X Z : World} (h1 : Z.os = X.os ∧ Z.tape = X.tape ∧ Z.output = X.output) (h2 : Z.heap = X.heap ∨ ∃ o, Z.heap = X.heap.push o) : Below X.heap.size X Z := by
  rcases h2 with h2 | ⟨o, h2⟩
  · exact ⟨h1.1, h1.2.1, h1.2.2, by rw [h2]; exact Nat.le_refl _, fun k _ => by rw [h2]⟩
  · exact ⟨h1.1, h1.2.1, h1.2.2, by rw [h2, Array.size_push]; omega, fun k hk => by rw [h2, Array.getElem?_push, if_neg (by omega)]⟩
theorem below_via {X Z Y : World} (hb : Below Z.heap.size Z Y) (h1 : Z.os = X.os ∧ Z.tape = X.tape ∧ Z.output = X.output) (h2 : Z.heap = X.heap ∨ ∃ o, Z.heap = X.heap.push o) : Below X.heap.size X Y :=
  (below_now h1 h2).trans (hb.mono (below_now h1 h2).size)
theorem own_slice {w : World} {base : Nat} {e : TypeId} {sz : Nat} {v : Value} {n : Nat} {xs : List Value} (h : w.ownsRow base e sz v n xs) : ∃ ao cap, v = .slice ao n cap := by
  rcases h.2 with ⟨hv, h0⟩ | ⟨g, cap, cur, hv, _⟩
  · exact ⟨none, 0, by rw [hv, h0]⟩
  · exact ⟨_, cap, hv⟩

/-- What a call inside a region without an order owes, in three forms. -/
theorem quietD {P : Program} {f : FuncId} {args : Array Value} {w : World} {n : Nat} {v : Value} (h : Calls P f args (w.drewN n) fun e w' => e = .returned v ∧ Dr (w.drewN n) w') : Calls P f args (w.drewN n) fun e w'' => e = .returned v ∧ ∃ m, w'' = w.drewN m :=
  h.mono fun _ _ ⟨he, m, hm⟩ => ⟨he, n + m, by rw [hm, drewN_drewN]⟩
theorem quietR {P : Program} {f : FuncId} {args : Array Value} {w : World} {n : Nat} {v : Value} (h : Calls P f args (w.drewN n) fun e w' => e = .returned v ∧ w' = w.drewN n) : Calls P f args (w.drewN n) fun e w'' => e = .returned v ∧ ∃ m, w'' = w.drewN m :=
  h.mono fun _ _ ⟨he, hm⟩ => ⟨he, n, hm⟩
theorem quietS {P : Program} {f : FuncId} {args : Array Value} {w : World} {n : Nat} {v : Value} (h : Calls P f args (w.drewN n) fun e w' => e = .returned v ∧ w.drewN n = w') : Calls P f args (w.drewN n) fun e w'' => e = .returned v ∧ ∃ m, w'' = w.drewN m :=
  h.mono fun _ _ ⟨he, hm⟩ => ⟨he, n, hm.symm⟩

/-- A row of numbers. -/
def rowV (m : Nat) (g : Nat → Int) : List Value := (List.range m).map fun j => .int .i64 (g j)
theorem rowV_len (m : Nat) (g : Nat → Int) : (rowV m g).length = m := by simp [rowV]
theorem rowV_get {m j : Nat} (g : Nat → Int) (h : j < m) : (rowV m g)[j]? = some (.int .i64 (g j)) := by simp [rowV, h]
end Go.Proofs.YtobbinppkjmhhaaDoor
