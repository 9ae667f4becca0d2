/-
  The states of the essential part, as a plain function: rounds that leave out the states that no edge inside leads to, or leaves.
  A map from ints to bools that the call has made: what it says of a number; a look-up, a store.
  slices.DeleteFunc at the states, with the closure of graph.Essential.
  Conditions: No condition. No condition. No condition beyond the states lying in 0 .. 1000, the maps and their cells lying in other blocks.
-/
import Derived.Test.YtppflnkadjddiaaGraphKeep
import Derived.Maps.Own
import Derived.Maps.OwnSet
import Derived.Maps.Views
namespace Go.Proofs.Ytppflnkadjddiaa
open Go.RowKit Go.Sort
set_option linter.unusedVariables false

def inB (es : List Edge) (st : List Int) (s : Int) : Bool := es.any (fun x => decide (x.t = s) && hasB st x.f)
def outB (es : List Edge) (st : List Int) (s : Int) : Bool := es.any (fun x => decide (x.f = s) && hasB st x.t)
def stays (es : List Edge) (st : List Int) (s : Int) : Bool := inB es st s && outB es st s
def rnd (es : List Edge) (st : List Int) : List Int := st.filter (stays es st)
def ess (es : List Edge) (st : List Int) : List Int := if h : (rnd es st).length < st.length then ess es (rnd es st) else st
termination_by st.length
theorem ess_step {es : List Edge} {st : List Int} (h : (rnd es st).length < st.length) : ess es st = ess es (rnd es st) := by rw [ess, dif_pos h]
theorem ess_done {es : List Edge} {st : List Int} (h : ¬ (rnd es st).length < st.length) : ess es st = st := by rw [ess, dif_neg h]
theorem rnd_len (es : List Edge) (st : List Int) : (rnd es st).length ≤ st.length := List.length_filter_le _ _
theorem rnd_same {es : List Edge} {st : List Int} (h : ¬ (rnd es st).length < st.length) : rnd es st = st := by
  have := rnd_len es st
  exact List.filter_sublist.eq_of_length (by show (rnd es st).length = st.length; omega)
theorem rnd_sub (es : List Edge) (st : List Int) : (rnd es st).Sublist st := List.filter_sublist
theorem ess_sub (es : List Edge) (st : List Int) : (ess es st).Sublist st := by
  induction hn : st.length using Nat.strongRecOn generalizing st with
  | _ n ih =>
    by_cases h : (rnd es st).length < st.length
    · rw [ess_step h]
      exact (ih _ (by omega) (rnd es st) rfl).trans (rnd_sub es st)
    · rw [ess_done h]; exact List.Sublist.refl _
/-- The numbers below n. -/
def upTo (n : Nat) : List Int := (List.range n).map (fun (k : Nat) => (k : Int))
theorem upTo_succ (n : Nat) : upTo (n + 1) = upTo n ++ [(n : Int)] := by simp [upTo, List.range_succ]
theorem upTo_len (n : Nat) : (upTo n).length = n := by simp [upTo]
theorem upTo_asc (n : Nat) : (upTo n).Pairwise (· < ·) := by
  unfold upTo
  rw [List.pairwise_map]
  exact List.pairwise_lt_range.imp (fun h => by omega)
/-- What is kept of the first k states. -/
def kept (es : List Edge) (st : List Int) (k : Nat) : List Int := (st.take k).filter (stays es st)
theorem kept_yes {es : List Edge} {st : List Int} {k : Nat} {s : Int} (hs : st[k]? = some s) (h : stays es st s = true) : kept es st (k + 1) = kept es st k ++ [s] := by
  rw [kept, take_snoc hs, List.filter_append]; simp [kept, h]
theorem kept_no {es : List Edge} {st : List Int} {k : Nat} {s : Int} (hs : st[k]? = some s) (h : stays es st s = false) : kept es st (k + 1) = kept es st k := by
  rw [kept, take_snoc hs, List.filter_append]; simp [kept, h]
theorem kept_len (es : List Edge) (st : List Int) (k : Nat) : (kept es st k).length ≤ k := by
  have := List.length_filter_le (stays es st) (st.take k)
  rw [List.length_take] at this
  unfold kept; omega
theorem kept_all {es : List Edge} {st : List Int} {k : Nat} (h : st.length ≤ k) : kept es st k = rnd es st := by rw [kept, take_all h, rnd]
theorem any_snoc {es : List Edge} {k : Nat} {x : Edge} (p : Edge → Bool) (hx : es[k]? = some x) : (es.take (k + 1)).any p = ((es.take k).any p || p x) := by rw [take_snoc hx]; simp
def boolN : Value → Nat
  | .bool true => 1
  | _ => 0

end Go.Proofs.Ytppflnkadjddiaa

namespace Go.Proofs.Ytppflnkadjddiaa
open Go.RowKit Go.Sort
set_option linter.unusedVariables false

theorem Try.keyInt : Maps.Keyed Try.prog 3 := Maps.int_keyed Try.underlying3

/-- The block b is a map of at most n entries; it says f of each number. -/
def BM (w : World) (b n : Nat) (f : Int → Bool) : Prop :=
  ∃ D : DataW Unit, w.ownsMap Try.prog 3 (plainElem Try.prog 4) b n D ∧ ∀ s : Int, D.atKey (.int .i64 s) (.lit (.bool false)) = .lit (.bool (f s))
theorem BM.made (w : World) : BM (w.alloc (.map #[] 0)) w.heap.size 0 (fun _ => false) := ⟨_, World.ownsMap_made w _ _ _, fun s => rfl⟩
theorem BM.kept {w w' : World} {b n : Nat} {f : Int → Bool} (h : BM w b n f) {B : Nat} (hb : Below B w w') (hB : b < B) : BM w' b n f := by
  obtain ⟨D, ⟨es, clock, hh, hF, hs, hD⟩, hf⟩ := h
  exact ⟨D, ⟨es, clock, (hb.block b hB).trans hh, hF, hs, hD⟩, hf⟩
theorem BM.look {w : World} {b n : Nat} {f : Int → Bool} (h : BM w b n f) (s : Int) (h0 : 0 ≤ s) (h1 : s ≤ 1000) : (Instr.lookup 118 (.map (some b)) (.int .i64 s) false).run Try.prog w = .ok (.bool (f s)) w := by
  obtain ⟨D, hD, hf⟩ := h
  obtain ⟨v, ps, hrun, hv⟩ := hD.lookup Try.keyInt Try.underlying118 (by exact Try.zeroValue4 w) (plainElem_bool Try.underlying4 false) (Maps.keyOf_int_mk Try.underlying3 (WalkArith.wf_i64 (by omega)) : keyOf Try.prog 3 (.int .i64 s) = some (.int .i64 s))
  rw [hf s] at hv
  have : v = .bool (f s) := by
    revert hv
    unfold plainElem
    rw [Try.underlying4]
    cases v <;> simp +contextual
  rw [hrun, this]
theorem BM.store {w : World} {b n : Nat} {f : Int → Bool} (h : BM w b n f) (hn : n < 100000) (s : Int) (h0 : 0 ≤ s) (h1 : s ≤ 1000) :
    ∃ w', (Instr.mapUpdate 118 (.map (some b)) (.int .i64 s) (.bool true)).run Try.prog w = .ok () w' ∧ BM w' b (n + 1) (fun t => decide (t = s) || f t) ∧ w.grownBy w' (some b) := by
  obtain ⟨D, hD, hf⟩ := h
  obtain ⟨w', hrun, hown, hg⟩ := hD.update Try.keyInt Try.underlying118 (by unfold maxLen; omega) (Maps.keyOf_int_mk Try.underlying3 (WalkArith.wf_i64 (by omega)) : keyOf Try.prog 3 (.int .i64 s) = some (.int .i64 s)) (plainElem_bool Try.underlying4 true)
  refine ⟨w', hrun, ⟨_, hown, fun t => ?_⟩, hg⟩
  by_cases ht : t = s
  · subst ht
    rw [Maps.atKey_put_same hD.isMap (show WideAt.IsKeyLit (.int .i64 t) from trivial)]; simp
  · rw [Maps.atKey_put_other (by simpa using ht), hf t]; simp [ht]
set_option maxHeartbeats 1000000 in
/-- The closure that Essential hands to DeleteFunc. -/
theorem clos84_any (B1 B2 b1 b2 n1 n2 : Nat) (f g : Int → Bool) (s : Int) (w : World) (h0 : 0 ≤ s) (h1 : s ≤ 1000) (c1 : w.cell? ⟨B1, 0, none⟩ = some (.map (some b1))) (c2 : w.cell? ⟨B2, 0, none⟩ = some (.map (some b2))) (m1 : BM w b1 n1 f) (m2 : BM w b2 n2 g) :
    Calls Try.prog 84 #[.int .i64 s, .pointer (some ⟨B1, 0, none⟩), .pointer (some ⟨B2, 0, none⟩)] w fun e w' => e = .returned (.bool (!f s || !g s)) ∧ w = w' := by
  have l1 := m1.look s h0 h1
  have l2 := m2.look s h0 h1
  clear m1 m2
  generalize f s = F at *
  generalize g s = G at *
  cases F
  · go_enter Try.func84, Try.ntmps84
    go_wp2
    go_ret
    exact ⟨rfl, rfl⟩
  · go_enter Try.func84, Try.ntmps84
    go_wp2
    go_ret
    exact ⟨rfl, rfl⟩
end Go.Proofs.Ytppflnkadjddiaa

namespace Go.Proofs.Ytppflnkadjddiaa
open Go.RowKit Go.Sort
set_option linter.unusedVariables false

/-- A state's value. -/
def encS (x : Fin 1001) : Value := .int .i64 ((x.val : Nat) : Int)
theorem lift_states : ∀ (st : List Int), (∀ s ∈ st, 0 ≤ s ∧ s ≤ 1000) → ∃ d : List (Fin 1001), st = d.map (fun x => ((x.val : Nat) : Int)) := by
  intro st
  induction st with
  | nil => intro _; exact ⟨[], rfl⟩
  | cons a t ih =>
    intro h
    obtain ⟨d, rfl⟩ := ih (fun s hs => h s (List.mem_cons_of_mem _ hs))
    obtain ⟨h0, h1⟩ := h a List.mem_cons_self
    exact ⟨⟨a.toNat, by omega⟩ :: d, by simp; omega⟩
/-- The row of the states: cells that may be written. -/
def StRow (w : World) (b o : Nat) (st : List Int) : Prop := ∀ j s, st[j]? = some s → w.cell? ⟨b, o + j, none⟩ = some (.int .i64 s) ∧ w.frozen? ⟨b, o + j, none⟩ = false
theorem below_putRow {α : Type} [Inhabited α] (enc : α → Value) (w : World) (n blk off : Nat) (d : Array α) : RowKit.Below blk w (putRow enc (Sort.ahead w n) blk off d) := by
  refine ⟨rfl, rfl, rfl, by rw [size_putRow]; exact Nat.le_refl _, fun k hk => ?_⟩
  show (w.heap.modify blk _)[k]? = _
  rw [Array.getElem?_modify, if_neg (by omega)]
def pD (f g : Int → Bool) (x : Fin 1001) : Bool := !f ((x.val : Nat) : Int) || !g ((x.val : Nat) : Int)
theorem BM.lt {w : World} {b n : Nat} {f : Int → Bool} (h : BM w b n f) : b < w.heap.size := by
  obtain ⟨D, hD, _⟩ := h
  exact hD.lt
theorem BM.same {w w' : World} {b n : Nat} {f : Int → Bool} (h : BM w b n f) (hh : w'.heap[b]? = w.heap[b]?) : BM w' b n f := by
  obtain ⟨D, ⟨es, clock, hb, hF, hs, hD⟩, hf⟩ := h
  exact ⟨D, ⟨es, clock, hh.trans hb, hF, hs, hD⟩, hf⟩
theorem heap_sortWorld {α : Type} [Inhabited α] (enc : α → Value) (w : World) (blk off n : Nat) (d : Array α) (os : Array Obj) {k : Nat} (hk : k < w.heap.size) (hne : k ≠ blk) : (sortWorld enc w blk off n d os).heap[k]? = w.heap[k]? := by
  unfold sortWorld
  rw [heap_grow_old _ _ (by rw [size_putRow]; exact hk)]
  show (w.heap.modify blk _)[k]? = _
  rw [Array.getElem?_modify, if_neg (fun e => hne e.symm)]
theorem delete_any (B1 B2 b1 b2 n1 n2 blk off cap : Nat) (f g : Int → Bool) (st : List Int) (w : World) (hb : ∀ s ∈ st, 0 ≤ s ∧ s ≤ 1000) (hr : StRow w blk off st) (hcap : st.length ≤ cap) (hsz : st.length ≤ 1000)
    (c1 : w.cell? ⟨B1, 0, none⟩ = some (.map (some b1))) (c2 : w.cell? ⟨B2, 0, none⟩ = some (.map (some b2))) (m1 : BM w b1 n1 f) (m2 : BM w b2 n2 g) (h1 : B1 ≠ blk) (h2 : B2 ≠ blk) (h3 : b1 ≠ blk) (h4 : b2 ≠ blk) :
    Calls Try.prog 83 #[.slice (some ⟨blk, off, none⟩) st.length cap, .func (.func 84) #[] #[.pointer (some ⟨B1, 0, none⟩), .pointer (some ⟨B2, 0, none⟩)]] w fun e w' =>
      e = .returned (.slice (some ⟨blk, off, none⟩) (st.filter (fun s => f s && g s)).length cap) ∧ StRow w' blk off (st.filter (fun s => f s && g s)) ∧ RowKit.Below blk w w' := by
  obtain ⟨d, rfl⟩ := lift_states st hb
  have eg : ∀ args w, (callFunc 84 args).run Try.prog w = .ok (.enter 84 args) w := enters_of Try.func84 (by kernel_rfl) rfl
  have hin : ∀ x : Fin 1001, (0 : Int) ≤ ((x.val : Nat) : Int) ∧ ((x.val : Nat) : Int) ≤ 1000 := fun x => by have := x.isLt; omega
  have hp : PredAt Try.prog 84 #[.pointer (some ⟨B1, 0, none⟩), .pointer (some ⟨B2, 0, none⟩)] encS (pD f g) w := fun W x hB => by
    refine (clos84_any B1 B2 b1 b2 n1 n2 f g _ W (hin x).1 (hin x).2 (keeps hB c1) (keeps hB c2) (m1.kept hB ?_) (m2.kept hB ?_)).mono ?_
    · exact m1.lt
    · exact m2.lt
    · rintro e w' ⟨rfl, rfl⟩; exact ⟨rfl, 0, rfl⟩
  have hc : ∀ {B : Nat} {v : Value} (n : Nat) (os : Array Obj) (dk : Array (Fin 1001)), B ≠ blk → w.cell? ⟨B, 0, none⟩ = some v → (sortWorld encS w blk off n dk os).cell? ⟨B, 0, none⟩ = some v := fun n os dk hne hcell => by
    rw [World.cell?_of_block (heap_sortWorld encS w blk off n dk os (World.block_lt_of_cell? w _ hcell) hne)]; exact hcell
  have hpo : PredOver Try.prog 84 #[.pointer (some ⟨B1, 0, none⟩), .pointer (some ⟨B2, 0, none⟩)] encS (pD f g) blk off d.toArray.size w := fun n os dk x _ => by
    refine (clos84_any B1 B2 b1 b2 n1 n2 f g _ _ (hin x).1 (hin x).2 (hc n os dk h1 c1) (hc n os dk h2 c2) (m1.same (heap_sortWorld encS w blk off n dk os m1.lt h3)) (m2.same (heap_sortWorld encS w blk off n dk os m2.lt h4))).mono ?_
    rintro e w' ⟨rfl, rfl⟩; exact ⟨rfl, 0, rfl⟩
  have hH : Holds encS w blk off d.toArray := fun j hj => by
    have hj' : j < d.length := by simpa using hj
    have := hr j _ (by rw [List.getElem?_map, List.getElem?_eq_getElem hj']; rfl)
    rw [getElem!_pos d.toArray j hj]
    exact this
  have hcon := AnyE.slices_DeleteFunc Try.delf encS (fun _ => rfl) (pD f g) 84 #[.pointer (some ⟨B1, 0, none⟩), .pointer (some ⟨B2, 0, none⟩)] eg 0 Try.zeroValue3 blk off cap d.toArray w hp hpo hH (by simp at hsz ⊢; omega) (by simpa using hcap)
  have hfl : (d.map (fun x => ((x.val : Nat) : Int))).filter (fun s => f s && g s) = (d.filter (fun x => !pD f g x)).map (fun x => ((x.val : Nat) : Int)) := by
    rw [List.filter_map]
    congr 1
    apply List.filter_congr
    intro x _
    simp [pD]
  rw [hfl]
  have hln : (d.map (fun x => ((x.val : Nat) : Int))).length = d.toArray.size := by simp
  rw [hln, List.length_map]
  refine Calls.mono hcon ?_
  rintro e w' ⟨rfl, q, rfl⟩
  refine ⟨rfl, ?_, below_putRow _ _ _ _ _ _⟩
  intro j s hs
  rw [List.getElem?_map] at hs
  obtain ⟨x, hx, rfl⟩ := Option.map_eq_some_iff.1 hs
  have hjl := lt_of_some hx
  have hfl2 := List.length_filter_le (fun x : Fin 1001 => !pD f g x) d
  have hq := cell?_putRow encS (Sort.ahead w q) blk off d.toArray ((d.toArray.toList.filter fun x => !pD f g x) ++ List.replicate (d.toArray.size - (d.toArray.toList.filter fun x => !pD f g x).length) 0).toArray (holds_ahead _ _ _ _ _ _ hH) (by simp; omega) j (by simp; omega)
  refine ⟨?_, ?_⟩
  · rw [hq]
    have hx2 : ∀ r : List (Fin 1001), ((d.filter (fun x => !pD f g x)) ++ r)[j]? = some x := fun r => by rw [List.getElem?_append_left hjl, hx]
    rw [List.getElem!_toArray, List.getElem!_eq_getElem?_getD, hx2]
    rfl
  · rw [frozen?_putRow]
    exact (hH j (by simp; omega)).2
end Go.Proofs.Ytppflnkadjddiaa
