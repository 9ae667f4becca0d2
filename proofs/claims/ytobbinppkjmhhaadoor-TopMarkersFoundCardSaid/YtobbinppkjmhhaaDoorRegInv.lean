/-
  A region that draws its order, by an invariant: one step proof for each operation.
  No condition: a general lemma over the kit's laws of such regions.
-/
import Derived.Test.YtobbinppkjmhhaaDoorRangeV
import Derived.OrdersIn
import Derived.OwnWalkIn
namespace Go.Proofs.YtobbinppkjmhhaaDoor
open Go Go.RowKit
set_option linter.unusedVariables false
variable {F : Fence} {n : Nat} {P : Program} {md : Region.Mode} {ops : Array Oper} {Q : Exit → Act → World → Prop}

/-- How many operations have not come up yet. -/
def leftOf (l : Array Bool) : Nat := (l.toList.filter (fun b => !b)).length
theorem leftOf_set : ∀ (l : List Bool) (i : Nat), l[i]? = some false → ((l.set i true).filter (fun b => !b)).length + 1 = (l.filter (fun b => !b)).length
  | [], i, h => by simp at h
  | b :: l, 0, h => by
    simp at h; subst h; simp
  | b :: l, i + 1, h => by
    have := leftOf_set l i (by simpa using h)
    cases b
    · rw [List.set_cons_succ, List.filter_cons, List.filter_cons, if_pos (by decide), if_pos (by decide), List.length_cons, List.length_cons]; omega
    · rw [List.set_cons_succ, List.filter_cons, List.filter_cons, if_neg (by decide), if_neg (by decide)]; omega
theorem ready_open {listed : Array Bool} {i : Nat} (h : i ∈ Region.ready md ops listed) : listed.toList[i]? = some false := by
  unfold Region.ready at h
  rw [List.mem_filter] at h
  have h1 := h.2
  simp only [Bool.and_eq_true, Bool.not_eq_true'] at h1
  have h2 := h1.1
  rw [Array.getD_eq_getD_getElem?] at h2
  cases h3 : listed[i]? with
  | none => rw [h3] at h2; cases h2
  | some b => rw [h3] at h2; simp at h2; subst h2; rw [Array.getElem?_toList]; exact h3
theorem wpAnyIn_inv (I : Array Bool → Act → World → Prop) (hend : ∀ listed a w, I listed a w → Region.ready md ops listed = [] → Q .normal a w)
    (hstep : ∀ i listed a w, I listed a w → i ∈ Region.ready md ops listed → wpOpIn F n P ops Q i (fun a' w' => I (listed.setIfInBounds i true) a' w') a w) :
    ∀ (fuel : Nat) (listed : Array Bool) (a : Act) (w : World), I listed a w → leftOf listed ≤ fuel → wpAnyIn F n P md ops Q fuel listed a w
  | 0, listed, a, w, h, hl => by
    have h0 : Region.ready md ops listed = [] := by
      rw [List.eq_nil_iff_forall_not_mem]
      intro i hi
      have := leftOf_set _ _ (ready_open hi)
      unfold leftOf at hl
      omega
    exact ⟨h0, hend _ _ _ h h0⟩
  | fuel + 1, listed, a, w, h, hl => by
    refine ⟨fun h0 => hend _ _ _ h h0, fun i hi => ?_⟩
    refine wpOpIn_mono (fun a' w' h' => wpAnyIn_inv I hend hstep fuel _ a' w' h' ?_) (hstep i listed a w h hi)
    have := leftOf_set _ _ (ready_open hi)
    unfold leftOf at hl ⊢
    rw [Array.toList_setIfInBounds]
    omega
theorem wpOpIn_k {i : Nat} {K0 : Act → World → Prop} {a : Act} {w : World} (h : ∀ K : Act → World → Prop, (∀ a w, K0 a w → K a w) → wpOpIn F n P ops Q i K a w) : wpOpIn F n P ops Q i K0 a w := h K0 fun _ _ h => h
theorem wpOpIn_at {i : Nat} {o : Oper} {K : Act → World → Prop} {a : Act} {w : World} (hi : ops[i]? = some o) (hg : o.guard = none) (h : o.wpIn F n P a w K Q) : wpOpIn F n P ops Q i K a w := by
  unfold wpOpIn
  rw [hi]
  simp only
  rw [if_pos (by simp [Region.wanted, hg])]
  exact h
theorem oper_append_own (w : World) {o : Oper} {a : Act} {K : Act → World → Prop} (s x : Operand) (t : TypeId) (hop : o.op = Op.call { callee := Callee.builtin Builtin.append, args := #[s, x], argTypes := #[t, t] })
    (base : Nat) (e : TypeId) (i : TypeInfo) (z : Value) (size bytes : Nat) (h1 : P.underlying t = some (.slice e)) (h2 : P.info? e = some i) (h3 : i.zero = some z) (h4 : i.size = size) (h5 : i.bytes = bytes) (h6 : z.cells.size = size) (h7 : 0 < size)
    (v : Value) (k : Nat) (xs : List Value) (hs : a.eval s = v) (hown : w.ownsRow base e size v k xs) (ad : Addr) (m c : Nat) (news : List Value) (hx : a.eval x = .slice (some ad) m c) (hn : news.length = m * size)
    (hc : ∀ j u, news[j]? = some u → w.cell? (ad.add j) = some u) (h1c : ∀ u ∈ news, u.oneCell' = true) (b1 : k + m ≤ maxLen) (b2 : (k + m) * bytes ≤ 140737488355328) (b3 : base ≤ w.heap.size)
    (hK : ∀ v' w', w'.ownsRow base e size v' (k + m) (xs ++ news) → w.grownBy w' v.ownBlock → K (a.put o.dst v') w') : o.wpIn F n P a w K Q := by
  obtain ⟨v', w', hrun, r1, r2, r3⟩ := run_append_own (P := P) w base t o.type e i z size bytes h1 h2 h3 h4 h5 h6 h7 v k xs hown ad m c news hn hc h1c b1 b2 b3
  unfold Oper.wpIn
  refine ⟨?_, ?_⟩
  · simp [Oper.about, hop, resolve, Target.leads, Sem.run_pure]
  · rw [Oper.semAt_plain F _ _ (by rw [hop]; intro c hc'; cases hc')]
    simp [execOp, hop, resolve, invoke, builtin, hs, hx, hrun, Result.andThen]
    exact hK v' w' r1 r2
theorem getD_tt {l : Array Bool} {j : Nat} (h : l[j]?.getD false = true) : l.getD j true = true := by
  rw [Array.getD_eq_getD_getElem?]
  cases e : l[j]? with
  | none => rfl
  | some b => rw [e] at h; exact h
theorem getD_in {l : Array Bool} {n j : Nat} (hs : l.size = n) (hj : j < n) (h : l.getD j true = true) : l[j]?.getD false = true := by
  rw [Array.getD_eq_getD_getElem?] at h
  rw [Array.getElem?_eq_getElem (by omega)] at h ⊢
  exact h
theorem open_done {l : Array Bool} {j : Nat} (hr : Region.ready md ops l = []) (h : l.getD j true = false → j ∈ Region.ready md ops l) : l.getD j true = true := by
  cases e : l.getD j true with
  | true => rfl
  | false => have := h e; rw [hr] at this; cases this
theorem open_ff {l : Array Bool} {j : Nat} (h : l.getD j true = false) : l[j]?.getD true = false := by rw [← Array.getD_eq_getD_getElem?]; exact h
theorem getD_ff {l : Array Bool} {j : Nat} (h : l[j]?.getD true = false) : l.getD j true = false := by rw [Array.getD_eq_getD_getElem?]; exact h
end Go.Proofs.YtobbinppkjmhhaaDoor
