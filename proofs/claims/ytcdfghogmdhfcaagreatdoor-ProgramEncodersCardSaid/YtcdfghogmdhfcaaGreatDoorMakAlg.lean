/-
  The program of a truth table: what program.maker makes of a table, and that its bit is the table's.
  An encoder's numbers in bits: widths, the bits of a cell, the truth tables.
  The program of an encoder: one bit for each truth table.
  Conditions: No condition: plain laws. No condition: plain laws. No condition: plain laws.
-/
import Derived.Test.YtcdfghogmdhfcaaGreatDoorInsLaw
import Derived.Test.YtcdfghogmdhfcaaGreatDoorMg2
import Derived.Test.YtcdfghogmdhfcaaGreatDoorMg4
import Derived.Test.YtcdfghogmdhfcaaGreatDoorRunLaw
import Derived.Lib.BitFns
namespace Go.Proofs.YtcdfghogmdhfcaaGreatDoor
set_option linter.unusedVariables false

abbrev MKey := Int × List UInt8
structure MSt where
  code : List Ins
  kn : MKey → Option Int
def MSt.put (st : MSt) (key : MKey) (k : Int) : MSt := ⟨st.code, fun y => if y = key then some k else st.kn y⟩
def MSt.add (st : MSt) (l : List Ins) : MSt := ⟨st.code ++ l, st.kn⟩
def mkConst (N : Nat) (op : Int) (b : UInt8) (st : MSt) : Int × MSt :=
  match st.kn ((N : Int), [b]) with
  | some k => (k, st)
  | none => (((N + st.code.length : Nat) : Int), (st.add [⟨op, 0, 0⟩]).put ((N : Int), [b]) ((N + st.code.length : Nat) : Int))
def mkStep (N : Nat) (rec : Int → List UInt8 → MSt → Int × MSt) (fr : Int) (t : List UInt8) (st : MSt) : Int × MSt :=
  if t.all (· == 48) then mkConst N 1 48 st
  else if t.all (· == 49) then mkConst N 2 49 st
  else match st.kn (fr, t) with
    | some k => (k, st)
    | none =>
      if t.take (t.length / 2) = t.drop (t.length / 2) then
        ((rec (fr + 1) (t.take (t.length / 2)) st).1, (rec (fr + 1) (t.take (t.length / 2)) st).2.put (fr, t) (rec (fr + 1) (t.take (t.length / 2)) st).1)
      else
        let l := rec (fr + 1) (t.take (t.length / 2)) st
        let h := rec (fr + 1) (t.drop (t.length / 2)) l.2
        (((N + h.2.code.length + 2 : Nat) : Int), (h.2.add [⟨4, l.1, h.1⟩, ⟨3, fr, ((N + h.2.code.length : Nat) : Int)⟩, ⟨4, l.1, ((N + h.2.code.length + 1 : Nat) : Int)⟩]).put (fr, t) ((N + h.2.code.length + 2 : Nat) : Int))
def mkBit (N : Nat) : Nat → Int → List UInt8 → MSt → Int × MSt
  | 0 => mkStep N fun _ _ st => (0, st)
  | d + 1 => mkStep N (mkBit N d)

/-- The number with some bits. -/
def numB : List Bool → Nat
  | [] => 0
  | b :: r => (if b then 2 ^ r.length else 0) + numB r
theorem numB_lt : ∀ l : List Bool, numB l < 2 ^ l.length
  | [] => by decide
  | b :: r => by
    have := numB_lt r
    rw [numB, List.length_cons, Nat.pow_succ]
    split <;> omega
def bitT (t : List UInt8) (m : Nat) : Bool := t.getD m 48 == 49
def valM (st : MSt) (x : List Bool) (k : Int) : Bool := (pvals x st.code).getD k.toNat false
structure MGood (N : Nat) (st : MSt) : Prop where
  code : ∀ (i : Nat) x, st.code[i]? = some x → insErr ((N : Int) + i) x = 0
  kn : ∀ (fr : Nat) t k, st.kn ((fr : Int), t) = some k → fr ≤ N → t.length = 2 ^ (N - fr) → 0 ≤ k ∧ k < ((N + st.code.length : Nat) : Int) ∧ ∀ x : List Bool, x.length = N → valM st x k = bitT t (numB (x.drop fr))
theorem valM_add {st : MSt} {l : List Ins} {x : List Bool} {k : Int} {N : Nat} (hx : x.length = N) (h0 : 0 ≤ k) (h1 : k < ((N + st.code.length : Nat) : Int)) : valM (st.add l) x k = valM st x k := by
  unfold valM MSt.add
  rw [pvals_append]
  exact getD_prefix (pvals_prefix _ _) (by rw [pvals_len, hx]; omega)
theorem MGood.start (N : Nat) : MGood N ⟨[], fun _ => none⟩ := ⟨fun i x h => by simp at h, fun fr t k h => by cases h⟩
theorem MGood.add {N : Nat} {st : MSt} (h : MGood N st) {l : List Ins} (hl : ∀ (i : Nat) x, l[i]? = some x → insErr (((N + st.code.length : Nat) : Int) + i) x = 0) : MGood N (st.add l) := by
  refine ⟨fun i x hi => ?_, fun fr t k hk hf ht => ?_⟩
  · show insErr _ x = 0
    simp only [MSt.add] at hi
    by_cases hlt : i < st.code.length
    · rw [List.getElem?_append_left hlt] at hi
      exact h.code i x hi
    · rw [List.getElem?_append_right (by omega)] at hi
      have := hl _ x hi
      rwa [show ((N + st.code.length : Nat) : Int) + ((i - st.code.length : Nat) : Int) = (N : Int) + i by omega] at this
  · obtain ⟨h0, h1, h2⟩ := h.kn fr t k hk hf ht
    refine ⟨h0, ?_, fun x hx => by rw [valM_add hx h0 h1]; exact h2 x hx⟩
    simp only [MSt.add, List.length_append]; omega
theorem MGood.put {N : Nat} {st : MSt} (h : MGood N st) {fr : Nat} {t : List UInt8} {k : Int} (h0 : 0 ≤ k) (h1 : k < ((N + st.code.length : Nat) : Int)) (h2 : ∀ x : List Bool, x.length = N → valM st x k = bitT t (numB (x.drop fr))) : MGood N (st.put ((fr : Int), t) k) := by
  refine ⟨h.code, fun fr' t' k' hk hf ht => ?_⟩
  simp only [MSt.put] at hk
  by_cases e : ((fr' : Int), t') = ((fr : Int), t)
  · rw [if_pos e] at hk
    simp only [Prod.mk.injEq, Int.natCast_inj] at e
    obtain ⟨rfl, rfl⟩ := e
    obtain rfl := Option.some.inj hk
    exact ⟨h0, h1, h2⟩
  · rw [if_neg e] at hk
    exact h.kn fr' t' k' hk hf ht
/-- What a step is good for. -/
structure MPost (N d : Nat) (fr : Nat) (t : List UInt8) (st : MSt) (r : Int × MSt) : Prop where
  good : MGood N r.2
  pre : ∃ l, r.2.code = st.code ++ l
  k0 : 0 ≤ r.1
  k1 : r.1 < ((N + r.2.code.length : Nat) : Int)
  val : ∀ x : List Bool, x.length = N → valM r.2 x r.1 = bitT t (numB (x.drop fr))
  len : r.2.code.length + 3 ≤ st.code.length + 4 * 2 ^ d
theorem snoc_eq {l : List Bool} {b : Bool} {n : Nat} (h : l.length = n) : (l ++ [b]).getD n false = b := by
  rw [List.getD_eq_getElem?_getD, List.getElem?_append_right (by omega), h, Nat.sub_self]; rfl
theorem snoc_lt {l : List Bool} {b : Bool} {n : Nat} (h : n < l.length) : (l ++ [b]).getD n false = l.getD n false := by
  rw [List.getD_eq_getElem?_getD, List.getElem?_append_left h, ← List.getD_eq_getElem?_getD]
theorem mux3 (P : List Bool) (n kL kH fr : Nat) (hn : P.length = n) (hL : kL < n) (hH : kH < n) (hf : fr < n) (v0 v1 v2 : Bool)
    (h0 : v0 = opB 4 (P.getD kL false) (P.getD kH false)) (h1 : v1 = opB 3 ((P ++ [v0]).getD fr false) ((P ++ [v0]).getD n false)) (h2 : v2 = opB 4 ((P ++ [v0] ++ [v1]).getD kL false) ((P ++ [v0] ++ [v1]).getD (n + 1) false)) :
    (P ++ [v0] ++ [v1] ++ [v2]).getD (n + 2) false = if P.getD fr false then P.getD kH false else P.getD kL false := by
  have l1 : (P ++ [v0]).length = n + 1 := by simp [hn]
  have l2 : (P ++ [v0] ++ [v1]).length = n + 2 := by simp [hn]
  rw [snoc_eq l2, h2, snoc_eq l1, snoc_lt (by omega), snoc_lt (by omega), h1, snoc_eq hn, snoc_lt (by omega), h0]
  have o4 : ∀ a b, opB 4 a b = (a != b) := fun a b => rfl
  have o3 : ∀ a b, opB 3 a b = (a && b) := fun a b => rfl
  rw [o4, o4, o3]
  cases P.getD fr false <;> cases P.getD kL false <;> cases P.getD kH false <;> rfl
theorem two_pow_pos (d : Nat) : 1 ≤ 2 ^ d := Nat.one_le_two_pow
theorem all_bit {b : UInt8} {t : List UInt8} {m : Nat} (h : t.all (· == b) = true) (hm : m < t.length) : t.getD m 48 = b := by
  rw [List.getD_eq_getElem?_getD, List.getElem?_eq_getElem hm]
  have := List.all_eq_true.1 h t[m] (List.getElem_mem hm)
  simpa using this
theorem valM_last {N : Nat} {st : MSt} {i : Ins} {x : List Bool} (hx : x.length = N) : valM (st.add [i]) x ((N + st.code.length : Nat) : Int) = opB i.op ((pvals x st.code).getD i.a.toNat false) ((pvals x st.code).getD i.b.toNat false) := by
  unfold valM MSt.add
  rw [pvals_snoc, List.getD_eq_getElem?_getD, List.getElem?_append_right (by rw [pvals_len, hx]; omega), pvals_len, hx]
  simp
theorem mkConst_post {N d fr : Nat} {t : List UInt8} {st : MSt} {op : Int} {b : UInt8} (h : MGood N st) (hd : fr + d = N) (ht : t.length = 2 ^ d) (ha : t.all (· == b) = true) (hb : op = 1 ∧ b = 48 ∨ op = 2 ∧ b = 49) : MPost N d fr t st (mkConst N op b st) := by
  have hp := two_pow_pos d
  have key : ∀ x : List Bool, x.length = N → bitT t (numB (x.drop fr)) = (b == 49) := by
    intro x hx
    have := numB_lt (x.drop fr)
    rw [List.length_drop, hx, show N - fr = d by omega] at this
    unfold bitT
    rw [all_bit ha (by omega)]
  have key2 : ∀ x : List Bool, x.length = N → bitT [b] (numB (x.drop N)) = (b == 49) := by
    intro x hx
    rw [List.drop_of_length_le (by omega)]
    rfl
  unfold mkConst
  cases hk : st.kn ((N : Int), [b]) with
  | some k =>
    obtain ⟨h0, h1, h2⟩ := h.kn N [b] k hk (Nat.le_refl _) (by simp)
    exact ⟨h, ⟨[], by simp⟩, h0, h1, fun x hx => by rw [key x hx, h2 x hx, key2 x hx], by show st.code.length + 3 ≤ _; omega⟩
  | none =>
    have hv : ∀ x : List Bool, x.length = N → valM (st.add [⟨op, 0, 0⟩]) x ((N + st.code.length : Nat) : Int) = (b == 49) := by
      intro x hx
      rw [valM_last hx]
      rcases hb with ⟨rfl, rfl⟩ | ⟨rfl, rfl⟩ <;> rfl
    have hg : MGood N (st.add [⟨op, 0, 0⟩]) := h.add fun i x hi => by
      cases i with
      | zero =>
        simp at hi; subst hi
        rw [insErr_zero]
        left; rcases hb with ⟨rfl, _⟩ | ⟨rfl, _⟩ <;> simp
      | succ i => simp at hi
    refine ⟨hg.put (by omega) (by simp only [MSt.add, List.length_append, List.length_cons, List.length_nil]; omega) fun x hx => by rw [hv x hx, key2 x hx], ⟨[⟨op, 0, 0⟩], rfl⟩, by show (0 : Int) ≤ ((N + st.code.length : Nat) : Int); omega, ?_, fun x hx => ?_, ?_⟩
    · simp only [MSt.put, MSt.add, List.length_append, List.length_cons, List.length_nil]; omega
    · rw [key x hx]; exact hv x hx
    · simp only [MSt.put, MSt.add, List.length_append, List.length_cons, List.length_nil]; omega
theorem bitT_half {t : List UInt8} {d : Nat} (ht : t.length = 2 ^ (d + 1)) (b : Bool) {m : Nat} (hm : m < 2 ^ d) : bitT t ((if b then 2 ^ d else 0) + m) = if b then bitT (t.drop (t.length / 2)) m else bitT (t.take (t.length / 2)) m := by
  have hh : t.length / 2 = 2 ^ d := by rw [ht, Nat.pow_succ]; omega
  rw [hh]
  unfold bitT
  cases b with
  | true =>
    simp only [if_true]
    rw [List.getD_eq_getElem?_getD, List.getD_eq_getElem?_getD, List.getElem?_drop]
  | false =>
    simp only [Bool.false_eq_true, if_false, Nat.zero_add]
    rw [List.getD_eq_getElem?_getD, List.getD_eq_getElem?_getD, List.getElem?_take, if_pos hm]
theorem drop_bit {x : List Bool} {N fr : Nat} (hx : x.length = N) (hf : fr < N) : numB (x.drop fr) = (if x.getD fr false then 2 ^ (N - (fr + 1)) else 0) + numB (x.drop (fr + 1)) := by
  subst hx
  rw [List.drop_eq_getElem_cons hf, numB, List.length_drop, List.getD_eq_getElem?_getD, List.getElem?_eq_getElem hf]
  rfl
theorem mkBit_post {N : Nat} : ∀ {d fr : Nat} {t : List UInt8} {st : MSt}, MGood N st → fr + d = N → t.length = 2 ^ d → (∀ c ∈ t, c = 48 ∨ c = 49) → MPost N d fr t st (mkBit N d (fr : Int) t st) := by
  intro d
  induction d with
  | zero =>
    intro fr t st h hd ht hc
    show MPost N 0 fr t st (mkStep N _ (fr : Int) t st)
    unfold mkStep
    match t, ht, hc with
    | [c], _, hc =>
      rcases hc c (by simp) with rfl | rfl
      · rw [if_pos (by decide)]; exact mkConst_post h hd rfl (by decide) (.inl ⟨rfl, rfl⟩)
      · rw [if_neg (by decide), if_pos (by decide)]; exact mkConst_post h hd rfl (by decide) (.inr ⟨rfl, rfl⟩)
  | succ d ih =>
    intro fr t st h hd ht hc
    show MPost N (d + 1) fr t st (mkStep N (mkBit N d) (fr : Int) t st)
    unfold mkStep
    by_cases h0 : t.all (· == 48) = true
    · rw [if_pos h0]; exact mkConst_post h hd ht h0 (.inl ⟨rfl, rfl⟩)
    rw [if_neg h0]
    by_cases h1 : t.all (· == 49) = true
    · rw [if_pos h1]; exact mkConst_post h hd ht h1 (.inr ⟨rfl, rfl⟩)
    rw [if_neg h1]
    have hp := two_pow_pos d
    have hp2 : 2 ^ (d + 1) = 2 * 2 ^ d := by rw [Nat.pow_succ, Nat.mul_comm]
    have hh : t.length / 2 = 2 ^ d := by rw [ht, hp2]; omega
    cases hk : st.kn ((fr : Int), t) with
    | some k =>
      obtain ⟨g0, g1, g2⟩ := h.kn fr t k hk (by omega) (by rw [ht, show N - fr = d + 1 by omega])
      exact ⟨h, ⟨[], by simp⟩, g0, g1, g2, by show st.code.length + 3 ≤ _; omega⟩
    | none =>
      dsimp only
      have hl : (t.take (t.length / 2)).length = 2 ^ d := by rw [List.length_take, hh, ht, hp2]; omega
      have hr : (t.drop (t.length / 2)).length = 2 ^ d := by rw [List.length_drop, hh, ht, hp2]; omega
      have hcl : ∀ c ∈ t.take (t.length / 2), c = 48 ∨ c = 49 := fun c h => hc c (List.mem_of_mem_take h)
      have hcr : ∀ c ∈ t.drop (t.length / 2), c = 48 ∨ c = 49 := fun c h => hc c (List.mem_of_mem_drop h)
      have hbit : ∀ x : List Bool, x.length = N → bitT t (numB (x.drop fr)) = if x.getD fr false then bitT (t.drop (t.length / 2)) (numB (x.drop (fr + 1))) else bitT (t.take (t.length / 2)) (numB (x.drop (fr + 1))) := by
        intro x hx
        have hlt := numB_lt (x.drop (fr + 1))
        rw [List.length_drop, hx, show N - (fr + 1) = d by omega] at hlt
        rw [drop_bit hx (by omega), show N - (fr + 1) = d by omega]
        exact bitT_half ht _ hlt
      have hL := ih (fr := fr + 1) (st := st) h (by omega) hl hcl
      rw [show (((fr + 1 : Nat) : Nat) : Int) = (fr : Int) + 1 by omega] at hL
      generalize hlr : mkBit N d ((fr : Int) + 1) (t.take (t.length / 2)) st = L at *
      by_cases he : t.take (t.length / 2) = t.drop (t.length / 2)
      · rw [if_pos he]
        have hv : ∀ x : List Bool, x.length = N → valM L.2 x L.1 = bitT t (numB (x.drop fr)) := fun x hx => by
          rw [hL.val x hx, hbit x hx, ← he]; split <;> rfl
        refine ⟨hL.good.put hL.k0 hL.k1 hv, hL.pre, hL.k0, hL.k1, hv, ?_⟩
        have := hL.len
        show L.2.code.length + 3 ≤ _
        omega
      · rw [if_neg he]
        have hH := ih (fr := fr + 1) (st := L.2) hL.good (by omega) hr hcr
        rw [show (((fr + 1 : Nat) : Nat) : Int) = (fr : Int) + 1 by omega] at hH
        generalize hhr : mkBit N d ((fr : Int) + 1) (t.drop (t.length / 2)) L.2 = H at *
        obtain ⟨l1, e1⟩ := hL.pre
        obtain ⟨l2, e2⟩ := hH.pre
        have hLk : L.1 < ((N + H.2.code.length : Nat) : Int) := by have := hL.k1; rw [e2, List.length_append]; omega
        have hL0 := hL.k0
        have hH0 := hH.k0
        have hH1 := hH.k1
        have hg : MGood N (H.2.add [⟨4, L.1, H.1⟩, ⟨3, (fr : Int), ((N + H.2.code.length : Nat) : Int)⟩, ⟨4, L.1, ((N + H.2.code.length + 1 : Nat) : Int)⟩]) := hH.good.add fun i x hi => by
          have : i = 0 ∨ i = 1 ∨ i = 2 := by have := lt_of_some hi; simp at this; omega
          rcases this with rfl | rfl | rfl <;> (simp at hi; subst hi; rw [insErr_zero]; right; right; refine ⟨by simp, ?_, ?_, ?_, ?_⟩ <;> (simp only; omega))
        have hval : ∀ x : List Bool, x.length = N → valM (H.2.add [⟨4, L.1, H.1⟩, ⟨3, (fr : Int), ((N + H.2.code.length : Nat) : Int)⟩, ⟨4, L.1, ((N + H.2.code.length + 1 : Nat) : Int)⟩]) x ((N + H.2.code.length + 2 : Nat) : Int) = bitT t (numB (x.drop fr)) := by
          intro x hx
          have a1 := hH.val x hx
          have a2 : valM H.2 x L.1 = bitT (t.take (t.length / 2)) (numB (x.drop (fr + 1))) := by
            rw [← hL.val x hx]
            have : H.2 = L.2.add l2 ∨ True := .inr trivial
            unfold valM
            rw [e2, pvals_append]
            exact getD_prefix (pvals_prefix _ _) (by rw [pvals_len, hx]; have := hL.k1; omega)
          have a3 : (pvals x H.2.code).getD fr false = x.getD fr false := getD_prefix (pvals_prefix _ _) (by omega)
          rw [hbit x hx, ← a1, ← a2]
          generalize hc0 : H.2.code = c0 at *
          have c1 : (pvals x (c0 ++ [⟨4, L.1, H.1⟩, ⟨3, (fr : Int), ((N + c0.length : Nat) : Int)⟩, ⟨4, L.1, ((N + c0.length + 1 : Nat) : Int)⟩])) = pvals x (((c0 ++ [⟨4, L.1, H.1⟩]) ++ [⟨3, (fr : Int), ((N + c0.length : Nat) : Int)⟩]) ++ [⟨4, L.1, ((N + c0.length + 1 : Nat) : Int)⟩]) := by simp
          have vL : valM H.2 x L.1 = (pvals x c0).getD L.1.toNat false := by unfold valM; rw [hc0]
          have vH : valM H.2 x H.1 = (pvals x c0).getD H.1.toNat false := by unfold valM; rw [hc0]
          rw [vL, vH]
          unfold valM MSt.add
          rw [hc0, c1]
          have n1 : (pvals x c0).length = N + c0.length := by rw [pvals_len, hx]
          rw [pvals_snoc, pvals_snoc, pvals_snoc]
          have hLk' : L.1.toNat < N + c0.length := by omega
          have hHk' : H.1.toNat < N + c0.length := by omega
          have hfk : fr < N + c0.length := by omega
          generalize pvals x c0 = P at *
          simp only [Int.toNat_natCast]
          rw [← a3]
          exact mux3 P _ _ _ fr n1 hLk' hHk' hfk _ _ _ rfl rfl rfl
        refine ⟨hg.put (by omega) (by simp only [MSt.add, List.length_append, List.length_cons, List.length_nil]; omega) hval, ⟨l1 ++ l2 ++ [⟨4, L.1, H.1⟩, ⟨3, (fr : Int), ((N + H.2.code.length : Nat) : Int)⟩, ⟨4, L.1, ((N + H.2.code.length + 1 : Nat) : Int)⟩], ?_⟩, by show (0 : Int) ≤ ((N + H.2.code.length + 2 : Nat) : Int); omega, ?_, hval, ?_⟩
        · simp only [MSt.put, MSt.add]; rw [e2, e1]; simp
        · simp only [MSt.put, MSt.add, List.length_append, List.length_cons, List.length_nil]; omega
        · have q1 := hL.len
          have q2 := hH.len
          simp only [MSt.put, MSt.add, List.length_append, List.length_cons, List.length_nil]
          omega
end Go.Proofs.YtcdfghogmdhfcaaGreatDoor

namespace Go.Proofs.YtcdfghogmdhfcaaGreatDoor
open Go.RowKit
set_option linter.unusedVariables false

/-- How many bits the numbers below n have. -/
def wid (n : Nat) : Nat := Lib.bitLen (n - 1)
theorem wid_fits {n : Nat} (h1 : 1 ≤ n) (h2 : n ≤ 64) : n ≤ 2 ^ wid n ∧ wid n ≤ 6 ∧ (n ≤ 16 → wid n ≤ 4) ∧ (n ≤ 8 → wid n ≤ 3) := by
  have h := List.all_eq_true.1 (show (List.range 64).all (fun k => decide (k + 1 ≤ 2 ^ wid (k + 1) ∧ wid (k + 1) ≤ 6 ∧ (k + 1 ≤ 16 → wid (k + 1) ≤ 4) ∧ (k + 1 ≤ 8 → wid (k + 1) ≤ 3))) = true by decide +kernel) (n - 1) (List.mem_range.2 (by omega))
  have := of_decide_eq_true h
  rwa [show n - 1 + 1 = n by omega] at this
/-- The last w bits of a number, the highest first. -/
def binL : Nat → Nat → List Bool
  | 0, _ => []
  | w + 1, a => a.testBit w :: binL w a
theorem binL_len : ∀ (w a : Nat), (binL w a).length = w
  | 0, _ => rfl
  | w + 1, a => by rw [binL, List.length_cons, binL_len w a]
theorem binL_num : ∀ (w a : Nat), numB (binL w a) = a % 2 ^ w
  | 0, a => by rw [binL, numB, Nat.pow_zero, Nat.mod_one]
  | w + 1, a => by
    rw [binL, numB, binL_len, binL_num w a, Nat.testBit_eq_decide_div_mod_eq]
    have h := Nat.mod_pow_succ (b := 2) (x := a) (k := w)
    have h2 : a / 2 ^ w % 2 = 0 ∨ a / 2 ^ w % 2 = 1 := by omega
    rcases h2 with h2 | h2
    · rw [h, h2]; simp
    · rw [h, h2]; simp; omega
theorem numB_append : ∀ (l r : List Bool), numB (l ++ r) = numB l * 2 ^ r.length + numB r
  | [], r => by simp [numB]
  | b :: l, r => by
    rw [List.cons_append, numB, numB, numB_append l r, List.length_append, Nat.add_mul, Nat.add_assoc]
    congr 1
    split
    · rw [Nat.pow_add]
    · simp
/-- The bits of a cell. -/
def cellBits (q n : Nat) (c : Cl) : List Bool := binL (wid n) c.st.toNat ++ c.word.data.toList.flatMap fun ch => binL (wid q) (dig ch)
theorem flat_len {α : Type} (l : List α) (f : α → List Bool) (k : Nat) (h : ∀ a ∈ l, (f a).length = k) : (l.flatMap f).length = l.length * k := by
  induction l with
  | nil => simp
  | cons a t ih =>
    rw [List.flatMap_cons, List.length_append, h a (by simp), ih fun b hb => h b (by simp [hb]), List.length_cons, Nat.succ_mul]
    omega
theorem cellBits_len (q n : Nat) (c : Cl) : (cellBits q n c).length = wid n + c.word.size * wid q := by
  unfold cellBits
  rw [List.length_append, binL_len, flat_len _ _ (wid q) (fun a _ => binL_len _ _), ba_len]
/-- The letter of a bit. -/
def tabC (b : Bool) : UInt8 := if b then 49 else 48
/-- The truth table of an output. -/
def tabI (rows : List (List Cl)) (q n inp ib i m : Nat) : UInt8 :=
  if m / 2 ^ ib < n ∧ m % 2 ^ ib < inp then tabC ((cellBits q n ((rows.getD (m / 2 ^ ib) []).getD (m % 2 ^ ib) ⟨0, ⟨#[]⟩⟩)).getD i false) else 48
def tabL (rows : List (List Cl)) (q n inp sb ib i : Nat) : List UInt8 := (List.range (2 ^ (sb + ib))).map (tabI rows q n inp ib i)
theorem tabL_len (rows : List (List Cl)) (q n inp sb ib i : Nat) : (tabL rows q n inp sb ib i).length = 2 ^ (sb + ib) := by simp [tabL]
theorem tabL_bits (rows : List (List Cl)) (q n inp sb ib i : Nat) : ∀ c ∈ tabL rows q n inp sb ib i, c = 48 ∨ c = 49 := by
  intro c hc
  obtain ⟨m, _, rfl⟩ := List.mem_map.1 hc
  unfold tabI
  split
  · unfold tabC; split <;> simp
  · simp
/-- What the table says of a state and an input. -/
theorem tabL_at {rows : List (List Cl)} {q n inp sb ib i s k : Nat} {row : List Cl} {x : Cl} (hs : s < n) (hk : k < inp) (hn : n ≤ 2 ^ sb) (hi : inp ≤ 2 ^ ib) (h1 : rows[s]? = some row) (h2 : row[k]? = some x) :
    bitT (tabL rows q n inp sb ib i) (numB (binL sb s ++ binL ib k)) = (cellBits q n x).getD i false := by
  have e1 : s % 2 ^ sb = s := Nat.mod_eq_of_lt (by omega)
  have e2 : k % 2 ^ ib = k := Nat.mod_eq_of_lt (by omega)
  rw [numB_append, binL_num, binL_num, binL_len, e1, e2]
  have hp : 0 < 2 ^ ib := Nat.two_pow_pos ib
  have hlt : s * 2 ^ ib + k < 2 ^ (sb + ib) := by
    have := Nat.mul_le_mul_right (2 ^ ib) (show s + 1 ≤ 2 ^ sb by omega)
    rw [Nat.succ_mul, ← Nat.pow_add] at this
    omega
  have d1 : (s * 2 ^ ib + k) / 2 ^ ib = s := by rw [Nat.mul_comm, Nat.mul_add_div hp, Nat.div_eq_of_lt (by omega), Nat.add_zero]
  have d2 : (s * 2 ^ ib + k) % 2 ^ ib = k := by rw [Nat.mul_comm, Nat.mul_add_mod, e2]
  unfold bitT tabL
  rw [List.getD_eq_getElem?_getD, List.getElem?_map, List.getElem?_range hlt]
  simp only [Option.map_some, Option.getD_some]
  unfold tabI
  have e : (rows.getD s []).getD k ⟨0, ⟨#[]⟩⟩ = x := by simp [List.getD_eq_getElem?_getD, h1, h2]
  rw [d1, d2, if_pos ⟨hs, hk⟩, e]
  cases (cellBits q n x).getD i false <;> rfl
end Go.Proofs.YtcdfghogmdhfcaaGreatDoor

namespace Go.Proofs.YtcdfghogmdhfcaaGreatDoor
open Go.RowKit
set_option linter.unusedVariables false

def mkOut (N : Nat) (p : MSt × List Int) (t : List UInt8) : MSt × List Int := ((mkBit N N 0 t p.1).2, p.2 ++ [(mkBit N N 0 t p.1).1])
def mkAll (N : Nat) (tabs : List (List UInt8)) : MSt × List Int := tabs.foldl (mkOut N) (⟨[], fun _ => none⟩, [])
theorem mkAll_snoc (N : Nat) (tabs : List (List UInt8)) (t : List UInt8) : mkAll N (tabs ++ [t]) = mkOut N (mkAll N tabs) t := by simp [mkAll]
structure AllOk (N : Nat) (tabs : List (List UInt8)) (p : MSt × List Int) : Prop where
  good : MGood N p.1
  olen : p.2.length = tabs.length
  len : p.1.code.length ≤ tabs.length * (4 * 2 ^ N)
  out : ∀ (i : Nat) k t, p.2[i]? = some k → tabs[i]? = some t → 0 ≤ k ∧ k < ((N + p.1.code.length : Nat) : Int) ∧ ∀ x : List Bool, x.length = N → valM p.1 x k = bitT t (numB x)
theorem AllOk.step {N : Nat} {tabs : List (List UInt8)} {p : MSt × List Int} {t : List UInt8} (h : AllOk N tabs p) (ht : t.length = 2 ^ N) (hc : ∀ c ∈ t, c = 48 ∨ c = 49) : AllOk N (tabs ++ [t]) (mkOut N p t) := by
  have hp := mkBit_post (N := N) (d := N) (fr := 0) (t := t) h.good (by omega) ht hc
  rw [show ((0 : Nat) : Int) = 0 from rfl] at hp
  unfold mkOut
  generalize mkBit N N 0 t p.1 = R at *
  obtain ⟨l, hl⟩ := hp.pre
  refine ⟨hp.good, by simp [h.olen], ?_, fun i k t' hk ht' => ?_⟩
  · have := hp.len
    have := h.len
    rw [List.length_append, List.length_cons, List.length_nil, Nat.add_mul]
    show R.2.code.length ≤ _
    omega
  · simp only at hk ⊢
    by_cases e : i < p.2.length
    · rw [List.getElem?_append_left e] at hk
      rw [List.getElem?_append_left (by rw [← h.olen]; exact e)] at ht'
      obtain ⟨g0, g1, g2⟩ := h.out i k t' hk ht'
      refine ⟨g0, by rw [hl, List.length_append]; omega, fun x hx => ?_⟩
      rw [← g2 x hx]
      unfold valM
      rw [hl, pvals_append]
      exact getD_prefix (pvals_prefix _ _) (by rw [pvals_len, hx]; omega)
    · have hi : i = p.2.length := by
        have := lt_of_some hk
        simp at this; omega
      rw [List.getElem?_append_right (by omega), hi, Nat.sub_self] at hk
      rw [List.getElem?_append_right (by rw [← h.olen]; omega), ← h.olen, hi, Nat.sub_self] at ht'
      simp at hk ht'
      subst hk ht'
      exact ⟨hp.k0, hp.k1, fun x hx => by have := hp.val x hx; rwa [List.drop_zero] at this⟩
theorem mkAll_take {N : Nat} {tabs : List (List UInt8)} (h : ∀ t ∈ tabs, t.length = 2 ^ N ∧ ∀ c ∈ t, c = 48 ∨ c = 49) : ∀ k, k ≤ tabs.length → AllOk N (tabs.take k) (mkAll N (tabs.take k)) := by
  intro k
  induction k with
  | zero => intro _; exact ⟨MGood.start N, rfl, by simp [mkAll], fun i k t h => by simp [mkAll] at h⟩
  | succ k ih =>
    intro hk
    obtain ⟨t, ht⟩ := some_of_lt (show k < tabs.length by omega)
    rw [take_snoc ht, mkAll_snoc]
    have := h t (List.mem_of_getElem? ht)
    exact (ih (by omega)).step this.1 this.2
theorem mkAll_ok {N : Nat} {tabs : List (List UInt8)} (h : ∀ t ∈ tabs, t.length = 2 ^ N ∧ ∀ c ∈ t, c = 48 ∨ c = 49) : AllOk N tabs (mkAll N tabs) := by
  have := mkAll_take h tabs.length (Nat.le_refl _)
  rwa [List.take_length] at this
/-- A valid program with these outputs. -/
theorem AllOk.prog {N : Nat} {tabs : List (List UInt8)} {p : MSt × List Int} (h : AllOk N tabs p) (hN : N ≤ 24) (hl : tabs.length * (4 * 2 ^ N) ≤ 65536) (ho : tabs.length ≤ 65536) : progErr N p.1.code p.2 = 0 := by
  have h1 := h.len
  have h2 := h.olen
  have hc : pcodeErr (N : Int) p.1.code = 0 := pcodeErr_at.2 fun i x hi => h.good.code i x hi
  rw [progErr, if_neg (by omega), if_neg (by omega), if_neg (by simp [hc]), poutErr, if_neg]
  rw [List.any_eq_true]
  rintro ⟨k, hk, hb⟩
  obtain ⟨i, hi⟩ := List.getElem?_of_mem hk
  obtain ⟨t, ht⟩ := some_of_lt (show i < tabs.length by have := lt_of_some hi; omega)
  obtain ⟨g0, g1, _⟩ := h.out i k t hi ht
  simp only [Bool.or_eq_true, decide_eq_true_eq] at hb
  omega
/-- What the program says. -/
theorem AllOk.run {N : Nat} {tabs : List (List UInt8)} {p : MSt × List Int} (h : AllOk N tabs p) {x : List Bool} (hx : x.length = N) : poutsV x p.1.code p.2 = tabs.map fun t => bitT t (numB x) := by
  apply List.ext_getElem?
  intro i
  unfold poutsV
  rw [List.getElem?_map, List.getElem?_map]
  by_cases hi : i < tabs.length
  · obtain ⟨t, ht⟩ := some_of_lt hi
    obtain ⟨k, hk⟩ := some_of_lt (show i < p.2.length by rw [h.olen]; exact hi)
    rw [ht, hk]
    have := (h.out i k t hk ht).2.2 x hx
    simp only [Option.map_some, Option.some.injEq]
    exact this
  · rw [List.getElem?_eq_none (show p.2.length ≤ i by rw [h.olen]; omega), List.getElem?_eq_none (show tabs.length ≤ i by omega)]
    rfl
end Go.Proofs.YtcdfghogmdhfcaaGreatDoor
