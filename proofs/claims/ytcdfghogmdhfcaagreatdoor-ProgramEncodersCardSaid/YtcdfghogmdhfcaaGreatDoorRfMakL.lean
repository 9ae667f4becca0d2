/-
  The reference's maker, with a list in place of a map, makes the same program of a truth table.
  No condition: plain laws.
-/
import Derived.Test.YtcdfghogmdhfcaaGreatDoorMakAlg
namespace Go.Proofs.YtcdfghogmdhfcaaGreatDoor
set_option linter.unusedVariables false

abbrev MMade := MKey × Int
structure RSt where
  code : List Ins
  made : List MMade
def rlook : List MMade → MKey → Option Int
  | [], _ => none
  | e :: l, key => if e.1 = key then some e.2 else rlook l key
theorem rlook_snoc (l : List MMade) (e : MMade) (key : MKey) : rlook (l ++ [e]) key = match rlook l key with
    | some k => some k
    | none => if e.1 = key then some e.2 else none := by
  induction l with
  | nil => rfl
  | cons a l ih =>
    rw [List.cons_append, rlook, rlook, ih]
    by_cases h : a.1 = key
    · rw [if_pos h, if_pos h]
    · rw [if_neg h, if_neg h]
theorem rlook_new {l : List MMade} {key : MKey} {k : Int} (h : rlook l key = none) : rlook (l ++ [(key, k)]) key = some k := by
  rw [rlook_snoc, h]; simp
theorem rlook_old {l : List MMade} {key key' : MKey} {k : Int} (h : key ≠ key') : rlook (l ++ [(key, k)]) key' = rlook l key' := by
  rw [rlook_snoc]
  cases rlook l key' with
  | some k => rfl
  | none => simp [h]
/-- All letters are the first one. -/
def conT (t : List UInt8) : Bool := t.all (· == t.headD 0)
def halfT (t : List UInt8) : Bool := decide (t.take (t.length / 2) = t.drop (t.length / 2))
def rfKey (fr : Int) (t : List UInt8) : MKey := if conT t = true then (-1, t.take 1) else (fr, t)
def RSt.put (st : RSt) (l : List Ins) (key : MKey) (k : Int) : RSt := ⟨st.code ++ l, st.made ++ [(key, k)]⟩
def rfStep (N : Nat) (rec : Int → List UInt8 → RSt → Int × RSt) (fr : Int) (t : List UInt8) (st : RSt) : Int × RSt :=
  match rlook st.made (rfKey fr t) with
  | some k => (k, st)
  | none =>
    if conT t = true then (((N + st.code.length : Nat) : Int), st.put [⟨if t.take 1 = [49] then 2 else 1, 0, 0⟩] (rfKey fr t) ((N + st.code.length : Nat) : Int))
    else if halfT t = true then rec (fr + 1) (t.take (t.length / 2)) st
    else
      let l := rec (fr + 1) (t.take (t.length / 2)) st
      let h := rec (fr + 1) (t.drop (t.length / 2)) l.2
      (((N + h.2.code.length + 2 : Nat) : Int), h.2.put [⟨4, l.1, h.1⟩, ⟨3, fr, ((N + h.2.code.length : Nat) : Int)⟩, ⟨4, l.1, ((N + h.2.code.length + 1 : Nat) : Int)⟩] (rfKey fr t) ((N + h.2.code.length + 2 : Nat) : Int))
def rfBit (N : Nat) : Nat → Int → List UInt8 → RSt → Int × RSt
  | 0 => rfStep N fun _ _ st => (0, st)
  | d + 1 => rfStep N (rfBit N d)
/-- What both makers keep in common. -/
structure Rel (N : Nat) (st : MSt) (rs : RSt) : Prop where
  code : st.code = rs.code
  con : ∀ b, st.kn ((N : Int), [b]) = rlook rs.made (-1, [b])
  look : ∀ (fr : Nat) t, conT t = false → halfT t = false → st.kn ((fr : Int), t) = rlook rs.made ((fr : Int), t)
  no : ∀ (fr : Nat) t, conT t = false → halfT t = true → rlook rs.made ((fr : Int), t) = none
  half : ∀ (fr : Nat) t k, conT t = false → halfT t = true → st.kn ((fr : Int), t) = some k → st.kn (((fr + 1 : Nat) : Int), t.take (t.length / 2)) = some k
theorem conT_zero {t : List UInt8} (hne : t ≠ []) (h : t.all (· == 48) = true) : conT t = true ∧ t.take 1 = [48] := by
  match t, hne with
  | a :: r, _ =>
    simp only [List.all_cons, Bool.and_eq_true, beq_iff_eq] at h
    obtain ⟨rfl, h⟩ := h
    exact ⟨by simp only [conT, List.headD_cons, List.all_cons, beq_self_eq_true, Bool.true_and]; exact h, by simp⟩
theorem conT_one {t : List UInt8} (hne : t ≠ []) (h : t.all (· == 49) = true) : conT t = true ∧ t.take 1 = [49] := by
  match t, hne with
  | a :: r, _ =>
    simp only [List.all_cons, Bool.and_eq_true, beq_iff_eq] at h
    obtain ⟨rfl, h⟩ := h
    exact ⟨by simp only [conT, List.headD_cons, List.all_cons, beq_self_eq_true, Bool.true_and]; exact h, by simp⟩
theorem conT_neither {t : List UInt8} (hc : ∀ c ∈ t, c = 48 ∨ c = 49) (hne : t ≠ []) (h0 : ¬ t.all (· == 48) = true) (h1 : ¬ t.all (· == 49) = true) : conT t = false := by
  match t, hne with
  | a :: r, _ =>
    rcases hc a (by simp) with rfl | rfl
    · exact Bool.eq_false_iff.2 fun h => h0 h
    · exact Bool.eq_false_iff.2 fun h => h1 h
theorem conT_half {t : List UInt8} (h : conT t = false) (hh : halfT t = true) (hl : 2 ≤ t.length) : conT (t.take (t.length / 2)) = false := by
  apply Bool.eq_false_iff.2
  intro hc
  have e := of_decide_eq_true hh
  have hs : t.take (t.length / 2) ++ t.take (t.length / 2) = t := by
    conv => rhs; rw [← List.take_append_drop (t.length / 2) t, ← e]
  have hd : (t.take (t.length / 2)).headD 0 = t.headD 0 := by
    match t, hl with
    | a :: b :: r, _ => simp only [List.length_cons]; rw [show (r.length + 1 + 1) / 2 = r.length / 2 + 1 by omega]; rfl
  unfold conT at hc h
  rw [hd] at hc
  rw [← hs] at h
  rw [List.all_append, show (t.take (t.length / 2) ++ t.take (t.length / 2)).headD 0 = t.headD 0 by rw [hs], hc] at h
  exact Bool.noConfusion h
theorem Rel.start (N : Nat) : Rel N ⟨[], fun _ => none⟩ ⟨[], []⟩ := ⟨rfl, fun _ => rfl, fun _ _ _ _ => rfl, fun _ _ _ _ => rfl, fun _ _ _ _ _ h => by cases h⟩
theorem conT_single (b : UInt8) : conT [b] = true := by simp [conT]
/-- A constant that is new. -/
theorem Rel.const {N : Nat} {st : MSt} {rs : RSt} (h : Rel N st rs) {b : UInt8} {l : List Ins} {k : Int} (hn : rlook rs.made (-1, [b]) = none) : Rel N ((st.add l).put ((N : Int), [b]) k) (rs.put l (-1, [b]) k) := by
  have hne : ∀ (fr : Nat) (t : List UInt8), ((-1, [b]) : MKey) ≠ ((fr : Int), t) := fun fr t e => by
    have := congrArg Prod.fst e
    simp only at this
    omega
  have hk : ∀ (fr : Int) t, conT t = false → ((st.add l).put ((N : Int), [b]) k).kn (fr, t) = st.kn (fr, t) := fun fr t ht => by
    simp only [MSt.put, MSt.add]
    rw [if_neg]
    intro e
    rw [(Prod.mk.inj e).2, conT_single] at ht
    cases ht
  refine ⟨by show st.code ++ l = rs.code ++ l; rw [h.code], fun c => ?_, fun fr t h1 h2 => ?_, fun fr t h1 h2 => ?_, fun fr t k' h1 h2 h3 => ?_⟩
  · simp only [MSt.put, MSt.add, RSt.put]
    by_cases e : c = b
    · subst e; rw [if_pos rfl, rlook_new hn]
    · rw [if_neg (by simp [e]), rlook_old (by simp; exact fun x => e x.symm)]; exact h.con c
  · rw [hk _ _ h1]
    simp only [RSt.put]
    rw [rlook_old (hne fr t)]
    exact h.look fr t h1 h2
  · simp only [RSt.put]
    rw [rlook_old (hne fr t)]
    exact h.no fr t h1 h2
  · rw [hk _ _ h1] at h3
    have h4 := h.half fr t k' h1 h2 h3
    by_cases hl : 2 ≤ t.length
    · rw [hk _ _ (conT_half h1 h2 hl)]; exact h4
    · have : t = [] ∨ ∃ a, t = [a] := by
        match t, hl with
        | [], _ => exact .inl rfl
        | [a], _ => exact .inr ⟨a, rfl⟩
        | a :: b :: r, h => exact absurd (by simp) h
      rcases this with rfl | ⟨a, rfl⟩
      · simp [conT] at h1
      · rw [conT_single] at h1; cases h1
/-- Two equal halves: the map alone takes the key. -/
theorem Rel.halves {N : Nat} {st : MSt} {rs : RSt} (h : Rel N st rs) {fr : Nat} {t : List UInt8} {k : Int} (ht : conT t = false) (hh : halfT t = true) (hn : st.kn ((fr : Int), t) = none) (hk : st.kn (((fr + 1 : Nat) : Int), t.take (t.length / 2)) = some k) : Rel N (st.put ((fr : Int), t) k) rs := by
  refine ⟨h.code, fun c => ?_, fun fr' t' h1 h2 => ?_, h.no, fun fr' t' k' h1 h2 h3 => ?_⟩
  · simp only [MSt.put]
    rw [if_neg]
    · exact h.con c
    · intro e; rw [← (Prod.mk.inj e).2, conT_single] at ht; cases ht
  · simp only [MSt.put]
    rw [if_neg]
    · exact h.look fr' t' h1 h2
    · intro e; rw [(Prod.mk.inj e).2, hh] at h2; cases h2
  · simp only [MSt.put] at h3 ⊢
    have hput : ∀ key, st.kn key = some k' → (if key = ((fr : Int), t) then some k else st.kn key) = some k' := by
      intro key hkey
      rw [if_neg]
      · exact hkey
      · intro e; rw [e, hn] at hkey; cases hkey
    by_cases e : (((fr' : Nat) : Int), t') = ((fr : Int), t)
    · rw [if_pos e] at h3
      obtain rfl := Option.some.inj h3
      obtain ⟨e1, rfl⟩ := Prod.mk.inj e
      obtain rfl : fr' = fr := by omega
      exact hput _ hk
    · rw [if_neg e] at h3
      exact hput _ (h.half fr' t' k' h1 h2 h3)
/-- Two different halves: both take the key. -/
theorem Rel.three {N : Nat} {st : MSt} {rs : RSt} (h : Rel N st rs) {fr : Nat} {t : List UInt8} {l : List Ins} {k : Int} (ht : conT t = false) (hh : halfT t = false) (hn : st.kn ((fr : Int), t) = none) : Rel N ((st.add l).put ((fr : Int), t) k) (rs.put l ((fr : Int), t) k) := by
  have hn2 : rlook rs.made ((fr : Int), t) = none := by rw [← h.look fr t ht hh]; exact hn
  refine ⟨by show st.code ++ l = rs.code ++ l; rw [h.code], fun c => ?_, fun fr' t' h1 h2 => ?_, fun fr' t' h1 h2 => ?_, fun fr' t' k' h1 h2 h3 => ?_⟩
  · simp only [MSt.put, MSt.add, RSt.put]
    rw [if_neg, rlook_old]
    · exact h.con c
    · intro e; rw [(Prod.mk.inj e).2, conT_single] at ht; cases ht
    · intro e; rw [← (Prod.mk.inj e).2, conT_single] at ht; cases ht
  · simp only [MSt.put, MSt.add, RSt.put]
    by_cases e : (((fr' : Nat) : Int), t') = ((fr : Int), t)
    · rw [if_pos e, e, rlook_new hn2]
    · rw [if_neg e, rlook_old (fun x => e x.symm)]; exact h.look fr' t' h1 h2
  · simp only [RSt.put]
    rw [rlook_old]
    · exact h.no fr' t' h1 h2
    · intro e; rw [← (Prod.mk.inj e).2, hh] at h2; cases h2
  · simp only [MSt.put, MSt.add] at h3 ⊢
    by_cases e : (((fr' : Nat) : Int), t') = ((fr : Int), t)
    · rw [(Prod.mk.inj e).2, hh] at h2; cases h2
    · rw [if_neg e] at h3
      have h4 := h.half fr' t' k' h1 h2 h3
      rw [if_neg]
      · exact h4
      · intro e2; rw [e2, hn] at h4; cases h4
/-- What the two makers yield at a table. -/
structure Both (N : Nat) (fr : Nat) (t : List UInt8) (st : MSt) (r : Int × MSt) (s : Int × RSt) : Prop where
  val : s.1 = r.1
  rel : Rel N r.2 s.2
  low : ∀ (f : Nat) t', f < fr → conT t' = false → r.2.kn ((f : Int), t') = st.kn ((f : Int), t')
  here : conT t = false → r.2.kn ((fr : Int), t) = some r.1
theorem both_const {N fr : Nat} {t : List UInt8} {st : MSt} {rs : RSt} {op : Int} {b : UInt8} {rec : Int → List UInt8 → RSt → Int × RSt} (h : Rel N st rs) (hc : conT t = true) (ht : t.take 1 = [b]) (hb : op = 1 ∧ b = 48 ∨ op = 2 ∧ b = 49) : Both N fr t st (mkConst N op b st) (rfStep N rec (fr : Int) t rs) := by
  unfold mkConst rfStep rfKey
  rw [if_pos hc, if_pos hc, ht, h.con b]
  cases hk : rlook rs.made (-1, [b]) with
  | some k => exact ⟨rfl, h, fun _ _ _ _ => rfl, fun e => by rw [hc] at e; cases e⟩
  | none =>
    have ho : (if ([b] : List UInt8) = [49] then (2 : Int) else 1) = op := by
      rcases hb with ⟨rfl, rfl⟩ | ⟨rfl, rfl⟩ <;> rfl
    dsimp only
    rw [ho, h.code]
    refine ⟨rfl, ?_, fun f t' hf ht' => ?_, fun e => by rw [hc] at e; cases e⟩
    · have := h.const (l := [⟨op, 0, 0⟩]) (k := ((N + rs.code.length : Nat) : Int)) hk
      exact this
    · simp only [MSt.put, MSt.add]
      rw [if_neg]
      intro e
      rw [(Prod.mk.inj e).2, conT_single] at ht'
      cases ht'
theorem rf_same {N : Nat} : ∀ {d fr : Nat} {t : List UInt8} {st : MSt} {rs : RSt}, Rel N st rs → fr + d = N → t.length = 2 ^ d → (∀ c ∈ t, c = 48 ∨ c = 49) → Both N fr t st (mkBit N d (fr : Int) t st) (rfBit N d (fr : Int) t rs) := by
  intro d
  induction d with
  | zero =>
    intro fr t st rs h hd ht hc
    show Both N fr t st (mkStep N _ (fr : Int) t st) (rfStep N _ (fr : Int) t rs)
    unfold mkStep
    match t, ht, hc with
    | [c], _, hc =>
      rcases hc c (by simp) with rfl | rfl
      · rw [if_pos (by decide)]; exact both_const h (by decide) rfl (.inl ⟨rfl, rfl⟩)
      · rw [if_neg (by decide), if_pos (by decide)]; exact both_const h (by decide) rfl (.inr ⟨rfl, rfl⟩)
  | succ d ih =>
    intro fr t st rs h hd ht hc
    have hp := two_pow_pos d
    have hp2 : 2 ^ (d + 1) = 2 * 2 ^ d := by rw [Nat.pow_succ, Nat.mul_comm]
    have hh : t.length / 2 = 2 ^ d := by rw [ht, hp2]; omega
    have hne : t ≠ [] := fun e => by rw [e] at ht; simp at ht; omega
    show Both N fr t st (mkStep N (mkBit N d) (fr : Int) t st) (rfStep N (rfBit N d) (fr : Int) t rs)
    unfold mkStep
    by_cases h0 : t.all (· == 48) = true
    · rw [if_pos h0]; exact both_const h (conT_zero hne h0).1 (conT_zero hne h0).2 (.inl ⟨rfl, rfl⟩)
    rw [if_neg h0]
    by_cases h1 : t.all (· == 49) = true
    · rw [if_pos h1]; exact both_const h (conT_one hne h1).1 (conT_one hne h1).2 (.inr ⟨rfl, rfl⟩)
    rw [if_neg h1]
    have hcon := conT_neither hc hne h0 h1
    have hl : (t.take (t.length / 2)).length = 2 ^ d := by rw [List.length_take, hh, ht, hp2]; omega
    have hr : (t.drop (t.length / 2)).length = 2 ^ d := by rw [List.length_drop, hh, ht, hp2]; omega
    have hcl : ∀ c ∈ t.take (t.length / 2), c = 48 ∨ c = 49 := fun c h => hc c (List.mem_of_mem_take h)
    have hcr : ∀ c ∈ t.drop (t.length / 2), c = 48 ∨ c = 49 := fun c h => hc c (List.mem_of_mem_drop h)
    have hfr : ((fr : Int) + 1) = ((fr + 1 : Nat) : Int) := by omega
    have hkey : rfKey (fr : Int) t = ((fr : Int), t) := by unfold rfKey; rw [if_neg (by rw [hcon]; decide)]
    have hcon2 : ¬ conT t = true := by rw [hcon]; decide
    unfold rfStep
    rw [hkey, hfr]
    by_cases hhf : halfT t = true
    · have hhe : t.take (t.length / 2) = t.drop (t.length / 2) := of_decide_eq_true hhf
      have hch := conT_half hcon hhf (by rw [ht, hp2]; omega)
      rw [h.no fr t hcon hhf]
      dsimp only
      rw [if_neg hcon2, if_pos hhf]
      cases hk : st.kn ((fr : Int), t) with
      | some k =>
        have hk2 := h.half fr t k hcon hhf hk
        have hmk : mkBit N d ((fr + 1 : Nat) : Int) (t.take (t.length / 2)) st = (k, st) := by
          have hne2 : t.take (t.length / 2) ≠ [] := fun e => by rw [e] at hl; simp at hl; omega
          have n0 : ¬ (t.take (t.length / 2)).all (· == 48) = true := fun e => by rw [(conT_zero hne2 e).1] at hch; cases hch
          have n1 : ¬ (t.take (t.length / 2)).all (· == 49) = true := fun e => by rw [(conT_one hne2 e).1] at hch; cases hch
          cases d with
          | zero => show mkStep N _ _ _ _ = _; unfold mkStep; rw [if_neg n0, if_neg n1, hk2]
          | succ d => show mkStep N _ _ _ _ = _; unfold mkStep; rw [if_neg n0, if_neg n1, hk2]
        have hB := ih (fr := fr + 1) h (by omega) hl hcl
        rw [hmk] at hB
        exact ⟨hB.val, hB.rel, fun _ _ _ _ => rfl, fun _ => hk⟩
      | none =>
        dsimp only
        rw [if_pos hhe]
        have hB := ih (fr := fr + 1) h (by omega) hl hcl
        have hlow := hB.low fr t (by omega) hcon
        rw [hk] at hlow
        refine ⟨hB.val, hB.rel.halves hcon hhf hlow (hB.here hch), fun f t' hf ht' => ?_, fun _ => by simp [MSt.put]⟩
        simp only [MSt.put]
        rw [if_neg (fun e => by have := congrArg Prod.fst e; simp only at this; omega)]
        exact hB.low f t' (by omega) ht'
    · have hhf2 : halfT t = false := Bool.eq_false_iff.2 hhf
      have hhe : ¬ t.take (t.length / 2) = t.drop (t.length / 2) := of_decide_eq_false hhf2
      rw [← h.look fr t hcon hhf2]
      cases hk : st.kn ((fr : Int), t) with
      | some k => exact ⟨rfl, h, fun _ _ _ _ => rfl, fun _ => hk⟩
      | none =>
        dsimp only
        rw [if_neg hcon2, if_neg hhf, if_neg hhe]
        have hB := ih (fr := fr + 1) h (by omega) hl hcl
        have hC := ih (fr := fr + 1) hB.rel (by omega) hr hcr
        have hlow := (hC.low fr t (by omega) hcon).trans (hB.low fr t (by omega) hcon)
        rw [hk] at hlow
        rw [hB.val]
        generalize mkBit N d ((fr + 1 : Nat) : Int) (t.take (t.length / 2)) st = l at *
        generalize rfBit N d ((fr + 1 : Nat) : Int) (t.take (t.length / 2)) rs = l2 at *
        rw [hC.val, ← hC.rel.code]
        generalize mkBit N d ((fr + 1 : Nat) : Int) (t.drop (t.length / 2)) l.2 = g at *
        generalize rfBit N d ((fr + 1 : Nat) : Int) (t.drop (t.length / 2)) l2.2 = g2 at *
        refine ⟨rfl, hC.rel.three hcon hhf2 hlow, fun f t' hf ht' => ?_, fun _ => by simp [MSt.put]⟩
        simp only [MSt.put, MSt.add]
        rw [if_neg (fun e => by have := congrArg Prod.fst e; simp only at this; omega)]
        exact (hC.low f t' (by omega) ht').trans (hB.low f t' (by omega) ht')
/-- All outputs. -/
def rfOut (N : Nat) (p : RSt × List Int) (t : List UInt8) : RSt × List Int := ((rfBit N N 0 t p.1).2, p.2 ++ [(rfBit N N 0 t p.1).1])
def rfAll (N : Nat) (tabs : List (List UInt8)) : RSt × List Int := tabs.foldl (rfOut N) (⟨[], []⟩, [])
theorem rfAll_snoc (N : Nat) (tabs : List (List UInt8)) (t : List UInt8) : rfAll N (tabs ++ [t]) = rfOut N (rfAll N tabs) t := by simp [rfAll]
theorem rfAll_same {N : Nat} {tabs : List (List UInt8)} (h : ∀ t ∈ tabs, t.length = 2 ^ N ∧ ∀ c ∈ t, c = 48 ∨ c = 49) : ∀ k, k ≤ tabs.length → Rel N (mkAll N (tabs.take k)).1 (rfAll N (tabs.take k)).1 ∧ (rfAll N (tabs.take k)).2 = (mkAll N (tabs.take k)).2 := by
  intro k
  induction k with
  | zero => intro _; exact ⟨Rel.start N, rfl⟩
  | succ k ih =>
    intro hk
    obtain ⟨t, ht⟩ : ∃ t, tabs[k]? = some t := ⟨_, List.getElem?_eq_getElem (by omega)⟩
    obtain ⟨h1, h2⟩ := ih (by omega)
    obtain ⟨h3, h4⟩ := h t (List.mem_of_getElem? ht)
    have hB := rf_same (fr := 0) h1 (by omega) h3 h4
    rw [take_snoc ht, mkAll_snoc, rfAll_snoc]
    exact ⟨hB.rel, by show _ ++ [_] = _ ++ [_]; rw [h2]; congr 1; congr 1; exact hB.val⟩
end Go.Proofs.YtcdfghogmdhfcaaGreatDoor
