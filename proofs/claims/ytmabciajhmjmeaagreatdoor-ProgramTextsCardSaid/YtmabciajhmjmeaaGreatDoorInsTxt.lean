/-
  The text of a program, written and read: plain laws.
  No condition: no program in sight.
-/
import Derived.Test.YtmabciajhmjmeaaGreatDoorInsLaw
import Derived.Lib.SplitLaws
import Derived.Lib.AtoiAll
import Derived.Lib.ItoaNum
namespace Go.Proofs.YtmabciajhmjmeaaGreatDoor
open Go.RowKit
set_option linter.unusedVariables false

/-- A list cut at a letter. -/
def splt (c : UInt8) : List UInt8 → List (List UInt8)
  | [] => [[]]
  | x :: l => if x = c then [] :: splt c l else match splt c l with
    | [] => [[x]]
    | h :: t => (x :: h) :: t
theorem splt_eq (c : UInt8) (l : List UInt8) : splt c (c :: l) = [] :: splt c l := by rw [splt, if_pos rfl]
theorem splt_ne {c x : UInt8} {l h : List UInt8} {t : List (List UInt8)} (hx : x ≠ c) (e : splt c l = h :: t) : splt c (x :: l) = (x :: h) :: t := by rw [splt, if_neg hx, e]
theorem splt_some (c : UInt8) (l : List UInt8) : ∃ h t, splt c l = h :: t := by
  induction l with
  | nil => exact ⟨[], [], rfl⟩
  | cons x l ih =>
    obtain ⟨h, t, e⟩ := ih
    by_cases hx : x = c
    · subst hx; exact ⟨_, _, splt_eq x l⟩
    · exact ⟨_, _, splt_ne hx e⟩
theorem splitK_splt (c : UInt8) : ∀ l : List UInt8, Lib.splitK [c] 0 (Lib.count l [c]) l = splt c l
  | [] => by rw [Lib.count_one]; rfl
  | x :: l => by
    have ih := splitK_splt c l
    by_cases hc : x = c
    · subst hc
      rw [Lib.count_cons_eq, Nat.add_comm, splt_eq, ← ih, Lib.splitK]
      have hix : Lib.index (x :: l) [x] = 0 := by rw [Lib.index]; simp [List.isPrefixOf]
      rw [hix]
      simp
    · obtain ⟨h, t, e⟩ := splt_some c l
      rw [Lib.count_cons_ne x c l hc, splt_ne hc e]
      rw [e] at ih
      have hp : ([c] : List UInt8).isPrefixOf (x :: l) = false := by simp [List.isPrefixOf, Ne.symm hc]
      have hix : Lib.index (x :: l) [c] = if Lib.index l [c] == -1 then -1 else Lib.index l [c] + 1 := by rw [Lib.index, hp]; simp
      have hge := Lib.index_ge l [c]
      cases hk : Lib.count l [c] with
      | zero =>
        rw [hk] at ih
        simp only [Lib.splitK, List.cons.injEq] at ih
        obtain ⟨i1, i2⟩ := ih
        rw [Lib.splitK, ← i1, ← i2]
      | succ k =>
        rw [hk, Lib.splitK] at ih
        rw [Lib.splitK, hix]
        by_cases hm : Lib.index l [c] = -1
        · rw [hm] at ih ⊢
          simp at ih ⊢
          exact ih
        · obtain ⟨j, hj⟩ : ∃ j : Nat, Lib.index l [c] = j := ⟨(Lib.index l [c]).toNat, by omega⟩
          rw [hj] at ih ⊢
          have h1 : ((j : Int) == -1) = false := by rw [beq_eq_false_iff_ne]; omega
          have h2 : ((j : Int) + 1 == -1) = false := by rw [beq_eq_false_iff_ne]; omega
          have h3 : ((j : Int) + 1).toNat = j + 1 := by omega
          simp only [h1, h2, h3, Bool.false_eq_true, if_false, Int.toNat_natCast, List.cons.injEq, List.length_cons, List.length_nil, Nat.add_zero] at ih ⊢
          refine ⟨by rw [List.take_succ_cons, ih.1], ?_⟩
          rw [← ih.2]
          rfl
/-- Parts joined by a letter. -/
def joinC (c : UInt8) : List (List UInt8) → List UInt8
  | [] => []
  | [a] => a
  | a :: b :: t => a ++ c :: joinC c (b :: t)
theorem joinC_cons (c : UInt8) (a : List UInt8) {t : List (List UInt8)} (h : t ≠ []) : joinC c (a :: t) = a ++ c :: joinC c t := by
  cases t with
  | nil => exact absurd rfl h
  | cons b t => rfl
theorem join_splt (c : UInt8) : ∀ l : List UInt8, joinC c (splt c l) = l
  | [] => rfl
  | x :: l => by
    have ih := join_splt c l
    obtain ⟨h, t, e⟩ := splt_some c l
    by_cases hx : x = c
    · subst hx
      rw [splt_eq, joinC_cons x [] (by rw [e]; simp), ih]
      rfl
    · rw [splt_ne hx e]
      rw [e] at ih
      cases t with
      | nil => show x :: h = x :: l; rw [show h = l from ih]
      | cons b t => show (x :: h) ++ c :: joinC c (b :: t) = x :: l; rw [List.cons_append]; rw [show h ++ c :: joinC c (b :: t) = l from ih]
theorem splt_free (c : UInt8) : ∀ (l : List UInt8), ∀ p ∈ splt c l, c ∉ p
  | [], p, hp => by rw [List.mem_singleton.1 hp]; simp
  | x :: l, p, hp => by
    have ih := splt_free c l
    obtain ⟨h, t, e⟩ := splt_some c l
    by_cases hx : x = c
    · subst hx
      rw [splt_eq] at hp
      rcases List.mem_cons.1 hp with rfl | hp
      · simp
      · exact ih p hp
    · rw [splt_ne hx e] at hp
      rw [e] at ih
      rcases List.mem_cons.1 hp with rfl | hp
      · intro hc
        rcases List.mem_cons.1 hc with hc | hc
        · exact hx hc.symm
        · exact ih h (List.mem_cons_self ..) hc
      · exact ih p (List.mem_cons_of_mem _ hp)
theorem splt_word {c : UInt8} : ∀ {w : List UInt8}, c ∉ w → splt c w = [w]
  | [], _ => rfl
  | x :: w, h => splt_ne (fun e => h (by simp [e])) (splt_word (fun hw => h (List.mem_cons_of_mem _ hw)))
theorem splt_app {c : UInt8} {l : List UInt8} : ∀ {w : List UInt8}, c ∉ w → splt c (w ++ c :: l) = w :: splt c l
  | [], _ => splt_eq c l
  | x :: w, h => splt_ne (fun e => h (by simp [e])) (splt_app (fun hw => h (List.mem_cons_of_mem _ hw)))
theorem splt_join {c : UInt8} : ∀ {ps : List (List UInt8)}, ps ≠ [] → (∀ p ∈ ps, c ∉ p) → splt c (joinC c ps) = ps
  | [], h, _ => absurd rfl h
  | [a], _, h => splt_word (h a (List.mem_cons_self ..))
  | a :: b :: t, _, h => by
    rw [joinC_cons c a (by simp), splt_app (h a (List.mem_cons_self ..)), splt_join (by simp) (fun p hp => h p (List.mem_cons_of_mem _ hp))]

/-- Digits. -/
theorem dec_digit (u : Nat) : ∀ c ∈ Lib.decDigits u, 48 ≤ c.toNat ∧ c.toNat ≤ 57 := by
  induction u using Nat.strongRecOn with
  | _ u ih =>
    have hof : ∀ d, d < 10 → 48 ≤ (UInt8.ofNat (48 + d)).toNat ∧ (UInt8.ofNat (48 + d)).toNat ≤ 57 := fun d hd => by
      rw [UInt8.toNat_ofNat']; omega
    intro c hc
    by_cases h : u < 10
    · rw [Lib.decDigits, dif_pos h] at hc
      rw [List.mem_singleton.1 hc]; exact hof u h
    · rw [Lib.decDigits, dif_neg h] at hc
      rcases List.mem_append.1 hc with hc | hc
      · exact ih (u / 10) (by omega) c hc
      · rw [List.mem_singleton.1 hc]; exact hof _ (by omega)
theorem dec_some (u : Nat) : Lib.decDigits u ≠ [] := by
  have := Lib.decDigits_length u
  have h2 := Lib.nDigits_pos u
  intro e
  rw [e] at this
  simp at this
  omega
theorem dec_free {c : UInt8} (h : c.toNat < 48) (u : Nat) : c ∉ Lib.decDigits u := fun hc => by have := (dec_digit u c hc).1; omega
theorem uint_app : ∀ (a b : List UInt8) (acc v : Nat), Lib.parseUint10 acc a = .ok v → Lib.parseUint10 acc (a ++ b) = Lib.parseUint10 v b
  | [], b, acc, v, h => by
    simp only [Lib.parseUint10] at h
    injection h with h
    rw [h]; rfl
  | c :: r, b, acc, v, h => by
    rw [List.cons_append]
    simp only [Lib.parseUint10] at h ⊢
    split at h
    · rename_i h1
      rw [if_pos h1]
      split at h
      · cases h
      · rename_i h2
        rw [if_neg h2]
        split at h
        · cases h
        · rename_i h3
          rw [if_neg h3]
          exact uint_app r b _ v h
    · cases h
theorem uint_dec (u : Nat) (hu : u < 1000000000000000000) : Lib.parseUint10 0 (Lib.decDigits u) = .ok u := by
  induction u using Nat.strongRecOn with
  | _ u ih =>
    have hof : ∀ d, d < 10 → (UInt8.ofNat (48 + d)).toNat = 48 + d := fun d hd => by rw [UInt8.toNat_ofNat']; omega
    by_cases h : u < 10
    · rw [Lib.decDigits, dif_pos h]
      simp only [Lib.parseUint10, hof u h]
      rw [if_pos (by omega), if_neg (by omega), if_neg (by omega)]
      congr 1; omega
    · rw [Lib.decDigits, dif_neg h, uint_app _ _ _ _ (ih (u / 10) (by omega) (by omega))]
      simp only [Lib.parseUint10, hof (u % 10) (by omega)]
      rw [if_pos (by omega), if_neg (by omega), if_neg (by omega)]
      congr 1; omega
theorem atoi_dec (u : Nat) (hu : u < 1000000000000000000) : Lib.atoiAll (Lib.decDigits u) = .ok (u : Int) := by
  have h1 := uint_dec u hu
  have h2 := dec_digit u
  have h3 := dec_some u
  generalize Lib.decDigits u = l at *
  cases l with
  | nil => exact absurd rfl h3
  | cons c r =>
    have hc := h2 c (List.mem_cons_self ..)
    have n1 : ¬ c.toNat = 43 := by omega
    have n2 : ¬ c.toNat = 45 := by omega
    have n3 : ¬ 9223372036854775808 ≤ u := by omega
    simp [Lib.atoiAll, Lib.parseMag, n1, n2, h1, n3]
/-- A number in a text. -/
def numT (x : List UInt8) : Option Nat := match Lib.atoiAll x with
  | .ok v => if 0 ≤ v ∧ v ≤ 999999999 ∧ Lib.decDigits v.toNat = x then some v.toNat else none
  | _ => none
theorem numT_dec {n : Nat} (h : n ≤ 999999999) : numT (Lib.decDigits n) = some n := by
  rw [numT, atoi_dec n (by omega)]
  simp only
  rw [if_pos ⟨by omega, by omega, by rw [Int.toNat_natCast]⟩, Int.toNat_natCast]
theorem numT_some {x : List UInt8} {n : Nat} (h : numT x = some n) : x = Lib.decDigits n ∧ n ≤ 999999999 := by
  unfold numT at h
  split at h
  · split at h
    · rename_i h1
      obtain ⟨h2, h3, h4⟩ := h1
      cases h
      exact ⟨h4.symm, by omega⟩
    · cases h
  · cases h
def numsT : List (List UInt8) → Option (List Nat)
  | [] => some []
  | x :: t => match numT x, numsT t with
    | some n, some l => some (n :: l)
    | _, _ => none
theorem numsT_map : ∀ {l : List Nat}, (∀ n ∈ l, n ≤ 999999999) → numsT (l.map Lib.decDigits) = some l
  | [], _ => rfl
  | n :: l, h => by
    rw [List.map_cons, numsT, numT_dec (h n (List.mem_cons_self ..)), numsT_map (fun m hm => h m (List.mem_cons_of_mem _ hm))]
theorem numsT_some : ∀ {ps : List (List UInt8)} {l : List Nat}, numsT ps = some l → ps = l.map Lib.decDigits ∧ ∀ n ∈ l, n ≤ 999999999
  | [], l, h => by cases h; exact ⟨rfl, fun n hn => by cases hn⟩
  | x :: t, l, h => by
    rw [numsT] at h
    split at h
    · rename_i n r h1 h2
      cases h
      obtain ⟨e1, e2⟩ := numT_some h1
      obtain ⟨e3, e4⟩ := numsT_some h2
      refine ⟨by rw [List.map_cons, ← e1, ← e3], fun m hm => ?_⟩
      rcases List.mem_cons.1 hm with rfl | hm
      · exact e2
      · exact e4 m hm
    · cases h
theorem numsT_snoc : ∀ (a : List (List UInt8)) (x : List UInt8), numsT (a ++ [x]) = match numsT a, numT x with
    | some l, some n => some (l ++ [n])
    | _, _ => none
  | [], x => by
    show numsT [x] = _
    simp only [numsT]
    cases numT x <;> rfl
  | y :: a, x => by
    rw [List.cons_append, numsT, numsT_snoc a x]
    rw [numsT]
    cases numT y <;> cases numsT a <;> cases numT x <;> rfl
theorem numsT_bad : ∀ {ps : List (List UInt8)} {x : List UInt8}, x ∈ ps → numT x = none → numsT ps = none
  | y :: t, x, hx, h => by
    rw [numsT]
    rcases List.mem_cons.1 hx with rfl | hx
    · rw [h]
    · rw [numsT_bad hx h]
      cases numT y <;> rfl
/-- A line: its first word, and its numbers. -/
def readT (s : List UInt8) : Option (List UInt8 × List Nat) := match splt 32 s with
  | [] => none
  | h :: t => (numsT t).map fun l => (h, l)
def lineT (wd : List UInt8) (l : List Nat) : List UInt8 := joinC 32 (wd :: l.map Lib.decDigits)
theorem readT_line {wd : List UInt8} {l : List Nat} (hw : (32 : UInt8) ∉ wd) (h : ∀ n ∈ l, n ≤ 999999999) : readT (lineT wd l) = some (wd, l) := by
  have e : splt 32 (lineT wd l) = wd :: l.map Lib.decDigits := splt_join (by simp) (fun p hp => by
    rcases List.mem_cons.1 hp with rfl | hp
    · exact hw
    · obtain ⟨n, _, rfl⟩ := List.mem_map.1 hp
      exact dec_free (by decide) n)
  rw [readT, e]
  simp only
  rw [numsT_map h]; rfl
theorem readT_some {s wd : List UInt8} {l : List Nat} (h : readT s = some (wd, l)) : s = lineT wd l ∧ (32 : UInt8) ∉ wd ∧ ∀ n ∈ l, n ≤ 999999999 := by
  have hj := join_splt 32 s
  have hf := splt_free 32 s
  unfold readT at h
  split at h
  · cases h
  · rename_i a t e
    cases hn : numsT t with
    | none => rw [hn] at h; cases h
    | some r =>
      rw [hn] at h
      cases h
      obtain ⟨e1, e2⟩ := numsT_some hn
      rw [e] at hj hf
      refine ⟨by rw [lineT, ← e1, hj], hf wd (List.mem_cons_self ..), e2⟩
/-- The operations' words. -/
def opWL (op : Int) : List UInt8 := if op = 1 then [122, 101, 114, 111] else if op = 2 then [111, 110, 101] else if op = 3 then [97, 110, 100] else if op = 4 then [120, 111, 114] else [110, 111, 116]
def opOf (w : List UInt8) : Int := if w = [122, 101, 114, 111] then 1 else if w = [111, 110, 101] then 2 else if w = [97, 110, 100] then 3 else if w = [120, 111, 114] then 4 else if w = [110, 111, 116] then 5 else 0
theorem opOf_word {op : Int} (h1 : 1 ≤ op) (h5 : op ≤ 5) : opOf (opWL op) = op ∧ (32 : UInt8) ∉ opWL op ∧ (10 : UInt8) ∉ opWL op := by
  have : op = 1 ∨ op = 2 ∨ op = 3 ∨ op = 4 ∨ op = 5 := by omega
  rcases this with rfl | rfl | rfl | rfl | rfl <;> decide
theorem opOf_some {w : List UInt8} (h : opOf w ≠ 0) : 1 ≤ opOf w ∧ opOf w ≤ 5 ∧ w = opWL (opOf w) := by
  unfold opOf at h ⊢
  split
  · rename_i e; exact ⟨by decide, by decide, e⟩
  · rw [if_neg ‹_›] at h
    split
    · rename_i e; exact ⟨by decide, by decide, e⟩
    · rw [if_neg ‹_›] at h
      split
      · rename_i e; exact ⟨by decide, by decide, e⟩
      · rw [if_neg ‹_›] at h
        split
        · rename_i e; exact ⟨by decide, by decide, e⟩
        · rw [if_neg ‹_›] at h
          split
          · rename_i e; exact ⟨by decide, by decide, e⟩
          · rw [if_neg ‹_›] at h
            exact absurd rfl h
/-- An instruction with numbers that a text may bear. -/
def FormI (x : Ins) : Prop := 1 ≤ x.op ∧ x.op ≤ 5 ∧ 0 ≤ x.a ∧ x.a ≤ 999999999 ∧ 0 ≤ x.b ∧ x.b ≤ 999999999 ∧ (usedN x.op < 1 → x.a = 0) ∧ (usedN x.op < 2 → x.b = 0)
def insN (x : Ins) : List Nat := [x.a.toNat, x.b.toNat].take (usedN x.op).toNat
def insOf (r : List UInt8 × List Nat) : Option Ins := if opOf r.1 ≠ 0 ∧ (r.2.length : Int) = usedN (opOf r.1) then some ⟨opOf r.1, (r.2.getD 0 0 : Nat), (r.2.getD 1 0 : Nat)⟩ else none
def lineI (s : List UInt8) : Option Ins := (readT s).bind insOf
def insT (x : Ins) : List UInt8 := lineT (opWL x.op) (insN x)
theorem used_word {op : Int} (h1 : 1 ≤ op) (h5 : op ≤ 5) : (usedN op = 0 ∧ (op = 1 ∨ op = 2)) ∨ (usedN op = 1 ∧ op = 5) ∨ (usedN op = 2 ∧ (op = 3 ∨ op = 4)) := by
  have : op = 1 ∨ op = 2 ∨ op = 3 ∨ op = 4 ∨ op = 5 := by omega
  rcases this with rfl | rfl | rfl | rfl | rfl <;> decide
theorem lineI_ins {x : Ins} (h : FormI x) : lineI (insT x) = some x := by
  obtain ⟨h1, h5, ha, ha2, hb, hb2, hA, hB⟩ := h
  obtain ⟨w1, w2, _⟩ := opOf_word h1 h5
  have hn : ∀ n ∈ insN x, n ≤ 999999999 := fun n hn => by
    have := List.mem_of_mem_take hn
    simp at this
    omega
  rw [lineI, insT, readT_line w2 hn]
  show insOf (opWL x.op, insN x) = some x
  rw [insOf]
  simp only [w1]
  obtain ⟨op, a, b⟩ := x
  simp only at *
  rcases used_word h1 h5 with ⟨u, _⟩ | ⟨u, _⟩ | ⟨u, _⟩
  · have e1 := hA (by omega)
    have e2 := hB (by omega)
    subst e1 e2
    rw [if_pos ⟨by omega, by simp [insN, u]⟩]
    simp [insN, u]
  · have e2 := hB (by omega)
    subst e2
    rw [if_pos ⟨by omega, by simp [insN, u]⟩]
    simp [insN, u]
    omega
  · rw [if_pos ⟨by omega, by simp [insN, u]⟩]
    simp [insN, u]
    omega
theorem lineI_some {s : List UInt8} {x : Ins} (h : lineI s = some x) : s = insT x ∧ FormI x := by
  unfold lineI at h
  cases hr : readT s with
  | none => rw [hr] at h; cases h
  | some r =>
    obtain ⟨wd, l⟩ := r
    rw [hr] at h
    have h : insOf (wd, l) = some x := h
    obtain ⟨e, hw, hl⟩ := readT_some hr
    unfold insOf at h
    split at h
    · rename_i hc
      obtain ⟨hc1, hc2⟩ := hc
      obtain ⟨o1, o5, ow⟩ := opOf_some hc1
      simp only at hc1 hc2 o1 o5 ow h
      cases h
      rw [ow] at e
      generalize opOf wd = op at *
      rcases used_word o1 o5 with ⟨u, _⟩ | ⟨u, _⟩ | ⟨u, _⟩
      · have : l = [] := List.length_eq_zero_iff.1 (by omega)
        subst this
        refine ⟨by rw [e, insT, insN, u]; rfl, o1, o5, ?_⟩
        simp
      · match l, hc2 with
        | [n], _ =>
          have hn := hl n (by simp)
          refine ⟨by rw [e, insT, insN, u]; simp, o1, o5, ?_⟩
          simp [u]
          omega
        | [], hc2 => simp at hc2; omega
        | _ :: _ :: _, hc2 => simp at hc2; omega
      · match l, hc2 with
        | [n, m], _ =>
          have hn := hl n (by simp)
          have hm := hl m (by simp)
          refine ⟨by rw [e, insT, insN, u]; simp, o1, o5, ?_⟩
          simp [u]
          omega
        | [], hc2 => simp at hc2; omega
        | [_], hc2 => simp at hc2; omega
        | _ :: _ :: _ :: _, hc2 => simp at hc2; omega
    · cases h
def codeT : List (List UInt8) → Option (List Ins)
  | [] => some []
  | s :: t => match lineI s, codeT t with
    | some x, some c => some (x :: c)
    | _, _ => none
theorem codeT_map : ∀ {c : List Ins}, (∀ x ∈ c, FormI x) → codeT (c.map insT) = some c
  | [], _ => rfl
  | x :: c, h => by
    rw [List.map_cons, codeT, lineI_ins (h x (List.mem_cons_self ..)), codeT_map (fun y hy => h y (List.mem_cons_of_mem _ hy))]
theorem codeT_some : ∀ {ls : List (List UInt8)} {c : List Ins}, codeT ls = some c → ls = c.map insT ∧ ∀ x ∈ c, FormI x
  | [], c, h => by cases h; exact ⟨rfl, fun x hx => by cases hx⟩
  | s :: t, c, h => by
    rw [codeT] at h
    split at h
    · rename_i x r h1 h2
      cases h
      obtain ⟨e1, e2⟩ := lineI_some h1
      obtain ⟨e3, e4⟩ := codeT_some h2
      refine ⟨by rw [List.map_cons, ← e1, ← e3], fun y hy => ?_⟩
      rcases List.mem_cons.1 hy with rfl | hy
      · exact e2
      · exact e4 y hy
    · cases h
theorem codeT_snoc : ∀ (a : List (List UInt8)) (s : List UInt8), codeT (a ++ [s]) = match codeT a, lineI s with
    | some c, some x => some (c ++ [x])
    | _, _ => none
  | [], s => by
    show codeT [s] = _
    simp only [codeT]
    cases lineI s <;> rfl
  | y :: a, s => by
    rw [List.cons_append, codeT, codeT_snoc a s]
    rw [codeT]
    cases lineI y <;> cases codeT a <;> cases lineI s <;> rfl
theorem codeT_bad : ∀ {ls : List (List UInt8)} {s : List UInt8}, s ∈ ls → lineI s = none → codeT ls = none
  | y :: t, s, hs, h => by
    rw [codeT]
    rcases List.mem_cons.1 hs with rfl | hs
    · rw [h]
    · rw [codeT_bad hs h]
      cases lineI y <;> rfl
def wProg : List UInt8 := [112, 114, 111, 103, 114, 97, 109]
def wOut : List UInt8 := [111, 117, 116]
/-- What a text says, line by line. -/
def linesT (ls : List (List UInt8)) : Option (Nat × List Ins × List Nat) := match ls with
  | [] => none
  | [_] => none
  | f :: g :: t => match readT f, codeT (g :: t).dropLast, readT ((g :: t).getLast (by simp)) with
    | some (w, [n]), some c, some (v, o) => if w = wProg ∧ v = wOut then some (n, c, o) else none
    | _, _, _ => none
def parseT (s : List UInt8) : Option (Nat × List Ins × List Nat) := if Lib.hasSuffix s [10] then linesT (splt 10 (Lib.trimSuffix s [10])) else none
def textL (n : Nat) (c : List Ins) (o : List Nat) : List (List UInt8) := lineT wProg [n] :: (c.map insT ++ [lineT wOut o])
def textT (n : Nat) (c : List Ins) (o : List Nat) : List UInt8 := joinC 10 (textL n c o) ++ [10]
def FormP (n : Nat) (c : List Ins) (o : List Nat) : Prop := n ≤ 999999999 ∧ (∀ x ∈ c, FormI x) ∧ ∀ k ∈ o, k ≤ 999999999
theorem linesT_text {n : Nat} {c : List Ins} {o : List Nat} (h : FormP n c o) : linesT (textL n c o) = some (n, c, o) := by
  obtain ⟨h1, h2, h3⟩ := h
  obtain ⟨g, t, e⟩ : ∃ g t, c.map insT ++ [lineT wOut o] = g :: t := by
    cases c with
    | nil => exact ⟨_, _, rfl⟩
    | cons x c => exact ⟨_, _, rfl⟩
  have hd : (g :: t).dropLast = c.map insT := by rw [← e, List.dropLast_concat]
  have hl : (g :: t).getLast (by simp) = lineT wOut o := by
    have : ∀ (l : List (List UInt8)) (hl : l ≠ []), l = c.map insT ++ [lineT wOut o] → l.getLast hl = lineT wOut o := by
      rintro l hl rfl; simp
    exact this _ _ e.symm
  rw [textL, e, linesT, hd, hl, readT_line (by decide) (by simpa using h1), codeT_map h2, readT_line (by decide) h3]
  simp
theorem linesT_some {ls : List (List UInt8)} {n : Nat} {c : List Ins} {o : List Nat} (h : linesT ls = some (n, c, o)) : ls = textL n c o ∧ FormP n c o := by
  unfold linesT at h
  split at h
  · cases h
  · cases h
  · rename_i f g t
    split at h
    · rename_i w m c' v o' h1 h2 h3
      split at h
      · rename_i hw
        obtain ⟨rfl, rfl⟩ := hw
        cases h
        obtain ⟨e1, _, e2⟩ := readT_some h1
        obtain ⟨e3, e4⟩ := codeT_some h2
        obtain ⟨e5, _, e6⟩ := readT_some h3
        refine ⟨?_, e2 n (by simp), e4, e6⟩
        rw [textL, ← e1, ← e3, ← e5, List.dropLast_concat_getLast]
      · cases h
    · cases h
theorem joinC_free {c d : UInt8} (hcd : d ≠ c) : ∀ {ps : List (List UInt8)}, (∀ p ∈ ps, d ∉ p) → d ∉ joinC c ps
  | [], _ => by simp [joinC]
  | [a], h => h a (List.mem_cons_self ..)
  | a :: b :: t, h => by
    rw [joinC_cons c a (by simp)]
    intro hd
    rcases List.mem_append.1 hd with hd | hd
    · exact h a (List.mem_cons_self ..) hd
    · rcases List.mem_cons.1 hd with hd | hd
      · exact hcd hd
      · exact joinC_free hcd (fun p hp => h p (List.mem_cons_of_mem _ hp)) hd
theorem lineT_free {wd : List UInt8} {l : List Nat} (hw : (10 : UInt8) ∉ wd) : (10 : UInt8) ∉ lineT wd l := joinC_free (by decide) (fun p hp => by
  rcases List.mem_cons.1 hp with rfl | hp
  · exact hw
  · obtain ⟨n, _, rfl⟩ := List.mem_map.1 hp
    exact dec_free (by decide) n)
theorem parseT_text {n : Nat} {c : List Ins} {o : List Nat} (h : FormP n c o) : parseT (textT n c o) = some (n, c, o) := by
  have hs : Lib.hasSuffix (textT n c o) [10] = true := by
    unfold Lib.hasSuffix
    rw [List.isSuffixOf_iff_suffix]
    exact ⟨_, rfl⟩
  have ht : Lib.trimSuffix (textT n c o) [10] = joinC 10 (textL n c o) := by
    rw [Lib.trimSuffix, hs]
    simp [textT]
  rw [parseT, hs, ht, if_pos rfl, splt_join (by simp [textL]) (fun p hp => ?_), linesT_text h]
  rcases List.mem_cons.1 hp with rfl | hp
  · exact lineT_free (by decide)
  · rcases List.mem_append.1 hp with hp | hp
    · obtain ⟨x, hx, rfl⟩ := List.mem_map.1 hp
      obtain ⟨h1, h5, _⟩ := h.2.1 x hx
      exact lineT_free (opOf_word h1 h5).2.2
    · rw [List.mem_singleton.1 hp]
      exact lineT_free (by decide)
theorem parseT_some {s : List UInt8} {n : Nat} {c : List Ins} {o : List Nat} (h : parseT s = some (n, c, o)) : s = textT n c o ∧ FormP n c o := by
  unfold parseT at h
  split at h
  · rename_i hs
    obtain ⟨e, hf⟩ := linesT_some h
    refine ⟨?_, hf⟩
    have hj := join_splt 10 (Lib.trimSuffix s [10])
    rw [e, Lib.trimSuffix, hs, if_pos rfl] at hj
    unfold Lib.hasSuffix at hs
    obtain ⟨r, rfl⟩ := List.isSuffixOf_iff_suffix.1 hs
    rw [textT, hj]
    simp
  · cases h
end Go.Proofs.YtmabciajhmjmeaaGreatDoor
