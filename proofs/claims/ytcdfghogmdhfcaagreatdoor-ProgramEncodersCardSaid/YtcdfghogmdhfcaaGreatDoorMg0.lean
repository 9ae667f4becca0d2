/-
  A small library over the kit: slices as they are read ('Sl'), worlds that keep what lay ('Below'), and lists read from an index on.
  More of the small library: an append as a step of a region that draws its order.
  Small aids for the walks: worlds step by step, calls in regions without an order, types, rows of numbers.
  The aids of the texts about programs, under the name that other texts import.
  Conditions: No condition: these are general lemmas. No condition: these are general lemmas. No condition: these are general lemmas. No condition.
-/
import Derived.WalkKit
import Derived.WalkSpells
import Derived.WalkLawsBesides
import Derived.BigQuiet
import Derived.Deep.DeepCutAuto
import Derived.Maps.AppendAt
import Derived.Deep.AppendLies
import Derived.Deep.RegionLaw
import Derived.Test.YtcdfghogmdhfcaaGreatDoorProg
namespace Go.Proofs.YtcdfghogmdhfcaaGreatDoor
open Go.RowKit

theorem hid {p : Prop} (h : p) : Hid p := h

/-- The largest length that we let a slice have here: 2^44 elements. -/
def big : Nat := 17592186044416

/-- A slice of n elements of sz cells each, as it is read: its cells are cs. -/
def Sl (sz : Nat) (w : World) (v : Value) (n : Nat) (cs : List Value) : Prop :=
  ∃ ao cap, v = .slice ao n cap ∧ cs.length = n * sz ∧ n ≤ cap ∧ cap ≤ 9223372036854775807 ∧
    (n = 0 ∨ ∃ b o, ao = some ⟨b, o, none⟩ ∧ ∀ j x, cs[j]? = some x → w.cell? ⟨b, o + j, none⟩ = some x)

theorem Sl.below {sz : Nat} {w w' : World} {v : Value} {n : Nat} {cs : List Value} (h : Sl sz w v n cs) (hb : Below w.heap.size w w') : Sl sz w' v n cs := by
  obtain ⟨ao, cap, rfl, h1, h2, h4, h3⟩ := h
  refine ⟨ao, cap, rfl, h1, h2, h4, ?_⟩
  rcases h3 with h3 | ⟨b, o, rfl, h3⟩
  · exact .inl h3
  · exact .inr ⟨b, o, rfl, fun j x hj => (hb.cell (p := ⟨b, o + j, none⟩) (World.block_lt_of_cell? w _ (h3 j x hj))).trans (h3 j x hj)⟩

/-- The address and the cells, where there is an element. -/
theorem Sl.pos {w : World} {ao : Option Addr} {n : Nat} {cs : List Value}
    (h : n = 0 ∨ ∃ b o, ao = some ⟨b, o, none⟩ ∧ ∀ j x, cs[j]? = some x → w.cell? ⟨b, o + j, none⟩ = some x) (h0 : 0 < n) :
    ∃ b o, ao = some ⟨b, o, none⟩ ∧ ∀ j x, cs[j]? = some x → w.cell? ⟨b, o + j, none⟩ = some x := by
  rcases h with rfl | h
  · simp at h0
  · exact h

theorem Sl.nil (sz : Nat) (w : World) : Sl sz w (.slice none 0 0) 0 [] := ⟨none, 0, rfl, by simp, by omega, by omega, .inl rfl⟩

/-- What a call owns reads as a slice. -/
theorem Sl.of_owns {w : World} {base : Nat} {e : TypeId} {sz : Nat} {v : Value} {n : Nat} {xs : List Value} (h : w.ownsRow base e sz v n xs) : Sl sz w v n xs := by
  rcases h.2 with ⟨rfl, rfl⟩ | ⟨g, cap, cur, rfl, hb, hg, hn, hc, hs, ht⟩
  · exact ⟨none, 0, rfl, h.1, by omega, by omega, .inl rfl⟩
  · refine ⟨_, cap, rfl, h.1, hn, by simpa [maxLen] using hc, .inr ⟨g, 0, rfl, fun j x hj => ?_⟩⟩
    have := h.cellAt j (by have := (List.getElem?_eq_some_iff.1 hj).1; have := h.1; omega)
    simpa [hj] using this

theorem lt_of_some {α : Type} {l : List α} {k : Nat} {x : α} (h : l[k]? = some x) : k < l.length := (List.getElem?_eq_some_iff.1 h).1
theorem some_of_lt {α : Type} {l : List α} {k : Nat} (h : k < l.length) : ∃ x, l[k]? = some x := ⟨_, List.getElem?_eq_getElem h⟩
theorem drop_cons {α : Type} {l : List α} {k : Nat} {x : α} (h : l[k]? = some x) : l.drop k = x :: l.drop (k + 1) := by
  have hk := lt_of_some h
  rw [List.drop_eq_getElem_cons hk]
  congr 1
  rw [List.getElem?_eq_getElem hk] at h
  exact Option.some.inj h
theorem take_snoc {α : Type} {l : List α} {k : Nat} {x : α} (h : l[k]? = some x) : l.take (k + 1) = l.take k ++ [x] := by
  have hk := lt_of_some h
  rw [List.take_succ_eq_append_getElem hk]
  congr 2
  rw [List.getElem?_eq_getElem hk] at h
  exact Option.some.inj h
theorem drop_all {α : Type} {l : List α} {k : Nat} (h : l.length ≤ k) : l.drop k = [] := List.drop_eq_nil_of_le h
theorem take_all {α : Type} {l : List α} {k : Nat} (h : l.length ≤ k) : l.take k = l := List.take_of_length_le h

theorem ret_int {k : IntKind} {a b : Int} (h : a = b) : Ending.returned (.int k a) = .returned (.int k b) := by rw [h]
theorem ret_bool {a b : Bool} (h : a = b) : Ending.returned (.bool a) = .returned (.bool b) := by rw [h]
theorem int_eq {k : IntKind} {a b : Int} (h : a = b) : Value.int k a = .int k b := by rw [h]

/-- The world has at most drawn. -/
def Dr (w w' : World) : Prop := ∃ n, w' = w.drewN n
theorem drewN_drewN (w : World) (n m : Nat) : (w.drewN n).drewN m = w.drewN (n + m) := by
  simp [World.drewN, Nat.add_assoc]
theorem Dr.refl (w : World) : Dr w w := ⟨0, rfl⟩
theorem Dr.drewN {w w' : World} (h : Dr w w') (n : Nat) : Dr w (w'.drewN n) := by
  obtain ⟨m, rfl⟩ := h
  exact ⟨m + n, drewN_drewN w m n⟩
theorem Dr.drew {w w' : World} (h : Dr w w') : Dr w w'.drew := by
  obtain ⟨m, rfl⟩ := h
  exact ⟨m + 1, drewN_drewN w m 1⟩
theorem Dr.trans {a b c : World} (h : Dr a b) (k : Dr b c) : Dr a c := by
  obtain ⟨n, rfl⟩ := k
  exact h.drewN n
theorem below_drewN {B : Nat} {a w : World} (h : Below B a w) (n : Nat) : Below B a (w.drewN n) := h.trans ⟨rfl, rfl, rfl, Nat.le_refl _, fun _ _ => rfl⟩
theorem Dr.below {w w' : World} (h : Dr w w') (B : Nat) : Below B w w' := by
  obtain ⟨m, rfl⟩ := h
  exact below_drewN (Below.refl _ _) m

theorem Sl.dr {sz : Nat} {w w' : World} {v : Value} {n : Nat} {cs : List Value} (h : Sl sz w v n cs) (hd : Dr w w') : Sl sz w' v n cs := h.below (hd.below _)

theorem cells_new (w : World) (us : Array Value) (e : TypeId) : ∀ j u, us.toList[j]? = some u → (w.alloc (.cells us e)).cell? ((⟨w.heap.size, 0, none⟩ : Addr).add j) = some u := by
  intro j u hu
  have hadd : (⟨w.heap.size, 0, none⟩ : Addr).add j = ⟨w.heap.size, j, none⟩ := by unfold Addr.add; split <;> simp_all
  rw [hadd, cell_of_row _ w.heap.size j us e (0, 0) (heap_alloc_new w _)]
  simpa using hu

/-- 'out = append(out, x)': one element of sz cells, laid in a new block first, is put behind what the call owns. -/
theorem wpList_push {P : Program} {ops : Array Oper} {rest : List Oper} {o : Oper} {a : Act} {Q : Exit → Act → World → Prop} (wr : World) (hgd : o.guard = none) (s x : Operand) (t : TypeId)
    (ho : o.op = .call { callee := .builtin .append, args := #[s, x], argTypes := #[t, t] })
    (base : Nat) (e : TypeId) (z : Value) (sz bytes : Nat) (ht : P.underlying t = some (.slice e)) (hinfo : (P.info? e).map (fun i => (i.zero, i.size, i.bytes)) = some (some z, sz, bytes))
    (hzs : z.cells.size = sz) (hsz : 0 < sz) (v : Value) (n : Nat) (xs : List Value) (hs : a.eval s = v) (hown : wr.ownsRow base e sz v n xs)
    (us : Array Value) (hus : us.size = sz) (hu : ∀ u ∈ us.toList, u.oneCell' = true) (hx : a.eval x = .slice (some ⟨wr.heap.size, 0, none⟩) 1 1)
    (h63 : n + 1 ≤ maxLen) (hbytes : (n + 1) * bytes ≤ 140737488355328) (hbase : base ≤ wr.heap.size)
    (h : ∀ g cap w', w'.ownsRow base e sz (.slice (some ⟨g, 0, none⟩) (n + 1) cap) (n + 1) (xs ++ us.toList) → wr.grownBy w' v.ownBlock → Below base wr w' → wpList P ops Q rest (a.put o.dst (.slice (some ⟨g, 0, none⟩) (n + 1) cap)) w') :
    wpList P ops Q (o :: rest) a (wr.alloc (.cells us e)) := by
  obtain ⟨i0, hi, hz0, hz1, hz2⟩ := info_parts hinfo
  refine wpList_append_own _ hgd s x t ho base e i0 z sz bytes ht hi hz0 hz1 hz2 hzs hsz v n xs hs (hown.alloc _) ⟨wr.heap.size, 0, none⟩ 1 1 us.toList hx (by simp [hus]) (cells_new wr us e) hu h63 hbytes (by simp; omega) ?_
  intro v' w' ho' hg _
  have hg' : wr.grownBy w' v.ownBlock := ⟨hg.os, hg.tape, hg.output, by have := hg.size; simp at this; omega, fun k hk hne => (hg.block k (by simp; omega) hne).trans (Below.heap_alloc wr _ k hk)⟩
  obtain ⟨g, cap, rfl⟩ : ∃ g cap, v' = .slice (some ⟨g, 0, none⟩) (n + 1) cap := by
    rcases ho'.2 with ⟨_, h0⟩ | ⟨g, cap, cur, hv, _⟩
    · omega
    · exact ⟨g, cap, hv⟩
  exact h g cap w' ho' hg' ((Below.refl _ _).grown hg' hbase (fun k hk => ((hown.lt k hk).1)))

theorem oneCell_int (k : IntKind) (n : Int) : ∀ u ∈ (#[Value.int k n] : Array Value).toList, u.oneCell' = true := by simp [Value.oneCell']
theorem oneCell_string (s : ByteArray) : ∀ u ∈ (#[Value.string s] : Array Value).toList, u.oneCell' = true := by simp [Value.oneCell']
theorem map_snoc {α β : Type} (f : α → β) (l : List α) (x : α) : (l ++ [x]).map f = l.map f ++ [f x] := by simp
/-- Integers as the cells of a slice. -/
def ints (l : List Int) : List Value := l.map (.int .i64)
theorem ints_snoc (l : List Int) (x : Int) : ints (l ++ [x]) = ints l ++ [.int .i64 x] := by simp [ints]
theorem ints_nil : ints [] = [] := rfl
theorem ints_len (l : List Int) : (ints l).length = l.length := by simp [ints]
theorem ints_get {l : List Int} {k : Nat} {x : Int} (h : l[k]? = some x) : (ints l)[k]? = some (.int .i64 x) := by simp [ints, h]


theorem i64_and_pow (j : Nat) (hj : j ≤ 62) (m : Int) (hm : m = ((2 ^ j - 1 : Nat) : Int)) (n : Int) : bits .and .i64 n m = n % ((2 ^ j : Nat) : Int) := by
  subst hm
  have h1 : 2 ^ j ≤ 2 ^ 62 := Nat.pow_le_pow_right (by decide) hj
  have h0 : 0 < 2 ^ j := Nat.two_pow_pos j
  have hm : (BitVec.ofInt 64 ((2 ^ j - 1 : Nat) : Int)).toNat = 2 ^ j - 1 := by
    rw [BitVec.toNat_ofInt]
    have h62 : 2 ^ 62 = 4611686018427387904 := by decide
    omega
  have key : (BitVec.ofInt 64 n &&& BitVec.ofInt 64 ((2 ^ j - 1 : Nat) : Int)).toNat = (n % ((2 ^ 64 : Nat) : Int)).toNat % 2 ^ j := by
    rw [BitVec.toNat_and, BitVec.toNat_ofInt, hm, Nat.and_two_pow_sub_one_eq_mod]
  show IntKind.i64.wrap ((BitVec.ofInt 64 n &&& BitVec.ofInt 64 ((2 ^ j - 1 : Nat) : Int)).toNat : Nat) = _
  rw [key, IntKind.wrap_i64]
  have hmod : (n % ((2 ^ 64 : Nat) : Int)).toNat % 2 ^ j = (n % ((2 ^ j : Nat) : Int)).toNat := by
    have e : (2 : Nat) ^ 64 = 2 ^ j * 2 ^ (64 - j) := by rw [← Nat.pow_add]; congr 1; omega
    have h := Int.emod_emod_of_dvd n (show ((2 ^ j : Nat) : Int) ∣ ((2 ^ 64 : Nat) : Int) from ⟨((2 ^ (64 - j) : Nat) : Int), by rw [e]; simp⟩)
    have h3 : 0 ≤ n % ((2 ^ 64 : Nat) : Int) := Int.emod_nonneg _ (by simp)
    have h4 : 0 ≤ n % ((2 ^ j : Nat) : Int) := Int.emod_nonneg _ (by omega)
    have h5 : (((n % ((2 ^ 64 : Nat) : Int)).toNat % 2 ^ j : Nat) : Int) = n % ((2 ^ j : Nat) : Int) := by
      rw [Int.natCast_emod, Int.toNat_of_nonneg h3, h]
    omega
  rw [hmod]
  have h4 : 0 ≤ n % ((2 ^ j : Nat) : Int) := Int.emod_nonneg _ (by omega)
  have h6 : n % ((2 ^ j : Nat) : Int) < ((2 ^ j : Nat) : Int) := Int.emod_lt_of_pos _ (by omega)
  have h62 : (2 : Nat) ^ 62 = 4611686018427387904 := by decide
  omega
theorem i64_and1 (n : Int) : bits .and .i64 n 1 = n % 2 := i64_and_pow 1 (by decide) 1 (by decide) n
theorem i64_and3 (n : Int) : bits .and .i64 n 3 = n % 4 := i64_and_pow 2 (by decide) 3 (by decide) n

/-- What a call owns it owns still where nothing that lay has turned. -/
theorem own_below {w w' : World} {base : Nat} {e : TypeId} {sz : Nat} {v : Value} {n : Nat} {xs : List Value} (h : w.ownsRow base e sz v n xs) (hb : Below w.heap.size w w') : w'.ownsRow base e sz v n xs := by
  refine ⟨h.1, ?_⟩
  rcases h.2 with h2 | ⟨g, cap, cur, hv, hg, hh, r⟩
  · exact .inl h2
  · exact .inr ⟨g, cap, cur, hv, hg, by rw [hb.block g (Array.getElem?_eq_some_iff.1 hh).1]; exact hh, r⟩
theorem own_drewN {w : World} {base : Nat} {e : TypeId} {sz : Nat} {v : Value} {n : Nat} {xs : List Value} (h : w.ownsRow base e sz v n xs) (m : Nat) : (w.drewN m).ownsRow base e sz v n xs := own_below h (below_drewN (Below.refl _ _) m)
/-- Strings as the cells of a slice. -/
def strs (l : List ByteArray) : List Value := l.map .string
theorem strs_snoc (l : List ByteArray) (x : ByteArray) : strs (l ++ [x]) = strs l ++ [.string x] := by simp [strs]
theorem strs_len (l : List ByteArray) : (strs l).length = l.length := by simp [strs]
theorem strs_get {l : List ByteArray} {k : Nat} {x : ByteArray} (h : l[k]? = some x) : (strs l)[k]? = some (.string x) := by simp [strs, h]

/-- One cell of a slice that is read, with the slice's address. -/
theorem Sl.cell {sz : Nat} {w : World} {ao : Option Addr} {n cap m k : Nat} {cs : List Value} {x : Value} (h : Sl sz w (.slice ao n cap) m cs) (hk : cs[k]? = some x) :
    ∃ b o, ao = some ⟨b, o, none⟩ ∧ w.cell? ⟨b, o + k, none⟩ = some x := by
  obtain ⟨ao', cap', hv, hl, _, _, h3⟩ := h
  simp only [Value.slice.injEq] at hv
  obtain ⟨rfl, rfl, rfl⟩ := hv
  rcases h3 with h3 | ⟨b, o, rfl, h3⟩
  · subst h3
    have := lt_of_some hk
    omega
  · exact ⟨b, o, rfl, h3 k x hk⟩

/-- 'make([]T, n)', T of one cell. -/
theorem wpList_zeros {P : Program} (w : World) {ops : Array Oper} {rest : List Oper} {o : Oper} {a : Act} {Q : Exit → Act → World → Prop}
    (hg : o.guard = none) (l c : Operand) (t : TypeId) (hop : o.op = Op.makeSlice t l c)
    (base : Nat) (e : TypeId) (z : Value) (bytes : Nat) (h1 : P.underlying t = some (.slice e)) (hinfo : (P.info? e).map (fun i => (i.zero, i.size, i.bytes)) = some (some z, 1, bytes)) (hz : z.cells = #[z])
    (kl kc : IntKind) (L C : Int) (n : Nat) (hl : a.eval l = .int kl L) (hc : a.eval c = .int kc C) (hL : L = (n : Int)) (hC : C = (n : Int)) (b2 : bytes * n ≤ 281474976710656) (b3 : n ≤ maxLen) (b4 : base ≤ w.heap.size)
    (hK : ∀ w', w'.ownsRow base e 1 (.slice (some ⟨w.heap.size, 0, none⟩) n n) n (List.replicate n z) → Below w.heap.size w w' → wpList P ops Q rest (a.put o.dst (.slice (some ⟨w.heap.size, 0, none⟩) n n)) w') :
    wpList P ops Q (o :: rest) a w := by
  obtain ⟨i0, hi, hz0, hz1, hz2⟩ := info_parts hinfo
  subst hz2
  refine wpList_make_full w hg l c t hop base e i0 z 1 h1 hi hz0 hz1 kl kc L C n hl hc hL hC b2 b3 b4 ?_
  intro w' ho hgr
  rw [hz, Nat.mul_one, toList_madeCells_one] at ho
  exact hK w' ho ((Below.refl _ _).grown hgr (Nat.le_refl _) (by simp))
/-- The length in a slot: for a loop's measure. -/
def lenOf : Value → Nat | .slice _ n _ => n | _ => 0

/-- 'make([]T, 0, n)'. -/
theorem wpList_room0 {P : Program} (w : World) {ops : Array Oper} {rest : List Oper} {o : Oper} {a : Act} {Q : Exit → Act → World → Prop}
    (hg : o.guard = none) (l c : Operand) (t : TypeId) (hop : o.op = Op.makeSlice t l c)
    (base : Nat) (e : TypeId) (z : Value) (sz bytes : Nat) (h1 : P.underlying t = some (.slice e)) (hinfo : (P.info? e).map (fun i => (i.zero, i.size, i.bytes)) = some (some z, sz, bytes))
    (kl kc : IntKind) (C : Int) (n : Nat) (hl : a.eval l = .int kl 0) (hc : a.eval c = .int kc C) (hC : C = (n : Int)) (b2 : bytes * n ≤ 281474976710656) (b3 : n ≤ maxLen) (b4 : base ≤ w.heap.size)
    (hK : ∀ w', w'.ownsRow base e sz (.slice (some ⟨w.heap.size, 0, none⟩) 0 n) 0 [] → Below w.heap.size w w' → wpList P ops Q rest (a.put o.dst (.slice (some ⟨w.heap.size, 0, none⟩) 0 n)) w') :
    wpList P ops Q (o :: rest) a w := by
  obtain ⟨i0, hi, hz0, hz1, hz2⟩ := info_parts hinfo
  subst hz2
  refine wpList_make_own w hg l c t hop base e i0 z sz h1 hi hz0 hz1 kl kc C n hl hc hC b2 b3 b4 ?_
  intro w' ho hgr
  exact hK w' ho ((Below.refl _ _).grown hgr (Nat.le_refl _) (by simp))

/-- A cell of a block that was laid first, in a later world. -/
theorem cell_laid {w w1 : World} {cs : Array Value} {e : TypeId} (h : Below (w.heap.size + 1) (w.alloc (.cells cs e)) w1) (j : Nat) {v : Value} (hj : cs[j]? = some v) : w1.cell? ⟨w.heap.size, j, none⟩ = some v := by
  have hb : w1.heap[w.heap.size]? = some (.cells cs e (0, 0)) := by
    rw [h.block _ (by omega)]
    exact heap_alloc_new w _
  rw [cell_of_row _ w.heap.size j cs e (0, 0) hb, hj]
theorem frozen_laid {w w1 : World} {cs : Array Value} {e : TypeId} (h : Below (w.heap.size + 1) (w.alloc (.cells cs e)) w1) (j : Nat) : w1.frozen? ⟨w.heap.size, j, none⟩ = false := by
  have hb : w1.heap[w.heap.size]? = some (.cells cs e (0, 0)) := by
    rw [h.block _ (by omega)]
    exact heap_alloc_new w _
  simp [World.frozen?, hb]
theorem below_laid {w w1 : World} {o : Obj} (h : Below (w.heap.size + 1) (w.alloc o) w1) : Below w.heap.size w w1 := ((Below.refl w.heap.size w).alloc (Nat.le_refl _) o).trans (h.mono (by omega))

/-- Whatever cell there was holds what it held. -/
theorem keeps {w w' : World} (h : Below w.heap.size w w') {a : Addr} {v : Value} (hc : w.cell? a = some v) : w'.cell? a = some v := (h.cell (World.block_lt_of_cell? w a hc)).trans hc
theorem keeps_frozen {w w' : World} (h : Below w.heap.size w w') {a : Addr} {v : Value} {b : Bool} (hc : w.cell? a = some v) (hf : w.frozen? a = b) : w'.frozen? a = b := (h.frozen (World.block_lt_of_cell? w a hc)).trans hf
end Go.Proofs.YtcdfghogmdhfcaaGreatDoor

namespace Go.Proofs.YtcdfghogmdhfcaaGreatDoor
open Go.RowKit

theorem step_push {P : Program} {ops : Array Oper} {o : Oper} {a : Act} {K : Act → World → Prop} {Q : Exit → Act → World → Prop} {E : Prop} {W : World} (hgd : o.guard = none) (s x : Operand) (t : TypeId)
    (ho : o.op = .call { callee := .builtin .append, args := #[s, x], argTypes := #[t, t] })
    (base : Nat) (e : TypeId) (z : Value) (sz bytes : Nat) (ht : P.underlying t = some (.slice e)) (hinfo : (P.info? e).map (fun i => (i.zero, i.size, i.bytes)) = some (some z, sz, bytes))
    (hzs : z.cells.size = sz) (hsz : 0 < sz) (v : Value) (n : Nat) (xs : List Value) (hs : a.eval s = v) (hown : W.ownsRow base e sz v n xs)
    (g0 : Nat) (us : Array Value) (hus : us.size = sz) (hu : ∀ u ∈ us.toList, u.oneCell' = true) (hx : a.eval x = .slice (some ⟨g0, 0, none⟩) 1 1) (hb : W.heap[g0]? = some (.cells us e (0, 0)))
    (h63 : n + 1 ≤ maxLen) (hbytes : (n + 1) * bytes ≤ 140737488355328) (hbase : base ≤ W.heap.size)
    (h : ∀ g cap w', w'.ownsRow base e sz (.slice (some ⟨g, 0, none⟩) (n + 1) cap) (n + 1) (xs ++ us.toList) → W.grownBy w' v.ownBlock → Below base W w' → K (a.put o.dst (.slice (some ⟨g, 0, none⟩) (n + 1) cap)) w') :
    if Region.wanted o (yielded ops a.tmps) = true then Oper.wp P o a W K Q else E := by
  obtain ⟨i0, hi, hz0, hz1, hz2⟩ := info_parts hinfo
  refine step_append_lies W hgd s x t ho base e i0 z sz bytes ht hi hz0 hz1 hz2 hzs hsz v n xs hs hown ⟨g0, 0, none⟩ 1 1 us.toList hx (by simp [hus]) (World.news_of_block hb) hu (by decide) h63 hbytes hbase _ rfl ?_
  intro g cap w' ho' hg _ _
  exact h g cap w' ho' hg ((Below.refl _ _).grown hg hbase (fun k hk => ((hown.lt k hk).1)))
/-- An empty slice literal. -/
theorem own_empty (w : World) (e : TypeId) (sz : Nat) : (w.alloc (.cells #[] e)).ownsRow w.heap.size e sz (.slice (some ⟨w.heap.size, 0, none⟩) 0 0) 0 [] := by
  refine ⟨by simp, .inr ⟨w.heap.size, 0, #[], rfl, Nat.le_refl _, heap_alloc_new w _, Nat.le_refl _, by simp [maxLen], by simp, by simp⟩⟩
theorem own_base {w : World} {b b' : Nat} {e : TypeId} {sz : Nat} {v : Value} {n : Nat} {xs : List Value} (h : w.ownsRow b e sz v n xs) (hb : b' ≤ b) : w.ownsRow b' e sz v n xs := by
  refine ⟨h.1, ?_⟩
  rcases h.2 with h2 | ⟨g, cap, cur, hv, hg, r⟩
  · exact .inl h2
  · exact .inr ⟨g, cap, cur, hv, Nat.le_trans hb hg, r⟩
end Go.Proofs.YtcdfghogmdhfcaaGreatDoor

namespace Go.Proofs.YtcdfghogmdhfcaaGreatDoor
open Go.RowKit
set_option linter.unusedVariables false

theorem Tryz.infoInt : (Tryz.prog.info? 3).map (fun i => (i.zero, i.size, i.bytes)) = some (some (.int .i64 0), 1, 8) := by kernel_rfl
theorem Tryz.infoString : (Tryz.prog.info? 9).map (fun i => (i.zero, i.size, i.bytes)) = some (some (.string ⟨#[]⟩), 1, 16) := by kernel_rfl

/-- One call more. -/
theorem bel_step {w wc wd w' : World} (h : Below w.heap.size w wc) (hb : Below wd.heap.size wd w') (hd : wd.os = wc.os ∧ wd.tape = wc.tape ∧ wd.output = wc.output ∧ wd.heap = wc.heap := by exact ⟨rfl, rfl, rfl, rfl⟩) : Below w.heap.size w w' := by
  obtain ⟨d1, d2, d3, d4⟩ := hd
  refine h.trans ⟨hb.os.trans d1, hb.tape.trans d2, hb.output.trans d3, by rw [← d4]; exact hb.size, fun k hk => ?_⟩
  rw [hb.block k (by rw [d4]; have := h.size; omega), d4]
theorem bel_alloc (w : World) (o : Obj) : Below w.heap.size w (w.alloc o) := (Below.refl _ _).alloc (Nat.le_refl _) _
theorem below_now {X Z : World} (h1 : Z.os = X.os ∧ Z.tape = X.tape ∧ Z.output = X.output) (h2 : Z.heap = X.heap ∨ ∃ o, Z.heap = X.heap.push o) : Below X.heap.size X Z := by
  rcases h2 with h2 | ⟨o, h2⟩
  · exact ⟨h1.1, h1.2.1, h1.2.2, by rw [h2]; exact Nat.le_refl _, fun k _ => by rw [h2]⟩
  · exact ⟨h1.1, h1.2.1, h1.2.2, by rw [h2, Array.size_push]; omega, fun k hk => by rw [h2, Array.getElem?_push, if_neg (by omega)]⟩
theorem below_via {X Z Y : World} (hb : Below Z.heap.size Z Y) (h1 : Z.os = X.os ∧ Z.tape = X.tape ∧ Z.output = X.output) (h2 : Z.heap = X.heap ∨ ∃ o, Z.heap = X.heap.push o) : Below X.heap.size X Y :=
  (below_now h1 h2).trans (hb.mono (below_now h1 h2).size)
theorem own_slice {w : World} {base : Nat} {e : TypeId} {sz : Nat} {v : Value} {n : Nat} {xs : List Value} (h : w.ownsRow base e sz v n xs) : ∃ ao cap, v = .slice ao n cap := by
  rcases h.2 with ⟨hv, h0⟩ | ⟨g, cap, cur, hv, _⟩
  · exact ⟨none, 0, by rw [hv, h0]⟩
  · exact ⟨_, cap, hv⟩

/-- What a call inside a region without an order owes, in three forms. -/
theorem quietD {P : Program} {f : FuncId} {args : Array Value} {w : World} {n : Nat} {v : Value} (h : Calls P f args (w.drewN n) fun e w' => e = .returned v ∧ Dr (w.drewN n) w') : Calls P f args (w.drewN n) fun e w'' => e = .returned v ∧ ∃ m, w'' = w.drewN m :=
  h.mono fun _ _ ⟨he, m, hm⟩ => ⟨he, n + m, by rw [hm, drewN_drewN]⟩
theorem quietR {P : Program} {f : FuncId} {args : Array Value} {w : World} {n : Nat} {v : Value} (h : Calls P f args (w.drewN n) fun e w' => e = .returned v ∧ w' = w.drewN n) : Calls P f args (w.drewN n) fun e w'' => e = .returned v ∧ ∃ m, w'' = w.drewN m :=
  h.mono fun _ _ ⟨he, hm⟩ => ⟨he, n, hm⟩
theorem quietS {P : Program} {f : FuncId} {args : Array Value} {w : World} {n : Nat} {v : Value} (h : Calls P f args (w.drewN n) fun e w' => e = .returned v ∧ w.drewN n = w') : Calls P f args (w.drewN n) fun e w'' => e = .returned v ∧ ∃ m, w'' = w.drewN m :=
  h.mono fun _ _ ⟨he, hm⟩ => ⟨he, n, hm.symm⟩

/-- A row of numbers. -/
def rowV (m : Nat) (g : Nat → Int) : List Value := (List.range m).map fun j => .int .i64 (g j)
theorem rowV_len (m : Nat) (g : Nat → Int) : (rowV m g).length = m := by simp [rowV]
theorem rowV_get {m j : Nat} (g : Nat → Int) (h : j < m) : (rowV m g)[j]? = some (.int .i64 (g j)) := by simp [rowV, h]
end Go.Proofs.YtcdfghogmdhfcaaGreatDoor


