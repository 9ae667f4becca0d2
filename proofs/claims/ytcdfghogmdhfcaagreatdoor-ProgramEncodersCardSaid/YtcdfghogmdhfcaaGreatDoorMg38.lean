/-
  The reference's Encoder in memory: its tables, which grow letter by letter, and its boxes.
  Contracts of the library, laid at this translation by the kit (lay-shelf, lay-plain): a chosen part.
  Conditions: No condition: these are general lemmas. No condition.
-/
import Derived.Test.YtcdfghogmdhfcaaGreatDoorRfCel
import Derived.Test.YtcdfghogmdhfcaaGreatDoorEncMainF
import Derived.Test.YtcdfghogmdhfcaaGreatDoorMg10
import Derived.Shelf.Strings.Builder1
import Derived.Shelf.Strings.Builder2
import Derived.Shelf.Strings.OnBuilder
import Derived.Shelf.Strings.Trim
import Derived.Shelf.Small.Bits
import Derived.Shelf.Small.Strs
import Derived.Shelf.Strings.BuilderF
import Derived.Shelf.Strconv.Itoa0
import Derived.Shelf.Strconv.Itoa1
import Derived.Shelf.LaysM
import Derived.Shelf.Strconv.Itoa2
import Derived.Shelf.Strconv.Itoa3
import Derived.Shelf.Strings.Search1
import Derived.Shelf.Strings.Prefix
import Derived.Shelf.Strings.Runes
import Derived.Shelf.Strings.AsciiSet
import Derived.Shelf.Bits.Mul64
import Derived.Shelf.Strings.Repeat
import Derived.Ground.SlgfProg
import Derived.Shelf.SlicesE.IndexFunc
import Derived.Test.YtcdfghogmdhfcaaGreatDoorProg
namespace Go.Proofs.YtcdfghogmdhfcaaGreatDoor
open Go.RowKit Go.Deep
set_option linter.unusedVariables false

def bys (l : List UInt8) : List Value := l.map fun c => .int .u8 (c.toNat : Int)
theorem bys_snoc (l : List UInt8) (c : UInt8) : bys (l ++ [c]) = bys l ++ [.int .u8 (c.toNat : Int)] := by simp [bys]
theorem bys_get {l : List UInt8} {k : Nat} {c : UInt8} (h : l[k]? = some c) : (bys l)[k]? = some (.int .u8 (c.toNat : Int)) := by rw [bys, List.getElem?_map, h]; rfl
theorem step_push_at {P : Program} {ops : Array Oper} {o : Oper} {a : Act} {K : Act → World → Prop} {Q : Exit → Act → World → Prop} {E : Prop} {W : World} (hgd : o.guard = none) (s x : Operand) (t : TypeId)
    (ho : o.op = .call { callee := .builtin .append, args := #[s, x], argTypes := #[t, t] })
    (base : Nat) (e : TypeId) (z : Value) (sz bytes : Nat) (ht : P.underlying t = some (.slice e)) (hinfo : (P.info? e).map (fun i => (i.zero, i.size, i.bytes)) = some (some z, sz, bytes))
    (hzs : z.cells.size = sz) (hsz : 0 < sz) (v : Value) (n : Nat) (xs : List Value) (hs : a.eval s = v) (hown : W.ownsRow base e sz v n xs)
    (g0 : Nat) (us : Array Value) (hus : us.size = sz) (hu : ∀ u ∈ us.toList, u.oneCell' = true) (hx : a.eval x = .slice (some ⟨g0, 0, none⟩) 1 1) (hb : W.heap[g0]? = some (.cells us e (0, 0)))
    (h63 : n + 1 ≤ maxLen) (hbytes : (n + 1) * bytes ≤ 140737488355328) (hbase : base ≤ W.heap.size)
    (h : ∀ g cap w', w'.ownsRow base e sz (.slice (some ⟨g, 0, none⟩) (n + 1) cap) (n + 1) (xs ++ us.toList) → W.grownBy w' v.ownBlock → (v.ownBlock = some g ∨ g = W.heap.size) → Below base W w' → K (a.put o.dst (.slice (some ⟨g, 0, none⟩) (n + 1) cap)) w') :
    if Region.wanted o (yielded ops a.tmps) = true then Oper.wp P o a W K Q else E := by
  obtain ⟨i0, hi, hz0, hz1, hz2⟩ := info_parts hinfo
  refine step_append_lies W hgd s x t ho base e i0 z sz bytes ht hi hz0 hz1 hz2 hzs hsz v n xs hs hown ⟨g0, 0, none⟩ 1 1 us.toList hx (by simp [hus]) (World.news_of_block hb) hu (by decide) h63 hbytes hbase _ rfl ?_
  intro g cap w' ho' hg hl _
  exact h g cap w' ho' hg hl ((Below.refl _ _).grown hg hbase (fun k hk => ((hown.lt k hk).1)))
theorem row_own_ne {w : World} {B n m sz : Nat} {e t : TypeId} {v : Value} {xs : List Value} {b : Nat} {f : Nat → Value} (hr : w.rowIs b t m f) (ho : w.ownsRow B e sz v n xs) (hne : t ≠ e) : some b ≠ v.ownBlock := fun e' => by
  obtain ⟨_, cur, hc⟩ := own_block ho e'.symm
  obtain ⟨c, hc2⟩ := hr
  rw [hc2.1] at hc
  simp only [Option.some.injEq, Obj.cells.injEq] at hc
  exact hne hc.2.1
theorem own_kt {B : Nat} {w w' : World} (h : KT B w w') {B' sz n : Nat} {e : TypeId} {v : Value} {xs : List Value} (ho : w.ownsRow B' e sz v n xs) (h1 : e ≠ 47) (h2 : e ≠ 119) : w'.ownsRow B' e sz v n xs := by
  refine ⟨ho.1, ?_⟩
  rcases ho.2 with h3 | ⟨g, cap, cur, hv, hg2, hh, r⟩
  · exact .inl h3
  · exact .inr ⟨g, cap, cur, hv, hg2, h.keep g _ hh (.inr (row_not h1 h2)), r⟩
/-- The tables. -/
structure TBR (B b O : Nat) (F : Nat → List UInt8) (W : World) (V : Nat → Value) : Prop where
  lb : B ≤ W.heap.size
  t : W.rowIs b 54 O V
  r : ∀ k, k < O → W.ownsRow B 5 1 (V k) (F k).length (bys (F k))
  ap : ∀ j k, j < O → k < O → j ≠ k → (V j).ownBlock = none ∨ (V j).ownBlock ≠ (V k).ownBlock
def updV (V : Nat → Value) (k : Nat) (v : Value) : Nat → Value := fun j => if j = k then v else V j
def updF (F : Nat → List UInt8) (k : Nat) (c : UInt8) : Nat → List UInt8 := fun j => if j = k then F k ++ [c] else F j
section
variable {B b O : Nat} {F : Nat → List UInt8} {W W' : World} {V : Nat → Value}
theorem TBR.below (h : TBR B b O F W V) (hb : Below W.heap.size W W') : TBR B b O F W' V := ⟨Nat.le_trans h.lb hb.size, row_below h.t hb, fun k hk => own_below (h.r k hk) hb, h.ap⟩
theorem TBR.kt (h : TBR B b O F W V) (hk : KT B W W') : TBR B b O F W' V := ⟨Nat.le_trans h.lb hk.size, hk.row h.t (by decide) (by decide), fun k hk2 => own_kt hk (h.r k hk2) (by decide) (by decide), h.ap⟩
theorem TBR.start (W : World) (B O : Nat) (hB : B ≤ W.heap.size) (hr : W'.rowIs b 54 O (fun _ => .slice none 0 0)) (hs : W.heap.size ≤ W'.heap.size) : TBR B b O (fun _ => []) W' (fun _ => .slice none 0 0) :=
  ⟨Nat.le_trans hB hs, hr, fun k hk => World.ownsRow_nil _ _ _ _, fun j k _ _ _ => .inl rfl⟩
theorem TBR.push (h : TBR B b O F W V) {k : Nat} (hk : k < O) {c : UInt8} {v' : Value} (hg : W.grownBy W' (V k).ownBlock) (ho : W'.ownsRow B 5 1 v' ((F k).length + 1) (bys (F k) ++ [.int .u8 (c.toNat : Int)])) (hl : v'.ownBlock = (V k).ownBlock ∨ v'.ownBlock = some W.heap.size) :
    TBR B b O (updF F k c) (W'.setCell ⟨b, k, none⟩ v') (updV V k v') := by
  have ht := row_grown h.t hg (row_own_ne h.t (h.r k hk) (by decide))
  have hne : ∀ j, j < O → j ≠ k → (V j).ownBlock = none ∨ (V j).ownBlock ≠ v'.ownBlock := by
    intro j hj hjk
    rcases hl with hl | hl
    · rw [hl]; exact h.ap j k hj hk hjk
    · cases hb : (V j).ownBlock with
      | none => exact .inl rfl
      | some g =>
        right
        intro e
        rw [hl] at e
        obtain ⟨_, cur, hc⟩ := own_block (h.r j hj) hb
        have := (Array.getElem?_eq_some_iff.1 hc).1
        have := Option.some.inj e
        omega
  obtain ⟨cc, hcc⟩ := id ht
  refine ⟨by have := hg.size; have := h.lb; simp; omega, (ht.set k v').congr fun i hi => by unfold updV; rfl, fun j hj => ?_, fun i j hi hj hij => ?_⟩
  · unfold updV updF
    by_cases e : j = k
    · subst e
      rw [if_pos rfl, if_pos rfl, List.length_append, bys_snoc]
      exact own_set ho (a := ⟨b, j, none⟩) hcc.1 (by decide) v'
    · rw [if_neg e, if_neg e]
      exact own_set (own_grown (h.r j hj) hg (h.ap j k hj hk e)) (a := ⟨b, k, none⟩) hcc.1 (by decide) v'
  · unfold updV
    by_cases ei : i = k
    · rw [if_pos ei, if_neg (fun ej => hij (ei.trans ej.symm))]
      rcases hne j hj (fun ej => hij (ei.trans ej.symm)) with h1 | h1
      · cases hb : v'.ownBlock with
        | none => exact .inl rfl
        | some g => right; rw [h1]; simp
      · right; exact fun e => h1 e.symm
    · rw [if_neg ei]
      by_cases ej : j = k
      · rw [if_pos ej]; exact hne i hi ei
      · rw [if_neg ej]; exact h.ap i j hi hj hij
end
theorem conv_tab {B : Nat} {W : World} {ao : Option Addr} {cap : Nat} {l : List UInt8} (h : W.ownsRow B 5 1 (.slice ao l.length cap) l.length (bys l)) (hl : 1 ≤ l.length) : (convert 54 9 (.slice ao l.length cap)).run Tryz.prog W = .ok (.string (strB l)) W := by
  obtain ⟨c0, h0⟩ := some_of_lt (l := l) (k := 0) (by omega)
  obtain ⟨b0, o0, rfl, _⟩ := (Sl.of_owns h).cell (bys_get h0)
  refine run_convert_bytes_back W 54 9 5 ⟨b0, o0, none⟩ cap l Tryz.underlying54 Tryz.underlying5 Tryz.underlying9 (fun j hj => ?_)
  obtain ⟨b1, o1, e, hc⟩ := (Sl.of_owns h).cell (bys_get (List.getElem?_eq_getElem hj))
  simp only [Option.some.injEq, Addr.mk.injEq, and_true] at e
  obtain ⟨rfl, rfl⟩ := e
  rw [Addr.add_lit]
  simpa using hc
def efun (q bl I : Nat) (v : Value) : Nat → Value
  | 0 => .int .i64 (q : Int)
  | 1 => .int .i64 (bl : Int)
  | 2 => .int .i64 (I : Int)
  | _ => v
def zfun : Nat → Value
  | 0 => .int .i64 0
  | _ => .slice none 0 0
/-- The boxes of the call: the encoder, the result. -/
structure RE (w : World) (q bl I : Nat) (v : Value) (W : World) : Prop where
  e : W.rowIs w.heap.size 24 4 (efun q bl I v)
  z : W.rowIs (w.heap.size + 1) 28 3 zfun
  b : Below w.heap.size w W
section
variable {w W W' : World} {q bl I : Nat} {v : Value}
theorem RE.below (h : RE w q bl I v W) (hb : Below W.heap.size W W') : RE w q bl I v W' := ⟨row_below h.e hb, row_below h.z hb, bel_step h.b hb⟩
theorem RE.kt (h : RE w q bl I v W) (hk : KT w.heap.size W W') : RE w q bl I v W' := ⟨hk.row h.e (by decide) (by decide), hk.row h.z (by decide) (by decide), h.b.trans (hk.below h.b.size)⟩
theorem RE.grow (h : RE w q bl I v W) {e : TypeId} {sz n : Nat} {u : Value} {xs : List Value} (ho : W.ownsRow w.heap.size e sz u n xs) (hg : W.grownBy W' u.ownBlock) (h1 : 24 ≠ e) (h2 : 28 ≠ e) : RE w q bl I v W' :=
  ⟨row_grown h.e hg (row_own_ne h.e ho h1), row_grown h.z hg (row_own_ne h.z ho h2), h.b.trans ((Below.refl _ _).grown hg h.b.size (fun k hk => ((ho.lt k hk).1)))⟩
theorem RE.set (h : RE w q bl I v W) {a : Addr} (ha : w.heap.size ≤ a.block) (h1 : w.heap.size ≠ a.block) (h2 : w.heap.size + 1 ≠ a.block) (u : Value) : RE w q bl I v (W.setCell a u) :=
  ⟨h.e.setOther h1 _, h.z.setOther h2 _, h.b.setCell ha _⟩
theorem RE.cells (h : RE w q bl I v W) : W.cell? ⟨w.heap.size, 0, none⟩ = some (.int .i64 (q : Int)) ∧ W.cell? ⟨w.heap.size, 1, none⟩ = some (.int .i64 (bl : Int)) ∧ W.cell? ⟨w.heap.size, 2, none⟩ = some (.int .i64 (I : Int)) ∧ W.cell? ⟨w.heap.size, 3, none⟩ = some v :=
  ⟨h.e.cell (by omega), h.e.cell (by omega), h.e.cell (by omega), h.e.cell (by omega)⟩
end
end Go.Proofs.YtcdfghogmdhfcaaGreatDoor

namespace Go.Proofs
open Go.Shelf
def Tryz.lays217_ren : Go.Shelf.Ren := ⟨fun | 217 => 90 | 266 => 102 | n => n, fun | 9 => 9 | 5 => 5 | 3 => 3 | n => n, fun | n => n⟩
theorem Tryz.lays217 : Go.Proofs.Lays.n217 Tryz.prog Tryz.lays217_ren := {
  mixed := by kernel_rfl
  f217 := Tryz.func90.trans (congrArg some (by kernel_rfl))
  f266 := Tryz.func102.trans (congrArg some (by kernel_rfl))
  t3 := Tryz.underlying3
  a3 := Tryz.isAgg3
  z3 := Tryz.sizeOf3
  v3 := Tryz.zeroValue3
  t5 := Tryz.underlying5
  a5 := Tryz.isAgg5
  z5 := Tryz.sizeOf5
  v5 := Tryz.zeroValue5
  t9 := Tryz.underlying9
  a9 := Tryz.isAgg9
  z9 := Tryz.sizeOf9
  v9 := Tryz.zeroValue9 }
open Go.RowKit Go.Lib in
theorem Tryz.stringslite_IndexByte (s : ByteArray) (c : Int) (w : World) :
    Calls Tryz.prog 90 #[.string s, .int .u8 c] w fun e w' => e = .returned (.int .i64 (Lib.indexByte s.data.toList c.toNat.toUInt8)) ∧ w' = w := Any.stringslite_IndexByte Tryz.lays217 s c w
end Go.Proofs
