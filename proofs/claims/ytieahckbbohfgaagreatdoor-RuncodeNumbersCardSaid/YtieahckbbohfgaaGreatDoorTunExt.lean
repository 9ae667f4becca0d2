/-
  runcode.Tunstall's function that extends a word, at the example's probabilities.
  The probability of the word is small.
-/
import Derived.Test.YtieahckbbohfgaaGreatDoorTunDis
import Derived.Test.YtieahckbbohfgaaGreatDoorAid
namespace Go.Proofs.YtieahckbbohfgaaGreatDoor
open Go.RowKit Go.Deep
set_option linter.unusedVariables false

theorem own_ne {w : World} {base : Nat} {e : TypeId} {sz : Nat} {v : Value} {n : Nat} {xs : List Value} (h : w.ownsRow base e sz v n xs) {b : Nat} {cs : Array Value} {T : TypeId} {fz : Nat × Nat} (hb : w.heap[b]? = some (.cells cs T fz)) (hT : T ≠ e) : some b ≠ v.ownBlock := by
  rcases h.2 with ⟨rfl, rfl⟩ | ⟨g, cap, cur, rfl, _, hh, _⟩
  · simp [Value.ownBlock]
  · intro e1
    simp only [Value.ownBlock, Option.some.injEq] at e1
    subst e1
    rw [hh] at hb
    simp only [Option.some.injEq, Obj.cells.injEq] at hb
    exact hT hb.2.1.symm
/-- A word with its probability. -/
structure Lk where
  word : ByteArray
  n : Nat
  d : Nat
  deriving Inhabited
def Lk.enc (x : Lk) : List Value := [.string x.word, .bool false, .string (nmg x.n), .bool false, .string (nmg x.d)]
def lkcells (l : List Lk) : List Value := l.flatMap Lk.enc
theorem lkcells_len (l : List Lk) : (lkcells l).length = l.length * 5 := by
  induction l with
  | nil => rfl
  | cons x t ih => simp only [lkcells, List.flatMap_cons, List.length_append] at *; rw [ih]; simp [Lk.enc]; omega
theorem lkcells_snoc (l : List Lk) (x : Lk) : lkcells (l ++ [x]) = lkcells l ++ x.enc := by simp [lkcells]
theorem lkcells_get {l : List Lk} {k : Nat} {x : Lk} (h : l[k]? = some x) : (lkcells l)[k * 5]? = some (.string x.word) ∧ (lkcells l)[k * 5 + 1]? = some (.bool false) ∧ (lkcells l)[k * 5 + 2]? = some (.string (nmg x.n)) ∧ (lkcells l)[k * 5 + 3]? = some (.bool false) ∧ (lkcells l)[k * 5 + 4]? = some (.string (nmg x.d)) := by
  induction l generalizing k with
  | nil => simp at h
  | cons y t ih =>
    have hc : lkcells (y :: t) = [.string y.word, .bool false, .string (nmg y.n), .bool false, .string (nmg y.d)] ++ lkcells t := by simp [lkcells, Lk.enc]
    rw [hc]
    cases k with
    | zero => simp at h; subst h; simp
    | succ k =>
      have h2 := ih (by simpa using h)
      rw [List.getElem?_append_right (by simp; omega), List.getElem?_append_right (by simp; omega), List.getElem?_append_right (by simp; omega), List.getElem?_append_right (by simp; omega), List.getElem?_append_right (by simp; omega)]
      simp only [List.length_cons, List.length_nil]
      rw [show (k + 1) * 5 - (0 + 1 + 1 + 1 + 1 + 1) = k * 5 by omega, show (k + 1) * 5 + 1 - (0 + 1 + 1 + 1 + 1 + 1) = k * 5 + 1 by omega, show (k + 1) * 5 + 2 - (0 + 1 + 1 + 1 + 1 + 1) = k * 5 + 2 by omega, show (k + 1) * 5 + 3 - (0 + 1 + 1 + 1 + 1 + 1) = k * 5 + 3 by omega, show (k + 1) * 5 + 4 - (0 + 1 + 1 + 1 + 1 + 1) = k * 5 + 4 by omega]
      exact h2
theorem sl_lk {w : World} {r : Option Addr} {c n k : Nat} {l : List Lk} {x : Lk} (h : Sl 5 w (.slice r n c) l.length (lkcells l)) (hk : l[k]? = some x) :
    ∃ b o, r = some ⟨b, o, none⟩ ∧ w.cell? ⟨b, o + k * 5, none⟩ = some (.string x.word) ∧ w.cell? ⟨b, o + k * 5 + 1, none⟩ = some (.bool false) ∧ w.cell? ⟨b, o + k * 5 + 2, none⟩ = some (.string (nmg x.n)) ∧ w.cell? ⟨b, o + k * 5 + 3, none⟩ = some (.bool false) ∧ w.cell? ⟨b, o + k * 5 + 4, none⟩ = some (.string (nmg x.d)) := by
  obtain ⟨h0, h1, h2, h3, h4⟩ := lkcells_get hk
  obtain ⟨b, o, hao, c0⟩ := h.cell h0
  subst hao
  obtain ⟨b1, o1, e1, c1⟩ := h.cell h1
  obtain ⟨b2, o2, e2, c2⟩ := h.cell h2
  obtain ⟨b3, o3, e3, c3⟩ := h.cell h3
  obtain ⟨b4, o4, e4, c4⟩ := h.cell h4
  cases e1; cases e2; cases e3; cases e4
  exact ⟨b, o, rfl, c0, by rw [Nat.add_assoc]; exact c1, by rw [Nat.add_assoc]; exact c2, by rw [Nat.add_assoc]; exact c3, by rw [Nat.add_assoc]; exact c4⟩
theorem Tryz.infoLk : (Tryz.prog.info? 89).map (fun i => (i.zero, i.size, i.bytes)) = some (some (.agg #[.string ⟨#[]⟩, .bool false, .string ⟨#[]⟩, .bool false, .string ⟨#[]⟩]), 5, 64) := by kernel_rfl
def letA (k : Nat) : ByteArray := if k = 0 then ⟨#[48]⟩ else ⟨#[49]⟩
def lett42 : ByteArray := ⟨#[48, 49, 50, 51, 52, 53, 54, 55, 56, 57, 97, 98, 99, 100, 101, 102]⟩
theorem letA_at (k : Nat) (h : k < 2) : lett42.extract k (k + 1) = letA k := by
  have : k = 0 ∨ k = 1 := by omega
  rcases this with rfl | rfl <;> rfl
/-- A word that is extended by the letter k. -/
def extE (x : Lk) (k : Nat) : Lk := ⟨x.word ++ letA k, lowN (x.n * (exP.getD k (0, 1)).1) (x.d * (exP.getD k (0, 1)).2), lowD (x.n * (exP.getD k (0, 1)).1) (x.d * (exP.getD k (0, 1)).2)⟩
def extK (x : Lk) (k : Nat) : List Lk := (List.range k).map (extE x)
theorem extK_succ (x : Lk) (k : Nat) : extK x (k + 1) = extK x k ++ [extE x k] := by simp [extK, List.range_succ]
theorem extK_len (x : Lk) (k : Nat) : (extK x k).length = k := by simp [extK]
theorem box5K {w w0 : World} {a b c d e : Value} (h : w.alloc (.cells #[a, b, c, d, e] 89) = w0) : Below w.heap.size w w0 ∧ w0.cell? ⟨w.heap.size, 0, none⟩ = some a ∧ w0.cell? ⟨w.heap.size, 1, none⟩ = some b ∧ w0.cell? ⟨w.heap.size, 2, none⟩ = some c ∧ w0.cell? ⟨w.heap.size, 3, none⟩ = some d ∧ w0.cell? ⟨w.heap.size, 4, none⟩ = some e := by
  subst h
  exact ⟨bel_alloc _ _, by simp, by simp, by simp, by simp, by simp⟩
set_option maxRecDepth 100000 in
set_option maxHeartbeats 4000000 in
theorem extend_any (x : Lk) (bp : Nat) (v : Value) (w : World) (hl : Sl 4 w v exP.length (rcells exP)) (hv : w.cell? ⟨bp, 0, none⟩ = some v) (hx : x.word.size ≤ 1000) (hc : Cop x.n x.d) (hs : ∀ k < 2, Sml x.n x.d (exP.getD k (0, 1)).1 (exP.getD k (0, 1)).2) :
    Calls Tryz.prog 52 #[.agg #[.string x.word, .bool false, .string (nmg x.n), .bool false, .string (nmg x.d)], .pointer (some ⟨bp, 0, none⟩)] w fun e w' => ∃ v', e = .returned v' ∧ w'.ownsRow w.heap.size 89 5 v' 2 (lkcells (extK x 2)) ∧ Below w.heap.size w w' := by
  have HL := hid hl
  have HS := hid hs
  have HC := hid hc
  obtain ⟨ao, cap, rfl, -, h2, h3, -⟩ := hl
  rw [show exP.length = 2 from rfl] at *
  have HMu := hid (fun k X (hk : k < 2) => rmul_any x.n x.d (exP.getD k (0, 1)).1 (exP.getD k (0, 1)).2 X (HS.out k hk) HC.out (by have : k = 0 ∨ k = 1 := (by omega); rcases this with rfl | rfl <;> decide +kernel))
  have HX := hid (show ∀ k, lkcells (extK x (k + 1)) = lkcells (extK x k) ++ [.string (x.word ++ letA k), .bool false, .string (nmg (lowN (x.n * (exP.getD k (0, 1)).1) (x.d * (exP.getD k (0, 1)).2))), .bool false, .string (nmg (lowD (x.n * (exP.getD k (0, 1)).1) (x.d * (exP.getD k (0, 1)).2)))] from fun k => by rw [extK_succ, lkcells_snoc]; rfl)
  have HX0 := hid (show lkcells (extK x 0) = [] from rfl)
  clear hs hc HS HC
  obtain ⟨wd, n, d⟩ := x
  simp only at hx HMu HX HX0 ⊢
  unfold RV at HMu
  generalize extK ⟨wd, n, d⟩ = EX at *
  generalize nmg n = mN at *
  generalize nmg d = mD at *
  go_enter Tryz.func52, Tryz.ntmps52
  go_upto_region 1 with fail
  obtain ⟨w0, hw0⟩ : ∃ w0, w.alloc (.cells #[.string wd, .bool false, .string mN, .bool false, .string mD] 89) = w0 := ⟨_, rfl⟩
  obtain ⟨hb0, c0, c1, c2, c3, c4⟩ := box5K hw0
  rw [hw0]
  have HB0 := hid hb0
  have HLt := hid (show w.heap.size < w0.heap.size by rw [← hw0]; simp)
  have hv := keeps hb0 hv
  have HCs := hid (show ∀ X, Below w0.heap.size w0 X → (X.cell? ⟨w.heap.size, 0, none⟩ = some (.string wd) ∧ X.cell? ⟨w.heap.size, 1, none⟩ = some (.bool false) ∧ X.cell? ⟨w.heap.size, 2, none⟩ = some (.string mN) ∧ X.cell? ⟨w.heap.size, 3, none⟩ = some (.bool false) ∧ X.cell? ⟨w.heap.size, 4, none⟩ = some (.string mD)) from fun X h => ⟨keeps h c0, keeps h c1, keeps h c2, keeps h c3, keeps h c4⟩)
  clear hw0 hb0 c0 c1 c2 c3 c4
  go_wp2_with fail
  clear hv
  go_loopw [9, 4] (fun i u wr => ∃ k : Nat, k ≤ 2 ∧ i = .int .i64 (k : Int) ∧ Hid (wr.ownsRow w0.heap.size 89 5 u k (lkcells (EX k))) ∧ Hid (Below w0.heap.size w0 wr)) (fun i _ _ => 2 - (intOf i).toNat)
  case atStart => exact ⟨0, by decide, rfl, hid (by rw [HX0.out]; exact World.ownsRow_nil _ _ _ _), hid (Below.refl _ _)⟩
  case round =>
    obtain ⟨k, hk, rfl, HO, HB⟩ := hrel
    rename World => wk
    obtain ⟨ar, cr, rfl⟩ := own_slice HO.out
    by_cases hkn : k < 2
    · obtain ⟨p, hp⟩ := some_of_lt (show k < exP.length from hkn)
      have hl2 := HL.out.below (bel_step HB0.out HB.out)
      obtain ⟨b, o, rfl, d0, d1, d2, d3⟩ := sl_rat (l := exP) hl2 hp
      have hpg : exP.getD k (0, 1) = p := by rw [List.getD_eq_getElem?_getD, hp]; rfl
      have HMk := hid (fun X => HMu.out k X hkn)
      have HXk := hid (HX.out k)
      have hsl : (⟨#[48, 49, 50, 51, 52, 53, 54, 55, 56, 57, 97, 98, 99, 100, 101, 102]⟩ : ByteArray).extract k (k + 1) = letA k := letA_at k hkn
      have hsz : (⟨#[48, 49, 50, 51, 52, 53, 54, 55, 56, 57, 97, 98, 99, 100, 101, 102]⟩ : ByteArray).size = 16 := rfl
      have hk16 : (k : Int) + 1 ≤ 16 := by omega
      have hkk : (k : Int) ≤ (k : Int) + 1 := by omega
      have hk0 : (0 : Int) ≤ (k : Int) := by omega
      have hkn1 : k ≤ k + 1 := by omega
      have hkn2 : k + 1 ≤ 16 := by omega
      have hwk : IntKind.i64.wrap ((k : Int) + 1) = (k : Int) + 1 := IntWalk.i64_in _ (by omega)
      rw [hpg] at HMk HXk
      clear hl2 hp hpg
      generalize nmg (lowN (n * p.1) (d * p.2)) = mP at *
      generalize nmg (lowD (n * p.1) (d * p.2)) = mQ at *
      generalize nmg p.1 = mA at *
      generalize nmg p.2 = mB at *
      have hcat : ∀ X : World, (Op.stringOp .add wd (letA k)).run Tryz.prog X = .ok (.string (wd ++ letA k)) X := fun X => by
        unfold Op.stringOp
        have h : ¬ ((wd.size + (letA k).size : Nat) : Int) > IntKind.i64.max := by
          have : (letA k).size = 1 := by unfold letA; split <;> rfl
          show ¬ ((wd.size + (letA k).size : Nat) : Int) > 9223372036854775807
          omega
        rw [if_neg h]
        rfl
      generalize letA k = LA at *
      go_upto_region 5 with fail
      obtain ⟨w1, hw1⟩ : ∃ w1, wk.alloc (.cells #[.bool false, .string mA, .bool false, .string mB] 58) = w1 := ⟨_, rfl⟩
      obtain ⟨hb1, y0, y1, y2, y3⟩ := box4R hw1
      rw [hw1]
      have HB1 := hid (bel_step HB.out hb1)
      have HO1 := hid (own_below HO.out hb1)
      have HK1 := hid (show w1.heap[wk.heap.size]? = some (.cells #[.bool false, .string mA, .bool false, .string mB] 58 (0, 0)) by rw [← hw1]; exact heap_alloc_new wk _)
      obtain ⟨c0, c1, c2, c3, c4⟩ := HCs.out w1 HB1.out
      clear hw1 hb1 d0 d1 d2 d3
      generalize wk.heap.size = bx at *
      have hbd : Below w1.heap.size w1 w1.drew := below_drewN (Below.refl _ _) 1
      have HBd := hid hbd
      clear hbd
      go_region_held3 (fun w' => (w'.cell? ⟨w.heap.size, 0, none⟩ = some (.string wd) ∧ w'.cell? ⟨w.heap.size, 1, none⟩ = some (.bool false) ∧ w'.cell? ⟨w.heap.size, 2, none⟩ = some (.string mN) ∧ w'.cell? ⟨w.heap.size, 3, none⟩ = some (.bool false) ∧ w'.cell? ⟨w.heap.size, 4, none⟩ = some (.string mD)) ∧ (w'.cell? ⟨bx, 0, none⟩ = some (.bool false) ∧ w'.cell? ⟨bx, 1, none⟩ = some (.string mA) ∧ w'.cell? ⟨bx, 2, none⟩ = some (.bool false) ∧ w'.cell? ⟨bx, 3, none⟩ = some (.string mB)))
        (first | exact ⟨⟨c0, c1, c2, c3, c4⟩, y0, y1, y2, y3⟩ | go_keep)
        (first
          | (go_at_call 53; refine (HMk.out _).mono ?_; rintro e w2 ⟨rfl, hb2⟩; have hb2 := bel_step HBd.out hb2; have HB2 := hid (bel_step HB1.out hb2); have HO2 := hid (own_below HO1.out hb2); have HK2 := hid ((hb2.block _ (Array.getElem?_eq_some_iff.1 HK1.out).1).trans HK1.out); have c0 := keeps hb2 c0; have c1 := keeps hb2 c1; have c2 := keeps hb2 c2; have c3 := keeps hb2 c3; have c4 := keeps hb2 c4; have y0 := keeps hb2 y0; have y1 := keeps hb2 y1; have y2 := keeps hb2 y2; have y3 := keeps hb2 y3; clear hb2)
          | (refine step_push (by rfl) _ _ 90 (by rfl) w0.heap.size 89 (.agg #[.string ⟨#[]⟩, .bool false, .string ⟨#[]⟩, .bool false, .string ⟨#[]⟩]) 5 64 Tryz.underlying90 Tryz.infoLk rfl (by decide) (.slice ar k cr) k (lkcells (EX k)) (by rfl) (own_below HO2.out (bel_alloc _ _)) w2.heap.size #[.string (wd ++ LA), .bool false, .string mP, .bool false, .string mQ] rfl (by simp [Value.oneCell']) (by rfl) (heap_alloc_new _ _) (by unfold maxLen; omega) (by omega) (by have := HB2.out.size; simp; omega) ?_; intro g gc w3 hown3 hg3 hb3; have HO3 := hid hown3; have HB3 := hid ((HB2.out.trans ((bel_alloc w2 _).mono HB2.out.size)).trans hb3); have hne := own_ne HO2.out HK2.out (by decide); have y0 := hg3.cell (keeps (bel_alloc _ _) y0) hne; have y1 := hg3.cell (keeps (bel_alloc _ _) y1) hne; have y2 := hg3.cell (keeps (bel_alloc _ _) y2) hne; have y3 := hg3.cell (keeps (bel_alloc _ _) y3) hne; have c0 := (hb3.cell (p := ⟨w.heap.size, 0, none⟩) HLt.out).trans (keeps (bel_alloc _ _) c0); have c1 := (hb3.cell (p := ⟨w.heap.size, 1, none⟩) HLt.out).trans (keeps (bel_alloc _ _) c1); have c2 := (hb3.cell (p := ⟨w.heap.size, 2, none⟩) HLt.out).trans (keeps (bel_alloc _ _) c2); have c3 := (hb3.cell (p := ⟨w.heap.size, 3, none⟩) HLt.out).trans (keeps (bel_alloc _ _) c3); have c4 := (hb3.cell (p := ⟨w.heap.size, 4, none⟩) HLt.out).trans (keeps (bel_alloc _ _) c4); clear hne))
      all_goals
        clear hsl hsz hk16 hkk hk0 hkn1 hkn2 hcat
        go_wp2
        go_roundw
        case rel => exact ⟨k + 1, by omega, by go_num, hid (by rw [HXk.out]; exact HO3.out), HB3⟩
        case measure => simp [intOf]; omega
    · obtain rfl : k = 2 := by omega
      go_wp2
      go_ret
      exact ⟨_, rfl, own_base HO.out (by have := HB0.out.size; omega), bel_step HB0.out HB.out⟩
end Go.Proofs.YtieahckbbohfgaaGreatDoor
