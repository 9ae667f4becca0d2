/-
  runcode.order, and Tunstall's order of words with probabilities.
  The probabilities are of one digit and in their lowest form.
-/
import Derived.Test.YtieahckbbohfgaaGreatDoorTunDel
import Derived.Test.YtieahckbbohfgaaGreatDoorCodeCk
namespace Go.Proofs.YtieahckbbohfgaaGreatDoor
open Go.RowKit Go.Deep
set_option linter.unusedVariables false

set_option maxRecDepth 100000 in
set_option maxHeartbeats 2000000 in
theorem order_any (a b : ByteArray) (w : World) :
    Calls Tryz.prog 59 #[.string a, .string b] w fun e w' => e = .returned (.int .i64 (cmpW a b)) ∧ Below w.heap.size w w' := by
  have HE := hid (cmpW_or a b)
  go_enter Tryz.func59, Tryz.ntmps59
  go_wp2_with (first
    | (go_at_call 89; refine (Tryz.cmp_Compare_int _ _ _).mono ?_; rintro e w' ⟨rfl, rfl⟩)
    | (go_at_call 90; refine (Tryz.strings_Compare _ _ _).mono ?_; rintro e w' ⟨rfl, rfl⟩)
    | (go_at_call 57; refine (or2 (Lib.compareInt a.size b.size) (Lib.compareBytes a.data.toList b.data.toList) _ _ ?_ ?_).mono ?_; (simp [go_sem]); (simp [go_sem]); rintro e w3 ⟨rfl, rfl⟩))
  go_ret
  exact ⟨ret_int HE.out, (Below.refl _ _).alloc (Nat.le_refl _) _⟩
/-- The greater probability stands first; between equal ones the order of the words. -/
def lkOrd (a b : Lk) : Int := orI (cmpI ((b.n * a.d : Nat) : Int) ((a.n * b.d : Nat) : Int)) (cmpW a.word b.word)
theorem boxed5 {w w0 : World} {a b c d e a' b' c' d' e' : Value} (h : (w.alloc (.cells #[a, b, c, d, e] 89)).alloc (.cells #[a', b', c', d', e'] 89) = w0) : Below w.heap.size w w0 ∧ (w0.cell? ⟨w.heap.size, 0, none⟩ = some a ∧ w0.cell? ⟨w.heap.size, 1, none⟩ = some b ∧ w0.cell? ⟨w.heap.size, 2, none⟩ = some c ∧ w0.cell? ⟨w.heap.size, 3, none⟩ = some d ∧ w0.cell? ⟨w.heap.size, 4, none⟩ = some e) ∧ w0.cell? ⟨w.heap.size + 1, 0, none⟩ = some a' ∧ w0.cell? ⟨w.heap.size + 1, 1, none⟩ = some b' ∧ w0.cell? ⟨w.heap.size + 1, 2, none⟩ = some c' ∧ w0.cell? ⟨w.heap.size + 1, 3, none⟩ = some d' ∧ w0.cell? ⟨w.heap.size + 1, 4, none⟩ = some e' := by
  subst h
  exact ⟨(bel_alloc _ _).alloc (by simp) _, ⟨by simp [go_sem], by simp [go_sem], by simp [go_sem], by simp [go_sem], by simp [go_sem]⟩, by simp [go_sem], by simp [go_sem], by simp [go_sem], by simp [go_sem], by simp [go_sem]⟩
def Lk.V (x : Lk) : Value := .agg #[.string x.word, .bool false, .string (nmg x.n), .bool false, .string (nmg x.d)]
def Lk.ok (x : Lk) : Prop := Cop x.n x.d ∧ x.n < 4294967296 ∧ x.d < 4294967296
set_option maxRecDepth 100000 in
set_option maxHeartbeats 4000000 in
theorem likely_any (x y : Lk) (w : World) (hx : x.ok) (hy : y.ok) :
    Calls Tryz.prog 56 #[x.V, y.V] w fun e w' => e = .returned (.int .i64 (lkOrd x y)) ∧ Below w.heap.size w w' := by
  obtain ⟨⟨x1, x2⟩, x3, x4⟩ := hx
  obtain ⟨⟨y1, y2⟩, y3, y4⟩ := hy
  have HR := hid (fun X => rcompare_any y.n y.d x.n x.d X y3 y4 x3 x4)
  rw [x1, x2, y1, y2] at HR
  unfold RV at HR
  unfold Lk.V lkOrd
  have HO := hid (fun X => order_any x.word y.word X)
  generalize cmpI ((y.n * x.d : Nat) : Int) ((x.n * y.d : Nat) : Int) = C at *
  generalize cmpW x.word y.word = D at *
  generalize nmg x.n = p at *
  generalize nmg x.d = q at *
  generalize nmg y.n = r at *
  generalize nmg y.d = s at *
  generalize x.word = xw at *
  generalize y.word = yw at *
  clear x1 x2 x3 x4 y1 y2 y3 y4
  go_enter Tryz.func56, Tryz.ntmps56
  go_upto_region 1 with fail
  obtain ⟨w0, hw0⟩ : ∃ w0, (w.alloc (.cells #[.string xw, .bool false, .string p, .bool false, .string q] 89)).alloc (.cells #[.string yw, .bool false, .string r, .bool false, .string s] 89) = w0 := ⟨_, rfl⟩
  obtain ⟨hb0, ⟨a0, a1, a2, a3, a4⟩, b0, b1, b2, b3, b4⟩ := boxed5 hw0
  rw [hw0]
  have HB0 := hid hb0
  clear hw0 hb0
  have hbd : Below w0.heap.size w0 w0.drew := below_drewN (Below.refl _ _) 1
  have HBd := hid hbd
  clear hbd
  go_region_held3 (fun w' => (w'.cell? ⟨w.heap.size, 0, none⟩ = some (.string xw) ∧ w'.cell? ⟨w.heap.size, 1, none⟩ = some (.bool false) ∧ w'.cell? ⟨w.heap.size, 2, none⟩ = some (.string p) ∧ w'.cell? ⟨w.heap.size, 3, none⟩ = some (.bool false) ∧ w'.cell? ⟨w.heap.size, 4, none⟩ = some (.string q)) ∧ (w'.cell? ⟨w.heap.size + 1, 0, none⟩ = some (.string yw) ∧ w'.cell? ⟨w.heap.size + 1, 1, none⟩ = some (.bool false) ∧ w'.cell? ⟨w.heap.size + 1, 2, none⟩ = some (.string r) ∧ w'.cell? ⟨w.heap.size + 1, 3, none⟩ = some (.bool false) ∧ w'.cell? ⟨w.heap.size + 1, 4, none⟩ = some (.string s)))
    (first | exact ⟨⟨a0, a1, a2, a3, a4⟩, b0, b1, b2, b3, b4⟩ | go_keep)
    (first
      | (go_at_call 57; refine (or2 C D _ _ ?_ ?_).mono ?_; (simp [go_sem]); (simp [go_sem]); rintro e w3 ⟨rfl, h3⟩; have HB3 := hid (show Below w.heap.size w w3 by rw [← h3]; exact HB2.out.trans ((bel_alloc w2 _).mono HB2.out.size)); subst h3)
      | (go_at_call 59; refine (HO.out _).mono ?_; rintro e w2 ⟨rfl, hb2⟩; have HB2 := hid (bel_step HB1.out hb2); have a0 := keeps hb2 a0; have a1 := keeps hb2 a1; have a2 := keeps hb2 a2; have a3 := keeps hb2 a3; have a4 := keeps hb2 a4; have b0 := keeps hb2 b0; have b1 := keeps hb2 b1; have b2 := keeps hb2 b2; have b3 := keeps hb2 b3; have b4 := keeps hb2 b4; clear hb2)
      | (go_at_call 58; refine (HR.out _).mono ?_; rintro e w1 ⟨rfl, hb1⟩; have hb1 := bel_step HBd.out hb1; have HB1 := hid (bel_step HB0.out hb1); have a0 := keeps hb1 a0; have a1 := keeps hb1 a1; have a2 := keeps hb1 a2; have a3 := keeps hb1 a3; have a4 := keeps hb1 a4; have b0 := keeps hb1 b0; have b1 := keeps hb1 b1; have b2 := keeps hb1 b2; have b3 := keeps hb1 b3; have b4 := keeps hb1 b4; clear hb1))
  all_goals
    go_wp2
    go_ret
    exact ⟨rfl, HB3.out⟩
end Go.Proofs.YtieahckbbohfgaaGreatDoor
