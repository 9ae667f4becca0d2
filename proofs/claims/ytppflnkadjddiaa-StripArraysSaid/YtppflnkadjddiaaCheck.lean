/-
  strip.Check and the reference's Check: the same error number for any height and list.
  No condition.
-/
import Derived.Test.YtppflnkadjddiaaProg
import Derived.Test.YtppflnkadjddiaaLib
namespace Go.Proofs.Ytppflnkadjddiaa
open Go.RowKit

theorem height_yes (h : Int) (w : World) (h1 : 1 ≤ h) (h2 : h ≤ 4) :
    Calls Try.prog 39 #[.int .i64 h] w fun e w' => e = .returned (.bool true) ∧ w = w' := by
  go_enter Try.func39, Try.ntmps39
  go_wp2
  go_ret
  exact ⟨by simp, rfl⟩
theorem height_no (h : Int) (w : World) (h1 : ¬ (1 ≤ h ∧ h ≤ 4)) :
    Calls Try.prog 39 #[.int .i64 h] w fun e w' => e = .returned (.bool false) ∧ w = w' := by
  by_cases h2 : 1 ≤ h
  · have h3 : ¬ h ≤ 4 := fun h => h1 ⟨h2, h⟩
    go_enter Try.func39, Try.ntmps39
    go_wp2
    go_ret
    exact ⟨by simp, rfl⟩
  · go_enter Try.func39, Try.ntmps39
    go_wp2
    go_ret
    exact ⟨rfl, rfl⟩

def chkGo (most : Int) : Option Int → List Int → Int
  | _, [] => 0
  | p, n :: r => if n < 0 ∨ most < n then 2 else if p.any (fun q => n ≤ q) then 10 else chkGo most (some n) r
def most (h : Int) : Int := if h = 1 then 3 else 15
def chk (h : Int) (l : List Int) : Int := if 1 ≤ h ∧ h ≤ 4 then chkGo (most h) none l else 2
def prev (l : List Int) (k : Nat) : Option Int := if k = 0 then none else l[k-1]?
theorem prev_succ (l : List Int) (k : Nat) (x : Int) (h : l[k]? = some x) : prev l (k + 1) = some x := by simp [prev, h]
theorem chk_bad {M : Int} {p : Option Int} {x : Int} {r : List Int} (h : x < 0 ∨ M < x) : chkGo M p (x :: r) = 2 := by rw [chkGo, if_pos h]
theorem chk_order {M : Int} {y x : Int} {r : List Int} (h : ¬ (x < 0 ∨ M < x)) (h' : x ≤ y) : chkGo M (some y) (x :: r) = 10 := by rw [chkGo, if_neg h, if_pos (by simpa using h')]
theorem chk_first {M : Int} {x : Int} {r : List Int} (h : ¬ (x < 0 ∨ M < x)) : chkGo M none (x :: r) = chkGo M (some x) r := by rw [chkGo, if_neg h, if_neg (by simp)]
theorem chk_next {M : Int} {y x : Int} {r : List Int} (h : ¬ (x < 0 ∨ M < x)) (h' : ¬ x ≤ y) : chkGo M (some y) (x :: r) = chkGo M (some x) r := by rw [chkGo, if_neg h, if_neg (by simpa using h')]

set_option maxHeartbeats 1000000 in
theorem check_any (h : Int) (l : List Int) (v : Value) (w : World) (hl : Sl 1 w v l.length (ints l)) :
    Calls Try.prog 32 #[.int .i64 h, v] w fun e w' => e = .returned (.int .i64 (chk h l)) ∧ w = w' := by
  obtain ⟨ao, cap, rfl, _, hl1, hl2, hl3⟩ := hl
  by_cases hh : 1 ≤ h ∧ h ≤ 4
  · have HE := hid (show chk h l = chkGo (most h) none l by rw [chk, if_pos hh])
    obtain ⟨ha, hb⟩ := hh
    go_enter Try.func32, Try.ntmps32
    go_upto_if 12 with (go_at_call 39; refine (height_yes _ _ (by omega) (by omega)).mono ?_; rintro e w' ⟨rfl, rfl⟩)
    go_cut [5] (fun m w' => w = w' ∧ m = .int .i64 (most h))
    case first =>
      by_cases h1 : h = 1
      · subst h1
        go_wp2
        go_meet
        exact ⟨rfl, rfl⟩
      · have e : most h = 15 := by rw [most, if_neg h1]
        go_wp2
        go_meet
        exact ⟨rfl, by rw [e]⟩
    case rest =>
      obtain ⟨rfl, rfl⟩ := hcut
      go_wp2
      go_loop [15] (fun i => ∃ k : Nat, k ≤ l.length ∧ i = .int .i64 k ∧ Hid (chk h l = chkGo (most h) (prev l k) (l.drop k))) (fun i => l.length - (intOf i).toNat)
      case atStart => exact ⟨0, Nat.zero_le _, rfl, HE⟩
      case round =>
        obtain ⟨k, hk, rfl, HK⟩ := hrel
        by_cases hlt : k < l.length
        · obtain ⟨b, o, rfl, hc⟩ := Sl.pos hl3 (by omega)
          obtain ⟨x, hx⟩ := some_of_lt hlt
          have c1 := hc k (.int .i64 x) (ints_get hx)
          have HX := hid hx
          clear hx
          by_cases hbad : x < 0 ∨ most h < x
          · have HB := hid (chk_bad (p := prev l k) (r := l.drop (k + 1)) hbad)
            clear hc
            rcases hbad with hbad | hbad
            · go_wp2
              go_ret
              exact ⟨ret_int (by rw [HK.out, drop_cons HX.out, HB.out]), rfl⟩
            · by_cases h0 : x < 0
              · go_wp2
                go_ret
                exact ⟨ret_int (by rw [HK.out, drop_cons HX.out, HB.out]), rfl⟩
              · go_wp2
                go_ret
                exact ⟨ret_int (by rw [HK.out, drop_cons HX.out, HB.out]), rfl⟩
          · have HB := hid hbad
            have hx0 : 0 ≤ x := by omega
            have hx1 : x ≤ most h := by omega
            clear hbad
            by_cases h0 : k = 0
            · subst h0
              simp only [Nat.add_zero] at c1
              go_wp2
              go_round
              case rel => exact ⟨1, by omega, rfl, hid (by rw [HK.out, drop_cons HX.out, prev_succ _ _ _ HX.out]; exact chk_first HB.out)⟩
              case measure => simp [intOf]; omega
            · obtain ⟨y, hy⟩ := some_of_lt (l := l) (k := k - 1) (by omega)
              have c2 := hc (k-1) (.int .i64 y) (ints_get hy)
              have HP := hid (show prev l k = some y by rw [prev, if_neg h0, hy])
              clear hy hc
              have hk1 : 1 ≤ k := by omega
              by_cases hxy : x ≤ y
              · go_wp2
                go_ret
                exact ⟨ret_int (by rw [HK.out, drop_cons HX.out, HP.out, chk_order HB.out hxy]), rfl⟩
              · go_wp2
                go_round
                case rel => exact ⟨k + 1, by omega, by go_num, hid (by rw [HK.out, drop_cons HX.out, prev_succ _ _ _ HX.out, HP.out]; exact chk_next HB.out hxy)⟩
                case measure => simp [intOf]; omega
        · go_wp2
          go_ret
          exact ⟨ret_int (by rw [HK.out, drop_all (by omega)]; rfl), rfl⟩
  · have e0 : chk h l = 2 := by rw [chk, if_neg hh]
    rw [e0]
    go_enter Try.func32, Try.ntmps32
    go_wp2_with (go_at_call 39; refine (height_no _ _ hh).mono ?_; rintro e w' ⟨rfl, rfl⟩)
    go_ret
    exact ⟨rfl, rfl⟩
end Go.Proofs.Ytppflnkadjddiaa
