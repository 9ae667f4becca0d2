/-
  The reference of layer 19: size, has, Bit, Beside, Check and Great.
  No condition beyond what the arguments stand for.
-/
import Derived.Test.YtppflnkadjddiaaTransLaw
import Derived.Test.YtppflnkadjddiaaLibTwo
namespace Go.Proofs.Ytppflnkadjddiaa
open Go.RowKit
set_option linter.unusedVariables false

theorem pow2_le {a b : Nat} (h : a ≤ b) : (2 : Int) ^ a ≤ 2 ^ b := by
  have : (2 ^ a : Nat) ≤ 2 ^ b := Nat.pow_le_pow_right (by decide) h
  have e : ∀ n : Nat, ((2 : Int) ^ n) = ((2 ^ n : Nat) : Int) := fun n => by rw [Int.natCast_pow]; rfl
  rw [e, e]; omega
theorem pow2_pos (a : Nat) : (0 : Int) < 2 ^ a := Int.pow_pos (by decide)

set_option maxHeartbeats 1000000 in
theorem refSize_any (a : Int) (w : World) (h0 : 0 ≤ a) (h8 : a ≤ 16) :
    Calls Try.prog 49 #[.int .i64 a] w fun e w' => e = .returned (.int .i64 (2 ^ a.toNat)) ∧ w = w' := by
  obtain ⟨n, rfl⟩ := Int.eq_ofNat_of_zero_le h0
  rw [Int.toNat_natCast]
  go_enter Try.func49, Try.ntmps49
  go_wp2
  go_loop [3, 4] (fun p i => ∃ k : Nat, k ≤ n ∧ i = .int .i64 k ∧ p = .int .i64 (2 ^ k)) (fun _ i => n - (intOf i).toNat)
  case atStart => exact ⟨0, by omega, rfl, rfl⟩
  case round =>
    obtain ⟨k, hk, rfl, rfl⟩ := hrel
    by_cases hlt : k < n
    · have h1 := pow2_pos k
      have h2 := pow2_le (a := k) (b := 15) (by omega)
      have h3 : (2 : Int) ^ 15 = 32768 := by decide
      rw [h3] at h2
      have HP := hid (show (2 : Int) ^ (k + 1) = 2 ^ k * 2 from Int.pow_succ ..)
      clear h3
      generalize (2 : Int) ^ k = p at *
      go_wp2
      go_round
      case rel => exact ⟨k + 1, by omega, by go_num, by rw [HP.out]⟩
      case measure => simp [intOf]; omega
    · go_wp2
      go_ret
      obtain rfl : k = n := by omega
      exact ⟨rfl, rfl⟩

def hasB (l : List Int) (n : Int) : Bool := l.contains n
set_option maxHeartbeats 1000000 in
theorem refHas_any (v : Value) (l : List Int) (n : Int) (w : World) (hl : Sl 1 w v l.length (ints l)) :
    Calls Try.prog 58 #[v, .int .i64 n] w fun e w' => e = .returned (.bool (hasB l n)) ∧ w = w' := by
  obtain ⟨ao, cap, rfl, _, _, hm1, _⟩ := id hl
  have HL := hid hl
  clear hl
  go_enter Try.func58, Try.ntmps58
  go_wp2
  go_loop [5] (fun i => ∃ k : Nat, k ≤ l.length ∧ i = .int .i64 k ∧ Hid (hasB l n = hasB (l.drop k) n)) (fun i => l.length - (intOf i).toNat)
  case atStart => exact ⟨0, by omega, rfl, hid rfl⟩
  case round =>
    obtain ⟨k, hk, rfl, HE⟩ := hrel
    by_cases hlt : k < l.length
    · obtain ⟨x, hx⟩ := some_of_lt hlt
      obtain ⟨b, o, rfl, c1⟩ := HL.out.cell (ints_get hx)
      have HX := hid hx
      clear hx
      by_cases hn : x = n
      · have hb : (x == n) = true := by simp [hn]
        have HN := hid hn
        clear hn
        go_wp2
        go_ret
        refine ⟨ret_bool ?_, rfl⟩
        rw [HE.out, drop_cons HX.out, HN.out]
        simp [hasB]
      · have hb : (x == n) = false := by simp [hn]
        have HN := hid hn
        clear hn
        go_wp2
        go_round
        case rel =>
          refine ⟨k + 1, by omega, by go_num, hid ?_⟩
          rw [HE.out, drop_cons HX.out]
          have : ¬ n = x := fun e => HN.out e.symm
          simp [hasB, this]
        case measure => simp [intOf]; omega
    · go_wp2
      go_ret
      exact ⟨ret_bool (by rw [HE.out, drop_all (by omega)]; rfl), rfl⟩

set_option maxHeartbeats 1000000 in
theorem refBit_any (H : Nat) (c r : Int) (w : World) (h4 : H ≤ 4) (hc : 0 ≤ c) (hc1 : c ≤ 15) (r0 : 0 ≤ r) (r1 : r < H) :
    Calls Try.prog 56 #[.int .i64 (H : Int), .int .i64 c, .int .i64 r] w fun e w' => e = .returned (.int .i64 (bt c (H - 1 - r.toNat))) ∧ w = w' := by
  have he : ((H : Int) - 1 - r).toNat = H - 1 - r.toNat := by omega
  have hb := bt_bound c (H - 1 - r.toNat)
  have hp := pow2_pos (H - 1 - r.toNat)
  have hq0 : 0 ≤ c / 2 ^ (H - 1 - r.toNat) := Int.ediv_nonneg hc (by omega)
  have hq1 : c / 2 ^ (H - 1 - r.toNat) ≤ c := Int.ediv_le_self _ hc
  have HQ : wrap64 (c.tdiv (2 ^ (H - 1 - r.toNat))) = c / 2 ^ (H - 1 - r.toNat) := by
    rw [Int.tdiv_eq_ediv_of_nonneg hc]
    exact IntWalk.wrap64_in _ ⟨by omega, by omega⟩
  have hpne : ¬ (2 : Int) ^ (H - 1 - r.toNat) = 0 := by omega
  have HB := hid (show bt c (H - 1 - r.toNat) = c / 2 ^ (H - 1 - r.toNat) % 2 from rfl)
  have HE := hid (show (2 : Int) ^ ((H : Int) - 1 - r).toNat = 2 ^ (H - 1 - r.toNat) by rw [he])
  clear he hb
  generalize bt c (H - 1 - r.toNat) = B at *
  generalize (2 : Int) ^ (H - 1 - r.toNat) = p at *
  clear HQ
  go_enter Try.func56, Try.ntmps56
  go_wp2_with (go_at_call 49; refine (refSize_any _ _ (by omega) (by omega)).mono ?_; rintro e w1 ⟨rfl, rfl⟩; rw [HE.out])
  go_ret
  exact ⟨ret_int HB.out.symm, rfl⟩

theorem okP_one (l : List Int) (c e : Int) (hc : 0 ≤ c) (he : 0 ≤ e) : okP 1 l c e = hasB l (2 * c + e) := by
  simp only [okP, besP, blks, if_true, List.all_cons, List.all_nil, Bool.and_true, hasB]
  rw [Int.toNat_of_nonneg (by omega)]
/-- The first k pairs of rows are allowed. -/
def okK (H : Nat) (l : List Int) (c e : Int) (k : Nat) : Bool := (upto (nb (H : Int) c e) k).all (fun n => l.contains ((n.toNat : Nat) : Int))
theorem okK_succ (H : Nat) (l : List Int) {c e : Int} (k : Nat) (hk : k + 2 ≤ H) (hc : 0 ≤ c) (he : 0 ≤ e) : okK H l c e (k + 1) = (okK H l c e k && hasB l (blk4 (bt c (H - 1 - k)) (bt c (H - 1 - (k + 1))) (bt e (H - 1 - k)) (bt e (H - 1 - (k + 1))))) := by
  unfold okK
  rw [upto_succ, List.all_append, List.all_cons, List.all_nil, Bool.and_true]
  congr 1
  rw [Int.toNat_of_nonneg (nb_range _ _ _ _ hc he).1, nb_bits hk hc he, hasB]
  rw [show H - 2 - k + 1 = H - 1 - k from by omega, show H - 2 - k = H - 1 - (k + 1) from by omega]
theorem okK_false (H : Nat) (l : List Int) (c e : Int) {k n : Nat} (hk : k ≤ n) (h : okK H l c e k = false) : okK H l c e n = false := by
  unfold okK at h ⊢
  rw [List.all_eq_false] at h ⊢
  obtain ⟨x, hx, hx2⟩ := h
  exact ⟨x, (upto_prefix _ hk).subset hx, hx2⟩
theorem okP_okK {H : Nat} (h2 : 2 ≤ H) (l : List Int) (c e : Int) : okP (H : Int) l c e = okK H l c e (H - 1) := by
  have hne : ¬ (H : Int) = 1 := by omega
  rw [okP, besP, blks, if_neg hne, okK]
  rw [show ((H : Int) - 1).toNat = H - 1 from by omega]

set_option maxRecDepth 100000 in
set_option maxHeartbeats 2000000 in
theorem refBeside_any (H : Nat) (v : Value) (l : List Int) (c e : Int) (w : World) (h1 : 1 ≤ H) (h4 : H ≤ 4) (hc : 0 ≤ c) (hc1 : c ≤ 15) (he : 0 ≤ e) (he1 : e ≤ 15) (hl : Sl 1 w v l.length (ints l)) :
    Calls Try.prog 46 #[.int .i64 (H : Int), v, .int .i64 c, .int .i64 e] w fun e' w' => e' = .returned (.bool (okP (H : Int) l c e)) ∧ w = w' := by
  by_cases h : H = 1
  · subst h
    have HO := hid (okP_one l c e hc he)
    go_enter Try.func46, Try.ntmps46
    go_wp2_with (go_at_call 58; refine (refHas_any _ l _ _ hl).mono ?_; rintro e' w1 ⟨rfl, rfl⟩)
    go_ret
    exact ⟨ret_bool HO.out.symm, rfl⟩
  · have hne : ((H : Int) == 1) = false := beq_eq_false_iff_ne.2 (by omega)
    have HO := hid (okP_okK (H := H) (by omega) l c e)
    generalize okP (H : Int) l c e = R at *
    clear h
    go_enter Try.func46, Try.ntmps46
    go_wp2
    go_loop [9] (fun i => ∃ k : Nat, k + 1 ≤ H ∧ i = .int .i64 k ∧ Hid (okK H l c e k = true)) (fun i => H - (intOf i).toNat)
    case atStart => exact ⟨0, by omega, rfl, hid rfl⟩
    case round =>
      obtain ⟨k, hk, rfl, HE⟩ := hrel
      by_cases hlt : k + 2 ≤ H
      · have HS := hid (okK_succ H l k hlt hc he)
        have b1 := bt_bound c (H - 1 - k)
        have b2 := bt_bound c (H - 1 - (k + 1))
        have b3 := bt_bound e (H - 1 - k)
        have b4 := bt_bound e (H - 1 - (k + 1))
        have HB1 := hid (fun w => refBit_any H c k w h4 hc hc1 (by omega) (by omega))
        have HB2 := hid (fun w => refBit_any H c ((k : Int) + 1) w h4 hc hc1 (by omega) (by omega))
        have HB3 := hid (fun w => refBit_any H e k w h4 he he1 (by omega) (by omega))
        have HB4 := hid (fun w => refBit_any H e ((k : Int) + 1) w h4 he he1 (by omega) (by omega))
        have ek : ((k : Int) + 1).toNat = k + 1 := by omega
        simp only [Int.toNat_natCast, ek] at HB1 HB2 HB3 HB4
        unfold blk4 at HS
        generalize bt c (H - 1 - k) = B1 at *
        generalize bt c (H - 1 - (k + 1)) = B2 at *
        generalize bt e (H - 1 - k) = B3 at *
        generalize bt e (H - 1 - (k + 1)) = B4 at *
        clear ek
        obtain ⟨b10, b11⟩ := b1
        obtain ⟨b20, b21⟩ := b2
        obtain ⟨b30, b31⟩ := b3
        obtain ⟨b40, b41⟩ := b4
        have HH := hid (fun w hl => refHas_any v l (8 * B1 + 4 * B2 + 2 * B3 + B4) w hl)
        generalize hasB l (8 * B1 + 4 * B2 + 2 * B3 + B4) = q at *
        cases q
        all_goals
          go_wp2_with (first
            | (go_at_call 56; ((with_reducible refine (HB1.out _).mono ?_); rintro e' w1 ⟨rfl, rfl⟩))
            | (go_at_call 56; ((with_reducible refine (HB2.out _).mono ?_); rintro e' w1 ⟨rfl, rfl⟩))
            | (go_at_call 56; ((with_reducible refine (HB3.out _).mono ?_); rintro e' w1 ⟨rfl, rfl⟩))
            | (go_at_call 56; ((with_reducible refine (HB4.out _).mono ?_); rintro e' w1 ⟨rfl, rfl⟩))
            | (go_at_call 58; refine (HH.out _ hl).mono ?_; rintro e' w1 ⟨rfl, rfl⟩))
        · go_ret
          have h1 : okK H l c e (k + 1) = false := by rw [HS.out, Bool.and_false]
          exact ⟨ret_bool (by rw [HO.out, okK_false H l c e (show k + 1 ≤ H - 1 by omega) h1]), rfl⟩
        · go_round
          case rel => exact ⟨k + 1, by omega, by go_num, hid (by rw [HS.out, HE.out]; rfl)⟩
          case measure => simp [intOf]; omega
      · go_wp2
        go_ret
        exact ⟨ret_bool (by rw [HO.out, show H - 1 = k from by omega, HE.out]), rfl⟩

set_option maxRecDepth 100000 in
set_option maxHeartbeats 2000000 in
theorem refCheck_any (h : Int) (l : List Int) (v : Value) (w : World) (hl : Sl 1 w v l.length (ints l)) :
    Calls Try.prog 33 #[.int .i64 h, v] w fun e w' => e = .returned (.int .i64 (chk h l)) ∧ Dr w w' := by
  obtain ⟨ao, cap, rfl, _, hl1, hl2, hl3⟩ := hl
  by_cases hh : 1 ≤ h ∧ h ≤ 4
  · have HE := hid (show chk h l = chkGo (most h) none l by rw [chk, if_pos hh])
    obtain ⟨ha, hb⟩ := hh
    go_enter Try.func33, Try.ntmps33
    go_upto_if 14 with fail
    go_cut [5] (fun m w' => w = w' ∧ m = .int .i64 (most h))
    case first =>
      by_cases h1 : h = 1
      · subst h1
        go_wp2
        go_meet
        exact ⟨rfl, rfl⟩
      · have e : most h = 15 := by rw [most, if_neg h1]
        have hne : (h == 1) = false := beq_eq_false_iff_ne.2 h1
        clear h1
        go_wp2
        go_meet
        exact ⟨rfl, by rw [e]⟩
    case rest =>
      obtain ⟨rfl, rfl⟩ := hcut
      go_wp2
      go_loopw [6] (fun i wr => ∃ k : Nat, k ≤ l.length ∧ i = .int .i64 k ∧ Dr w wr ∧ Hid (chk h l = chkGo (most h) (prev l k) (l.drop k))) (fun i _ => l.length - (intOf i).toNat)
      case atStart => exact ⟨0, Nat.zero_le _, rfl, Dr.refl _, HE⟩
      case round =>
        obtain ⟨k, hk, rfl, ⟨n, rfl⟩, HK⟩ := hrel
        have HD := hid (Dr.drewN (Dr.refl w) n)
        by_cases hlt : k < l.length
        · obtain ⟨b, o, rfl, hc⟩ := Sl.pos hl3 (by omega)
          obtain ⟨x, hx⟩ := some_of_lt hlt
          have c1 := hc k (.int .i64 x) (ints_get hx)
          have HX := hid hx
          have hk1 : (k : Int) < (l.length : Int) := by omega
          clear hx
          by_cases hbad : x < 0 ∨ most h < x
          · have HB := hid (chk_bad (p := prev l k) (r := l.drop (k + 1)) hbad)
            clear hc
            by_cases h0 : x < 0
            · have e0 : decide (x < 0) = true := by simpa using h0
              clear hbad
              go_wp2
              go_ret
              exact ⟨ret_int (by rw [HK.out, drop_cons HX.out, HB.out]), HD.out⟩
            · have h1 : most h < x := by omega
              clear hbad
              go_wp2
              go_ret
              exact ⟨ret_int (by rw [HK.out, drop_cons HX.out, HB.out]), HD.out⟩
          · have HB := hid hbad
            have hx0 : 0 ≤ x := by omega
            have hx1 : x ≤ most h := by omega
            clear hbad
            by_cases h0 : k = 0
            · subst h0
              simp only [Nat.add_zero] at c1
              go_upto_region 11 with fail
              go_quiet (fail)
              go_wp2
              go_roundw
              case rel => exact ⟨1, by omega, rfl, by first | exact ⟨_, rfl⟩ | exact HD.out.drewN _, hid (by rw [HK.out, drop_cons HX.out, prev_succ _ _ _ HX.out]; exact chk_first HB.out)⟩
              case measure => simp [intOf]; omega
            · obtain ⟨y, hy⟩ := some_of_lt (l := l) (k := k - 1) (by omega)
              have c2 := hc (k-1) (.int .i64 y) (ints_get hy)
              have HP := hid (show prev l k = some y by rw [prev, if_neg h0, hy])
              clear hy hc
              have hk2 : 1 ≤ k := by omega
              have hkm : IntKind.i64.wrap ((k : Int) - 1) = (k : Int) - 1 := IntWalk.i64_in _ (by omega)
              have hk3 : (0 : Int) ≤ (k : Int) - 1 := by omega
              have hk4 : (k : Int) - 1 < (l.length : Int) := by omega
              have hk5 : ((k : Int) - 1).toNat = k - 1 := by omega
              have hgt : decide (0 < k) = true := by simp; omega
              have hgt2 : 0 < k := by omega
              by_cases hxy : x ≤ y
              · have hle : decide (x ≤ y) = true := by simpa using hxy
                go_upto_region 11 with fail
                go_quiet (fail)
                clear hkm
                go_wp2
                go_ret
                exact ⟨ret_int (by rw [HK.out, drop_cons HX.out, HP.out, chk_order HB.out hxy]), by first | exact ⟨_, rfl⟩ | exact HD.out.drewN _⟩
              · have hle : decide (x ≤ y) = false := by simpa using hxy
                go_upto_region 11 with fail
                go_quiet (fail)
                clear hkm
                go_wp2
                go_roundw
                case rel => exact ⟨k + 1, by omega, by go_num, by first | exact ⟨_, rfl⟩ | exact HD.out.drewN _, hid (by rw [HK.out, drop_cons HX.out, prev_succ _ _ _ HX.out, HP.out]; exact chk_next HB.out hxy)⟩
                case measure => simp [intOf]; omega
        · go_wp2
          go_ret
          exact ⟨ret_int (by rw [HK.out, drop_all (by omega)]; rfl), HD.out⟩
  · have e0 : chk h l = 2 := by rw [chk, if_neg hh]
    rw [e0]
    by_cases h1 : h < 1
    · go_enter Try.func33, Try.ntmps33
      go_wp2
      go_ret
      exact ⟨rfl, Dr.refl _⟩
    · have h2 : 1 ≤ h := by omega
      have h5 : 4 < h := by omega
      clear hh
      go_enter Try.func33, Try.ntmps33
      go_wp2
      go_ret
      exact ⟨rfl, Dr.refl _⟩
end Go.Proofs.Ytppflnkadjddiaa
