/-
  integer: compare and subtract on naturals.
  No condition beyond bounds on the lengths.
-/
import Derived.Test.YtppflnkadjddiaaIntAdd
namespace Go.Proofs.Ytppflnkadjddiaa
open Go.RowKit
set_option linter.unusedVariables false

def cmpN (a b : Nat) : Int := if a < b then -1 else if b < a then 1 else 0
theorem natv_split {l : List Int} {k : Nat} {x : Int} (h : l[k]? = some x) : natv l = natv (l.take k) + 4294967296 ^ k * (x.toNat + 4294967296 * natv (l.drop (k + 1))) := by
  have hk := lt_of_some h
  have e : l = l.take k ++ (x :: l.drop (k + 1)) := by rw [← drop_cons h, List.take_append_drop]
  conv => lhs; rw [e]
  rw [natv_append, List.length_take, show min k l.length = k by omega]
  rfl
theorem natv_less {x y : List Int} {k : Nat} {a b : Int} (hx : U32 x) (hy : U32 y) (ha : x[k]? = some a) (hb : y[k]? = some b) (hd : x.drop (k + 1) = y.drop (k + 1)) (h : a < b) : natv x < natv y := by
  rw [natv_split ha, natv_split hb, hd]
  have h1 := natv_lt (x.take k) (hx.take k)
  rw [List.length_take, show min k x.length = k by have := lt_of_some ha; omega] at h1
  have ha0 := hx a (List.mem_of_getElem? ha)
  have h2 : a.toNat + 1 ≤ b.toNat := by omega
  generalize 4294967296 * natv (y.drop (k + 1)) = r
  have h3 : 4294967296 ^ k * (a.toNat + r + 1) ≤ 4294967296 ^ k * (b.toNat + r) := Nat.mul_le_mul_left _ (by omega)
  rw [Nat.mul_add, Nat.mul_one] at h3
  omega
theorem natv_ge {l : List Int} (hu : U32 l) (hc : Canon l) (h : l ≠ []) : 4294967296 ^ (l.length - 1) ≤ natv l := by
  have hk : l.length - 1 < l.length := by have := List.length_pos_iff.2 h; omega
  obtain ⟨x, hx⟩ := some_of_lt hk
  rw [natv_split hx, drop_all (by omega)]
  have hx0 : x ≠ 0 := by
    rintro rfl
    apply hc (l.take (l.length - 1))
    have := take_snoc hx
    rw [show l.length - 1 + 1 = l.length by omega, take_all (Nat.le_refl _)] at this
    exact this
  have h1 := hu x (List.mem_of_getElem? hx)
  have h2 : 1 ≤ x.toNat := by omega
  have h3 := Nat.mul_le_mul_left (4294967296 ^ (l.length - 1)) h2
  simp only [natv, Nat.mul_zero, Nat.add_zero]
  omega
theorem canon_digs (n : Nat) : Canon (digs n) := by
  induction n using Nat.strongRecOn with
  | _ n ih =>
    by_cases h : n = 0
    · subst h; rw [digs_zero]; intro r; simp
    · rw [digs_pos h]
      intro r hr
      cases r with
      | nil =>
        simp only [List.nil_append, List.cons.injEq] at hr
        have h2 : n / 4294967296 = 0 := by
          have := natv_digs (n / 4294967296)
          rw [hr.2] at this
          exact this.symm
        omega
      | cons a r =>
        simp only [List.cons_append, List.cons.injEq] at hr
        exact ih _ (by omega) r hr.2
theorem digs_len_lt {a b : Nat} (h : (digs a).length < (digs b).length) : a < b := by
  have h1 := natv_lt (digs a) (digs_u32 a)
  have h2 := natv_ge (digs_u32 b) (canon_digs b) (by intro e; rw [e] at h; simp at h)
  rw [natv_digs] at h1 h2
  have h3 : 4294967296 ^ (digs a).length ≤ 4294967296 ^ ((digs b).length - 1) := Nat.pow_le_pow_right (by decide) (by omega)
  omega

set_option maxRecDepth 100000 in
set_option maxHeartbeats 4000000 in
theorem compareN_any (v1 v2 : Value) (a b : Nat) (w : World) (h1 : Nt w v1 a) (h2 : Nt w v2 b) :
    Calls Try.prog 69 #[v1, v2] w fun e w' => e = .returned (.int .i64 (cmpN a b)) ∧ Dr w w' := by
  unfold Nt at h1 h2
  have hlt1 : (digs a).length < (digs b).length → cmpN a b = -1 := fun h => by rw [cmpN, if_pos (digs_len_lt h)]
  have hlt2 : (digs b).length < (digs a).length → cmpN a b = 1 := fun h => by have := digs_len_lt h; rw [cmpN, if_neg (by omega), if_pos this]
  have HVa := hid (natv_digs a)
  have HVb := hid (natv_digs b)
  have HUa := hid (digs_u32 a)
  have HUb := hid (digs_u32 b)
  generalize digs a = x at *
  generalize digs b = y at *
  have HS1 := hid h1
  have HS2 := hid h2
  obtain ⟨ao1, cap1, rfl, _, _, _, hs1⟩ := h1
  obtain ⟨ao2, cap2, rfl, _, _, _, hs2⟩ := h2
  clear hs1 hs2
  by_cases hne : x.length = y.length
  · have hb : ((x.length : Int) != (y.length : Int)) = false := by simp [hne]
    have HN := hid hne
    have hle : x.length ≤ y.length := by omega
    have hle' : y.length ≤ x.length := by omega
    clear hne hlt1 hlt2
    go_enter Try.func69, Try.ntmps69
    go_wp2
    go_loopw [5] (fun i wr => ∃ k : Nat, k ≤ x.length ∧ i = .int .i64 ((k : Int) - 1) ∧ Dr w wr ∧ Hid (x.drop k = y.drop k)) (fun i _ => (intOf i + 1).toNat)
    case atStart => exact ⟨x.length, Nat.le_refl _, rfl, Dr.refl _, hid (by rw [drop_all (Nat.le_refl _), drop_all hle'])⟩
    case round =>
      obtain ⟨k, hk, rfl, ⟨n, rfl⟩, HE⟩ := hrel
      have HD := hid (Dr.drewN (Dr.refl w) n)
      by_cases hk0 : 1 ≤ k
      · obtain ⟨d, hd⟩ := some_of_lt (l := x) (k := k - 1) (by omega)
        obtain ⟨e, he⟩ := some_of_lt (l := y) (k := k - 1) (by omega)
        obtain ⟨b1, o1, rfl, c1⟩ := HS1.out.cell (u32s_get hd)
        obtain ⟨b2, o2, rfl, c2⟩ := HS2.out.cell (u32s_get he)
        have HX := hid hd
        have HY := hid he
        have hd0 := (HUa.out d (List.mem_of_getElem? hd)).1
        have he0 := (HUb.out e (List.mem_of_getElem? he)).1
        have hi1 : (0 : Int) ≤ (k : Int) - 1 := by omega
        have hi2 : ((k : Int) - 1) < (x.length : Int) := by omega
        have hi3 : ((k : Int) - 1) < (y.length : Int) := by omega
        have hi4 : ((k : Int) - 1).toNat = k - 1 := by omega
        clear hd he
        by_cases hde : d = e
        · have hb' : (d != e) = false := by simp [hde]
          have HDE := hid hde
          clear hde
          go_wp2
          go_quiet (fail)
          go_wp2
          go_roundw
          case rel => exact ⟨k - 1, by omega, int_eq (by omega), (by first | exact ⟨_, rfl⟩ | exact HD.out.drewN _), hid (by rw [drop_cons HX.out, drop_cons HY.out, HDE.out, show k - 1 + 1 = k by omega, HE.out])⟩
          case measure => simp [intOf]; omega
        · have hb' : (d != e) = true := by simp [hde]
          have hdr : x.drop (k - 1 + 1) = y.drop (k - 1 + 1) := by rw [show k - 1 + 1 = k by omega]; exact HE.out
          by_cases hlt : d < e
          · have HR := hid (show cmpN a b = -1 by rw [cmpN, if_pos (by rw [← HVa.out, ← HVb.out]; exact natv_less HUa.out HUb.out HX.out HY.out hdr hlt)])
            clear hde hdr
            go_wp2
            go_quiet (fail)
            go_wp2
            go_quiet (fail)
            go_wp2
            go_ret
            exact ⟨ret_int HR.out.symm, (by first | exact ⟨_, rfl⟩ | exact HD.out.drewN _ | exact (HD.out.drewN _).drewN _)⟩
          · have hgt := natv_less HUb.out HUa.out HY.out HX.out hdr.symm (by omega)
            rw [HVa.out, HVb.out] at hgt
            have HR := hid (show cmpN a b = 1 by rw [cmpN, if_neg (by omega), if_pos hgt])
            clear hde hdr hgt
            go_wp2
            go_quiet (fail)
            go_wp2
            go_quiet (fail)
            go_wp2
            go_ret
            exact ⟨ret_int HR.out.symm, (by first | exact ⟨_, rfl⟩ | exact HD.out.drewN _ | exact (HD.out.drewN _).drewN _)⟩
      · have hk0' : k = 0 := by omega
        subst hk0'
        have HR := hid (show cmpN a b = 0 by
          have := HE.out
          rw [List.drop_zero, List.drop_zero] at this
          have e : a = b := by rw [← HVa.out, ← HVb.out, this]
          rw [e, cmpN, if_neg (by omega), if_neg (by omega)])
        go_wp2
        go_ret
        exact ⟨ret_int HR.out.symm, HD.out⟩
  · have hb : ((x.length : Int) != (y.length : Int)) = true := by simp; omega
    by_cases hlt : x.length < y.length
    · have HR := hid (hlt1 hlt)
      clear hne hlt1 hlt2
      go_enter Try.func69, Try.ntmps69
      go_wp2
      go_ret
      exact ⟨ret_int HR.out.symm, Dr.refl _⟩
    · have HR := hid (hlt2 (by omega))
      clear hlt1 hlt2
      go_enter Try.func69, Try.ntmps69
      go_wp2
      go_ret
      exact ⟨ret_int HR.out.symm, Dr.refl _⟩

/-- Behind k digits of the difference: the first k digits of out and the borrow. -/
def SubRel (w : World) (x y : List Int) (c i : Value) (wr : World) : Prop := ∃ (k : Nat) (cn : Nat) (o : List Int), k ≤ x.length ∧ i = .int .i64 k ∧ c = .int .i64 cn ∧ cn ≤ 1 ∧ o.length = x.length ∧ U32 o ∧ (∀ j, k ≤ j → j < o.length → o[j]? = some 0) ∧
  natv (x.take k) + 4294967296 ^ k * cn = natv (o.take k) + natv (y.take k) ∧
  wr.ownsRow w.heap.size 86 1 (.slice (some ⟨w.heap.size, 0, none⟩) x.length x.length) x.length (u32s o) ∧ Below w.heap.size w wr

theorem sub_next {w wr : World} {x y : List Int} {k cn d e s cn' : Nat} {o : List Int} (hk : k < x.length) (hol : o.length = x.length) (hou : U32 o) (hoz : ∀ j, k ≤ j → j < o.length → o[j]? = some 0)
    (hsum : natv (x.take k) + 4294967296 ^ k * cn = natv (o.take k) + natv (y.take k))
    (hown : wr.ownsRow w.heap.size 86 1 (.slice (some ⟨w.heap.size, 0, none⟩) x.length x.length) x.length (u32s o)) (hbel : Below w.heap.size w wr)
    (hx : natv (x.take (k + 1)) = natv (x.take k) + 4294967296 ^ k * d) (hy : natv (y.take (k + 1)) = natv (y.take k) + 4294967296 ^ k * e) (hs : s < 4294967296) (hc : cn' ≤ 1) (hd : d + 4294967296 * cn' = s + e + cn) :
    SubRel w x y (.int .i64 (cn' : Int)) (.int .i64 ((k : Int) + 1)) (wr.setCell ⟨w.heap.size, k, none⟩ (.int .u32 (s : Int))) := by
  have e1 : (u32s o).set k (.int .u32 (s : Int)) = u32s (o.set k (s : Int)) := by simp [u32s, List.map_set]
  refine ⟨k + 1, cn', o.set k (s : Int), by omega, rfl, rfl, hc, by simp [hol], hou.set (by omega), ?_, ?_, ?_, hbel.setCell (p := ⟨w.heap.size, k, none⟩) (Nat.le_refl _) _⟩
  · intro j hj hjl
    rw [List.getElem?_set_ne (by omega)]
    exact hoz j (by omega) (by simpa using hjl)
  · rw [natv_set_take _ (by omega), hx, hy, Int.toNat_natCast, Nat.pow_succ, Nat.mul_assoc]
    have h1 : 4294967296 ^ k * (d + 4294967296 * cn') = 4294967296 ^ k * (s + e + cn) := by rw [hd]
    simp only [Nat.mul_add] at h1
    omega
  · rw [← e1]
    exact (hown.stored k _).1

set_option maxRecDepth 100000 in
set_option maxHeartbeats 4000000 in
theorem subtract_any (v1 v2 : Value) (a b : Nat) (w : World) (h1 : Nt w v1 a) (h2 : Nt w v2 b) (hab : b ≤ a) (hsz : (digs a).length ≤ 1000000) :
    Calls Try.prog 70 #[v1, v2] w fun e w' => (∃ v', e = .returned v' ∧ Nt w' v' (a - b)) ∧ Below w.heap.size w w' := by
  have hlen : (digs b).length ≤ (digs a).length := by
    rcases Nat.lt_or_ge (digs a).length (digs b).length with h | h
    · have := digs_len_lt h; omega
    · exact h
  unfold Nt at h1 h2
  have HVa := hid (natv_digs a)
  have HVb := hid (natv_digs b)
  have HUa := hid (digs_u32 a)
  have HUb := hid (digs_u32 b)
  generalize digs a = x at *
  generalize digs b = y at *
  have HS1 := hid h1
  have HS2 := hid h2
  obtain ⟨ao1, cap1, rfl, _, _, _, hs1⟩ := h1
  obtain ⟨ao2, cap2, rfl, _, _, _, hs2⟩ := h2
  clear hs1 hs2
  have HAB := hid hab
  clear hab
  go_enter Try.func70, Try.ntmps70
  go_wp2_with (at_make; refine wpList_zeros _ rfl _ _ 89 rfl w.heap.size 86 (.int .u32 0) 4 Try.underlying89 Try.info86 rfl _ _ _ _ x.length rfl rfl rfl rfl (by omega) (by unfold maxLen; omega) (by simp) ?_; intro w1 hown1 hb1)
  go_loopw [6, 14] (fun c i wr => SubRel w x y c i wr) (fun _ i _ => x.length - (intOf i).toNat)
  case atStart => exact ⟨0, 0, List.replicate x.length 0, Nat.zero_le _, rfl, rfl, by omega, by simp, by intro z hz; rw [List.eq_of_mem_replicate hz]; omega, by intro j _ hj; rw [List.length_replicate] at hj; simp [hj], by simp [natv], by simpa [u32s] using hown1, hb1⟩
  case round =>
    obtain ⟨k, cn, o, hk, rfl, rfl, hc1, hol, hou, hoz, hsum, hown, hbel⟩ := hrel
    clear hown1 hb1
    by_cases hlt : k < x.length
    · obtain ⟨d, hd⟩ := some_of_lt hlt
      obtain ⟨b1, o1, rfl, c1⟩ := (HS1.out.below hbel).cell (u32s_get hd)
      have hd32 := HUa.out d (List.mem_of_getElem? hd)
      obtain ⟨dn, rfl⟩ := Int.eq_ofNat_of_zero_le hd32.1
      have hdn : dn < 4294967296 := by omega
      have f2 := hown.frozenAt k
      have c2 := hown.cellAt k (by omega)
      rw [u32s_get (hoz k (Nat.le_refl _) (by omega))] at c2
      have HD := hid hd
      have HO := hid hoz
      have HSum := hid hsum
      have HU := hid hou
      have HL := hid hol
      clear hd hd32 hoz hsum hou hol
      by_cases hly : k < y.length
      · obtain ⟨e, he⟩ := some_of_lt hly
        obtain ⟨b2, o2, rfl, c3⟩ := (HS2.out.below hbel).cell (u32s_get he)
        have he32 := HUb.out e (List.mem_of_getElem? he)
        obtain ⟨en, rfl⟩ := Int.eq_ofNat_of_zero_le he32.1
        have hen : en < 4294967296 := by omega
        have HE := hid he
        clear he he32
        by_cases hneg : dn < cn + en
        · have hw : IntKind.u32.wrap ((dn : Int) - cn - en + 4294967296) = ((dn + 4294967296 - cn - en : Nat) : Int) := by rw [IntKind.wrap_u32]; omega
          go_wp2
          go_roundw
          case rel => exact sub_next (cn' := 1) (s := dn + 4294967296 - cn - en) hlt HL.out HU.out HO.out HSum.out hown hbel (by rw [natv_take_succ HD.out]) (by rw [natv_take_succ HE.out]) (by omega) (by omega) (by omega)
          case measure => simp [intOf]; omega
        · go_wp2
          go_roundw
          case rel =>
            rw [show (dn : Int) - cn - en = ((dn - cn - en : Nat) : Int) by omega]
            exact sub_next (cn' := 0) (s := dn - cn - en) hlt HL.out HU.out HO.out HSum.out hown hbel (by rw [natv_take_succ HD.out]) (by rw [natv_take_succ HE.out]) (by omega) (by omega) (by omega)
          case measure => simp [intOf]; omega
      · have HY := hid (show y.take (k + 1) = y.take k by rw [take_all (by omega), take_all (by omega)])
        by_cases hneg : dn < cn
        · have hw : IntKind.u32.wrap ((dn : Int) - cn + 4294967296) = ((dn + 4294967296 - cn : Nat) : Int) := by rw [IntKind.wrap_u32]; omega
          go_wp2
          go_roundw
          case rel => exact sub_next (cn' := 1) (e := 0) (s := dn + 4294967296 - cn) hlt HL.out HU.out HO.out HSum.out hown hbel (by rw [natv_take_succ HD.out]) (by rw [HY.out]; simp) (by omega) (by omega) (by omega)
          case measure => simp [intOf]; omega
        · go_wp2
          go_roundw
          case rel =>
            rw [show (dn : Int) - cn = ((dn - cn : Nat) : Int) by omega]
            exact sub_next (cn' := 0) (e := 0) (s := dn - cn) hlt HL.out HU.out HO.out HSum.out hown hbel (by rw [natv_take_succ HD.out]) (by rw [HY.out]; simp) (by omega) (by omega) (by omega)
          case measure => simp [intOf]; omega
    · have e : k = x.length := by omega
      subst e
      have hsl := Sl.of_owns hown
      have hv : natv o = a - b := by
        rw [take_all (Nat.le_refl _), HVa.out, take_all (by omega : o.length ≤ x.length), take_all hlen, HVb.out] at hsum
        have h1 := natv_lt o hou
        rw [hol] at h1
        have hab := HAB.out
        rcases (by omega : cn = 0 ∨ cn = 1) with rfl | rfl
        · omega
        · rw [Nat.mul_one] at hsum
          omega
      rw [← hol] at hsl
      have ht := trim_any _ o _ hsl hou
      rw [hol, hv] at ht
      have HT := hid ht
      clear ht hv hsl hoz hsum hou
      go_wp2_with (go_at_call 77; refine HT.out.mono ?_; rintro e w2 ⟨⟨v', rfl, hN⟩, rfl⟩)
      go_ret
      exact ⟨⟨_, rfl, hN⟩, hbel⟩
end Go.Proofs.Ytppflnkadjddiaa
