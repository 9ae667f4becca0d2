/-
  The reference's numbers: the numbers of a line.
  The text is not longer than 100000 bytes.
-/
import Derived.Test.YtmabciajhmjmeaaGreatDoorInsNum
import Derived.Test.YtmabciajhmjmeaaGreatDoorPrRead
namespace Go.Proofs.YtmabciajhmjmeaaGreatDoor
open Go.RowKit
set_option linter.unusedVariables false

theorem byte_of {s : ByteArray} {k : Nat} {c : UInt8} (h : s.data.toList[k]? = some c) (hk : k < s.size) : s[k] = c := by
  have h2 : s.data[k]? = some c := by rw [← Array.getElem?_toList]; exact h
  exact (Array.getElem?_eq_some_iff.1 h2).2
theorem valD_take {D : List UInt8} {j : Nat} {c : UInt8} (h : D[j]? = some c) : valD (D.take (j + 1)) = 10 * valD (D.take j) + (c.toNat - 48) := by
  rw [take_snoc h, valD_snoc]
theorem numsR_cons (c : UInt8) (t : List UInt8) : numsR (c :: t) = if c ≠ 32 ∨ badD (runD t) = true then none else (numsR (t.drop (runD t).length)).map fun l => valD (runD t) :: l := by rw [numsR]
/-- What numbers answers. -/
def NumPost (S : List UInt8) (w : World) (e : Ending) (w' : World) : Prop := Below w.heap.size w w' ∧
  ((numsR S = none ∧ e = .returned (.tuple #[.slice none 0 0, .bool false])) ∨
   (∃ (l : List Nat) (u : Value), numsR S = some l ∧ e = .returned (.tuple #[u, .bool true]) ∧ w'.ownsRow w.heap.size 3 1 u l.length (ints (natI l))))
set_option maxRecDepth 100000 in
set_option maxHeartbeats 2000000 in
theorem numbers_any (s : ByteArray) (w : World) (hs : s.size ≤ 100000) :
    Calls Tryz.prog 49 #[.string s] w fun e w' => NumPost s.data.toList w e w' := by
  have hsl : s.data.toList.length = s.size := by simp
  unfold NumPost
  generalize hSS : numsR s.data.toList = RR at *
  have HSS := hid hSS
  clear hSS
  go_enter Tryz.func49, Tryz.ntmps49
  go_wp2_with fail
  go_loopw [0, 4] (fun a u wr => ∃ (r : ByteArray) (D : List Nat), r.size ≤ 100000 ∧ D.length + r.size ≤ 100000 ∧ a = .string r ∧ Hid (RR = (numsR r.data.toList).map fun l => D ++ l) ∧ Hid (wr.ownsRow w.heap.size 3 1 u D.length (ints (natI D))) ∧ Hid (Below w.heap.size w wr)) (fun a _ _ => match a with | .string r => r.size | _ => 0)
  case atStart => exact ⟨s, [], hs, by simp; omega, rfl, hid (by rw [← HSS.out]; cases numsR s.data.toList <;> rfl), hid (World.ownsRow_nil _ _ _ _), hid (Below.refl _ _)⟩
  case round =>
    obtain ⟨r, D, hr, hDr, rfl, HE, HO, HB⟩ := hrel
    rename World => wk
    obtain ⟨au, cu, rfl⟩ := own_slice HO.out
    have hrl : r.data.toList.length = r.size := by simp
    cases hd : r.data.toList with
    | nil =>
      have h0 : r.size = 0 := by rw [← hrl, hd]; rfl
      have hn : numsR r.data.toList = some [] := by rw [hd, numsR]
      have HV := hid (show RR = some D by rw [HE.out, hn]; simp)
      clear hn
      have h0I : ¬ (0 : Int) < (r.size : Int) := by omega
      clear hd hrl hDr
      go_wp2
      go_ret2
      exact ⟨HB.out, .inr ⟨D, HV.out, _, rfl, HO.out⟩⟩
    | cons c t =>
      have hN := numsR_cons c t
      rw [← hd] at hN
      have HN := hid hN
      have hsz : r.size = t.length + 1 := by rw [← hrl, hd]; rfl
      have hpre := runD_pre t
      have hDl := runD_len t
      have hDt := hpre.length_le
      have HDig := hid (fun (j : Nat) (x : UInt8) (hx : (runD t)[j]? = some x) => (show t[j]? = some x ∧ 48 ≤ x.toNat ∧ x.toNat ≤ 57 by
        have h1 := runD_dig t x (List.mem_of_getElem? hx)
        unfold isDg at h1
        simp only [Bool.and_eq_true, decide_eq_true_eq] at h1
        obtain ⟨q, hq⟩ := hpre
        refine ⟨?_, h1.1, h1.2⟩
        rw [← hq, List.getElem?_append_left (lt_of_some hx)]; exact hx))
      have HNx := hid (fun (x : UInt8) (h : (runD t).length < 10) (hx : t[(runD t).length]? = some x) => (show ¬ (48 ≤ x.toNat ∧ x.toNat ≤ 57) by
        have h1 := runD_next h hx
        unfold isDg at h1
        simp only [Bool.and_eq_false_iff, decide_eq_false_iff_not] at h1
        rintro ⟨h2, h3⟩
        rcases h1 with h1 | h1
        · exact h1 h2
        · exact h1 h3))
      have HAt := hid (fun (j : Nat) (x : UInt8) (hx : t[j]? = some x) (h : j + 1 < r.size) => byte_of (s := r) (k := j + 1) (c := x) (by rw [hd]; exact hx) h)
      have hr0 : 0 < r.size := by omega
      have hb0 := byte_of (s := r) (k := 0) (c := c) (by rw [hd]; rfl) hr0
      have hr0I : (0 : Int) < (r.size : Int) := by omega
      clear hN hpre hrl
      generalize hRD : runD t = RD at *
      have HRD := hid hRD
      have hvb : ∀ j, j ≤ RD.length → valD (RD.take j) < 10 ^ 10 := fun j hj => by
        have h1 := valD_bound (RD.take j).length (RD.take j) rfl (fun x hx => by
          obtain ⟨i, hi⟩ := List.getElem?_of_mem (List.mem_of_mem_take hx)
          have := HDig.out i x hi
          simp [isDg, this.2.1, this.2.2])
        exact Nat.lt_of_lt_of_le h1 (Nat.pow_le_pow_right (by decide) (by rw [List.length_take]; omega))
      have HVb := hid hvb
      have HHd := hid hd
      clear hRD hvb hd
      go_wp2_with fail
      go_loopw [5, 6] (fun n k wr => ∃ j : Nat, j ≤ RD.length ∧ n = .int .i64 (valD (RD.take j) : Int) ∧ k = .int .i64 ((j + 1 : Nat) : Int) ∧ wk = wr) (fun _ k _ => 12 - (intOf k).toNat)
      case atStart => exact ⟨0, Nat.zero_le _, rfl, rfl, rfl⟩
      case round =>
        obtain ⟨j, hj, rfl, rfl, rfl⟩ := hrel
        by_cases hjD : j < RD.length
        · obtain ⟨x, hx⟩ := some_of_lt hjD
          obtain ⟨h1, h2, h3⟩ := HDig.out j x hx
          have hjr : j + 1 < r.size := by omega
          have hget := HAt.out j x h1 hjr
          have HX := hid (valD_take hx)
          have hv := HVb.out j (Nat.le_of_lt hjD)
          have hj11 : j + 1 < 11 := by omega
          have hx1 : (48 : Int) ≤ (x.toNat : Int) := by omega
          have hx2 : (x.toNat : Int) ≤ 57 := by omega
          have hcw : ((x.toNat : Int) - 48) % 256 = ((x.toNat - 48 : Nat) : Int) := by omega
          have hcw2 : IntKind.u8.wrap ((x.toNat : Int) - 48) = ((x.toNat - 48 : Nat) : Int) := by rw [IntKind.wrap_u8]; omega
          have hv2 : valD (RD.take j) < 10000000000 := hv
          have hd9 : x.toNat - 48 ≤ 9 := by omega
          clear hx h1 hv
          generalize valD (RD.take j) = V at *
          generalize x.toNat - 48 = Dg at *
          go_wp2
          go_roundw
          case rel => exact ⟨j + 1, by omega, by rw [HX.out]; simp, by go_num, trivial⟩
          case measure => simp [intOf]; omega
        · obtain rfl : j = RD.length := by omega
          have hE := HE.out
          have hall : RD.take RD.length = RD := List.take_length
          have hvv := HVb.out RD.length (Nat.le_refl _)
          rw [hall] at hvv ⊢
          have hvv2 : valD RD < 10000000000 := hvv
          have HB2 := hid HB.out
          obtain ⟨K, hK⟩ : ∃ K, RD.length + 1 = K := ⟨_, rfl⟩
          have hexit : ∀ (Q : Prop), (¬ (K : Int) < (r.size : Int) → Q) → (Hid (K = 11) → (K : Int) < (r.size : Int) → ¬ (K : Int) < 11 → Q) →
              (∀ (x : UInt8) (h : K < r.size), Hid (K < 11) → (K : Int) < (r.size : Int) → (K : Int) < 11 → r[K] = x → ¬ (48 : Int) ≤ (x.toNat : Int) → Q) →
              (∀ (x : UInt8) (h : K < r.size), Hid (K < 11) → (K : Int) < (r.size : Int) → (K : Int) < 11 → r[K] = x → (48 : Int) ≤ (x.toNat : Int) → ¬ (x.toNat : Int) ≤ 57 → Q) → Q := by
            intro Q q1 q2 q3 q4
            subst hK
            by_cases hs2 : r.size = RD.length + 1
            · exact q1 (by omega)
            · by_cases h10 : RD.length = 10
              · exact q2 (hid (by omega)) (by omega) (by omega)
              · obtain ⟨x, hx⟩ := some_of_lt (show RD.length < t.length by omega)
                have h5 := HNx.out x (by omega) hx
                have h7 : RD.length + 1 < r.size := by omega
                have h8 := HAt.out RD.length x hx h7
                rcases Nat.lt_or_ge x.toNat 48 with h6 | h6
                · exact q3 x h7 (hid (by omega)) (by omega) (by omega) h8 (by omega)
                · exact q4 x h7 (hid (by omega)) (by omega) (by omega) h8 (by omega) (by omega)
          have hcase : ∀ (Q : Prop), (Hid (RR = none) → ((c.toNat : Int) != 32) = true → Q) →
              (Hid (RR = none) → ((c.toNat : Int) != 32) = false → Hid (K = 1) → ((K : Int) == 1) = true → Q) →
              (Hid (RR = none) → ((c.toNat : Int) != 32) = false → Hid (10 < K) → ((K : Int) == 1) = false → (10 : Int) < (K : Int) → Q) →
              (∀ (y : UInt8) (h : 1 < r.size), Hid (RR = none) → ((c.toNat : Int) != 32) = false → Hid (K ≤ 10) → ((K : Int) == 1) = false → ¬ (10 : Int) < (K : Int) → r[1] = y → ((y.toNat : Int) == 48) = true → (1 : Int) < (r.size : Int) → (2 : Int) < (K : Int) → Q) →
              (∀ (y : UInt8) (h : 1 < r.size), Hid (RR = ((numsR (t.drop RD.length)).map fun l => valD RD :: l).map (fun l => D ++ l)) → ((c.toNat : Int) != 32) = false → Hid (K ≤ 10) → ((K : Int) == 1) = false → ¬ (10 : Int) < (K : Int) → r[1] = y → ((y.toNat : Int) == 48) = true → (1 : Int) < (r.size : Int) → ¬ (2 : Int) < (K : Int) → Q) →
              (∀ (y : UInt8) (h : 1 < r.size), Hid (RR = ((numsR (t.drop RD.length)).map fun l => valD RD :: l).map (fun l => D ++ l)) → ((c.toNat : Int) != 32) = false → Hid (K ≤ 10) → ((K : Int) == 1) = false → ¬ (10 : Int) < (K : Int) → r[1] = y → ((y.toNat : Int) == 48) = false → (1 : Int) < (r.size : Int) → Q) → Q := by
            intro Q q1 q2 q3 q4 q5 q6
            have hn := HN.out
            subst hK
            by_cases hc : c = 32
            · have hc2 : ((c.toNat : Int) != 32) = false := by rw [hc]; rfl
              by_cases h0 : RD.length = 0
              · have : RD = [] := List.length_eq_zero_iff.1 h0
                exact q2 (hid (by rw [hE, hn, if_pos (.inr (by rw [this]; rfl))]; rfl)) hc2 (hid (by omega)) (by rw [beq_iff_eq]; omega)
              · have hk1 : (((RD.length + 1 : Nat) : Int) == 1) = false := by rw [beq_eq_false_iff_ne]; omega
                by_cases h10 : 10 ≤ RD.length
                · exact q3 (hid (by rw [hE, hn, if_pos (.inr (by simp [badD, h10]))]; rfl)) hc2 (hid (by omega)) hk1 (by omega)
                · obtain ⟨y, hy⟩ := some_of_lt (show 0 < RD.length by omega)
                  have hne : RD ≠ [] := fun e => h0 (by rw [e]; rfl)
                  have hh : RD.head? = some y := by rw [List.head?_eq_getElem?]; exact hy
                  have h1s : 1 < r.size := by omega
                  have hy1 : r[1] = y := HAt.out 0 y (HDig.out 0 y hy).1 h1s
                  by_cases hy48 : y.toNat = 48
                  · have hyy : y = 48 := UInt8.toNat_inj.1 (by rw [hy48]; rfl)
                    have hyI : ((y.toNat : Int) == 48) = true := by rw [beq_iff_eq]; omega
                    by_cases h2 : 2 ≤ RD.length
                    · exact q4 y h1s (hid (by rw [hE, hn, if_pos (.inr (by simp [badD, hh, hyy, h2]))]; rfl)) hc2 (hid (by omega)) hk1 (by omega) hy1 hyI (by omega) (by omega)
                    · have hb : badD RD = false := by simp [badD, hne, h10, h2]
                      exact q5 y h1s (hid (by rw [hE, hn, if_neg (by simp [hc, hb])])) hc2 (hid (by omega)) hk1 (by omega) hy1 hyI (by omega) (by omega)
                  · have hyy : y ≠ 48 := fun e => hy48 (by rw [e]; rfl)
                    have hyI : ((y.toNat : Int) == 48) = false := by rw [beq_eq_false_iff_ne]; omega
                    have hb : badD RD = false := by simp [badD, hne, h10, hh, hyy]
                    exact q6 y h1s (hid (by rw [hE, hn, if_neg (by simp [hc, hb])])) hc2 (hid (by omega)) hk1 (by omega) hy1 hyI (by omega)
            · exact q1 (hid (by rw [hE, hn, if_pos (.inl hc)]; rfl)) (by rw [bne_iff_ne]; intro e; exact hc (UInt8.toNat_inj.1 (by have e2 : (32 : UInt8).toNat = 32 := rfl; omega)))
          have hbs := HB2.out.size
          have hle : K ≤ r.size := by omega
          have hleI : (K : Int) ≤ (r.size : Int) := by omega
          have HX1 := hid (show (r.extract K r.size).data.toList = t.drop RD.length by rw [← hK, ByteArray.data_extract, Array.toList_extract, List.extract_eq_take_drop, HHd.out, List.drop_succ_cons, List.take_of_length_le (by rw [List.length_drop]; omega)])
          have HX2 := hid (show (r.extract K r.size).size = r.size - K by rw [ByteArray.size_extract]; omega)
          have HK1 := hid (show 1 ≤ K by omega)
          rw [hK]
          clear HN hE HAt HDig HNx HHd hDl hDt hall hvv hsz hj hjD hK HE
          refine hcase _ (fun b1 m1 => ?_) (fun b1 m1 hz m2 => ?_) (fun b1 m1 hz m2 m3 => ?_) (fun y h1 b1 m1 hz m2 m3 k7 m4 m6 m5 => ?_) (fun y h1 b1 m1 hz m2 m3 k7 m4 m6 m5 => ?_) (fun y h1 b1 m1 hz m2 m3 k7 m4 m6 => ?_) <;> clear hcase
          · skip
            generalize valD RD = V at *
            refine hexit _ (fun k1 => ?_) (fun hg k1 k2 => ?_) (fun x h hg k1 k2 k3 k4 => ?_) (fun x h hg k1 k2 k3 k4 k5 => ?_) <;> clear hexit
            · go_wp2
              go_ret2
              exact ⟨HB2.out, .inl ⟨b1.out, rfl⟩⟩
            · go_wp2
              go_ret2
              exact ⟨HB2.out, .inl ⟨b1.out, rfl⟩⟩
            · go_wp2
              go_ret2
              exact ⟨HB2.out, .inl ⟨b1.out, rfl⟩⟩
            · go_wp2
              go_ret2
              exact ⟨HB2.out, .inl ⟨b1.out, rfl⟩⟩
          · skip
            generalize valD RD = V at *
            refine hexit _ (fun k1 => ?_) (fun hg k1 k2 => ?_) (fun x h hg k1 k2 k3 k4 => ?_) (fun x h hg k1 k2 k3 k4 k5 => ?_) <;> clear hexit
            · go_wp2
              go_ret2
              exact ⟨HB2.out, .inl ⟨b1.out, rfl⟩⟩
            · exfalso; have h1 := hz.out; have h2 := hg.out; omega
            · go_wp2
              go_ret2
              exact ⟨HB2.out, .inl ⟨b1.out, rfl⟩⟩
            · go_wp2
              go_ret2
              exact ⟨HB2.out, .inl ⟨b1.out, rfl⟩⟩
          · skip
            generalize valD RD = V at *
            refine hexit _ (fun k1 => ?_) (fun hg k1 k2 => ?_) (fun x h hg k1 k2 k3 k4 => ?_) (fun x h hg k1 k2 k3 k4 k5 => ?_) <;> clear hexit
            · go_wp2
              go_ret2
              exact ⟨HB2.out, .inl ⟨b1.out, rfl⟩⟩
            · go_wp2
              go_ret2
              exact ⟨HB2.out, .inl ⟨b1.out, rfl⟩⟩
            · exfalso; have h1 := hz.out; have h2 := hg.out; omega
            · exfalso; have h1 := hz.out; have h2 := hg.out; omega
          · skip
            generalize valD RD = V at *
            refine hexit _ (fun k1 => ?_) (fun hg k1 k2 => ?_) (fun x h hg k1 k2 k3 k4 => ?_) (fun x h hg k1 k2 k3 k4 k5 => ?_) <;> clear hexit
            · go_wp2
              go_ret2
              exact ⟨HB2.out, .inl ⟨b1.out, rfl⟩⟩
            · exfalso; have h1 := hz.out; have h2 := hg.out; omega
            · go_wp2
              go_ret2
              exact ⟨HB2.out, .inl ⟨b1.out, rfl⟩⟩
            · go_wp2
              go_ret2
              exact ⟨HB2.out, .inl ⟨b1.out, rfl⟩⟩
          · have HV2 := hid (show RR = (numsR (t.drop RD.length)).map fun l => (D ++ [valD RD]) ++ l by rw [b1.out]; cases numsR (t.drop RD.length) <;> simp)
            clear b1
            generalize valD RD = V at *
            refine hexit _ (fun k1 => ?_) (fun hg k1 k2 => ?_) (fun x h hg k1 k2 k3 k4 => ?_) (fun x h hg k1 k2 k3 k4 k5 => ?_) <;> clear hexit
            · go_wp2_with (at_builtin; refine wpList_push _ rfl _ _ 23 rfl w.heap.size 3 (.int .i64 0) 1 8 Tryz.underlying23 Tryz.infoInt rfl (by decide) _ _ _ rfl HO.out #[.int .i64 (V : Int)] rfl (oneCell_int _ _) rfl (by unfold maxLen; omega) (by omega) hbs ?_; intro g5 gc5 w5 hown5 hg5 hb5; have HO5 := hid hown5; have HB5 := hid (HB2.out.trans hb5); clear hown5 hg5 hb5)
              go_roundw
              case rel => exact ⟨_, D ++ [V], by rw [HX2.out]; omega, by rw [List.length_append, List.length_singleton, HX2.out]; have := HK1.out; omega, rfl, hid (by rw [HX1.out]; exact HV2.out), hid (by rw [natI_snoc, List.length_append]; exact HO5.out), HB5⟩
              case measure => show (r.extract K r.size).size < r.size; rw [HX2.out]; have := HK1.out; omega
            · exfalso; have h1 := hz.out; have h2 := hg.out; omega
            · go_wp2_with (at_builtin; refine wpList_push _ rfl _ _ 23 rfl w.heap.size 3 (.int .i64 0) 1 8 Tryz.underlying23 Tryz.infoInt rfl (by decide) _ _ _ rfl HO.out #[.int .i64 (V : Int)] rfl (oneCell_int _ _) rfl (by unfold maxLen; omega) (by omega) hbs ?_; intro g5 gc5 w5 hown5 hg5 hb5; have HO5 := hid hown5; have HB5 := hid (HB2.out.trans hb5); clear hown5 hg5 hb5)
              go_roundw
              case rel => exact ⟨_, D ++ [V], by rw [HX2.out]; omega, by rw [List.length_append, List.length_singleton, HX2.out]; have := HK1.out; omega, rfl, hid (by rw [HX1.out]; exact HV2.out), hid (by rw [natI_snoc, List.length_append]; exact HO5.out), HB5⟩
              case measure => show (r.extract K r.size).size < r.size; rw [HX2.out]; have := HK1.out; omega
            · go_wp2_with (at_builtin; refine wpList_push _ rfl _ _ 23 rfl w.heap.size 3 (.int .i64 0) 1 8 Tryz.underlying23 Tryz.infoInt rfl (by decide) _ _ _ rfl HO.out #[.int .i64 (V : Int)] rfl (oneCell_int _ _) rfl (by unfold maxLen; omega) (by omega) hbs ?_; intro g5 gc5 w5 hown5 hg5 hb5; have HO5 := hid hown5; have HB5 := hid (HB2.out.trans hb5); clear hown5 hg5 hb5)
              go_roundw
              case rel => exact ⟨_, D ++ [V], by rw [HX2.out]; omega, by rw [List.length_append, List.length_singleton, HX2.out]; have := HK1.out; omega, rfl, hid (by rw [HX1.out]; exact HV2.out), hid (by rw [natI_snoc, List.length_append]; exact HO5.out), HB5⟩
              case measure => show (r.extract K r.size).size < r.size; rw [HX2.out]; have := HK1.out; omega
          · have HV2 := hid (show RR = (numsR (t.drop RD.length)).map fun l => (D ++ [valD RD]) ++ l by rw [b1.out]; cases numsR (t.drop RD.length) <;> simp)
            clear b1
            generalize valD RD = V at *
            refine hexit _ (fun k1 => ?_) (fun hg k1 k2 => ?_) (fun x h hg k1 k2 k3 k4 => ?_) (fun x h hg k1 k2 k3 k4 k5 => ?_) <;> clear hexit
            · go_wp2_with (at_builtin; refine wpList_push _ rfl _ _ 23 rfl w.heap.size 3 (.int .i64 0) 1 8 Tryz.underlying23 Tryz.infoInt rfl (by decide) _ _ _ rfl HO.out #[.int .i64 (V : Int)] rfl (oneCell_int _ _) rfl (by unfold maxLen; omega) (by omega) hbs ?_; intro g5 gc5 w5 hown5 hg5 hb5; have HO5 := hid hown5; have HB5 := hid (HB2.out.trans hb5); clear hown5 hg5 hb5)
              go_roundw
              case rel => exact ⟨_, D ++ [V], by rw [HX2.out]; omega, by rw [List.length_append, List.length_singleton, HX2.out]; have := HK1.out; omega, rfl, hid (by rw [HX1.out]; exact HV2.out), hid (by rw [natI_snoc, List.length_append]; exact HO5.out), HB5⟩
              case measure => show (r.extract K r.size).size < r.size; rw [HX2.out]; have := HK1.out; omega
            · exfalso; have h1 := hz.out; have h2 := hg.out; omega
            · go_wp2_with (at_builtin; refine wpList_push _ rfl _ _ 23 rfl w.heap.size 3 (.int .i64 0) 1 8 Tryz.underlying23 Tryz.infoInt rfl (by decide) _ _ _ rfl HO.out #[.int .i64 (V : Int)] rfl (oneCell_int _ _) rfl (by unfold maxLen; omega) (by omega) hbs ?_; intro g5 gc5 w5 hown5 hg5 hb5; have HO5 := hid hown5; have HB5 := hid (HB2.out.trans hb5); clear hown5 hg5 hb5)
              go_roundw
              case rel => exact ⟨_, D ++ [V], by rw [HX2.out]; omega, by rw [List.length_append, List.length_singleton, HX2.out]; have := HK1.out; omega, rfl, hid (by rw [HX1.out]; exact HV2.out), hid (by rw [natI_snoc, List.length_append]; exact HO5.out), HB5⟩
              case measure => show (r.extract K r.size).size < r.size; rw [HX2.out]; have := HK1.out; omega
            · go_wp2_with (at_builtin; refine wpList_push _ rfl _ _ 23 rfl w.heap.size 3 (.int .i64 0) 1 8 Tryz.underlying23 Tryz.infoInt rfl (by decide) _ _ _ rfl HO.out #[.int .i64 (V : Int)] rfl (oneCell_int _ _) rfl (by unfold maxLen; omega) (by omega) hbs ?_; intro g5 gc5 w5 hown5 hg5 hb5; have HO5 := hid hown5; have HB5 := hid (HB2.out.trans hb5); clear hown5 hg5 hb5)
              go_roundw
              case rel => exact ⟨_, D ++ [V], by rw [HX2.out]; omega, by rw [List.length_append, List.length_singleton, HX2.out]; have := HK1.out; omega, rfl, hid (by rw [HX1.out]; exact HV2.out), hid (by rw [natI_snoc, List.length_append]; exact HO5.out), HB5⟩
              case measure => show (r.extract K r.size).size < r.size; rw [HX2.out]; have := HK1.out; omega
end Go.Proofs.YtmabciajhmjmeaaGreatDoor
