/-
  grooveref33.Sorted: words in order, each once.
  No condition beyond the words lying in a slice, and being few.
-/
import Derived.Test.YtalklhjmnoodeaaRefPre
import Derived.Test.YtalklhjmnoodeaaPBuildA
import Derived.Deep.RegionHeld3
import Derived.Deep.RegionLaw
namespace Go.Proofs.Ytalklhjmnoodeaa
open Go.RowKit Go.Deep
set_option linter.unusedVariables false
set_option linter.unusedSimpArgs false

theorem strs_append (L M : List ByteArray) : strs (L ++ M) = strs L ++ strs M := by simp [strs]
theorem strs_one (L : List ByteArray) : ∀ u ∈ strs L, u.oneCell' = true := by
  intro u hu
  obtain ⟨x, _, rfl⟩ := List.mem_map.1 hu
  rfl
/-- A list of words put behind a row that the call owns. -/
theorem run_app {w : World} {base : Nat} {v : Value} {L M : List ByteArray} {x : Value} (ty : TypeId) (hown : w.ownsRow base 9 1 v L.length (strs L)) (hS : Sl 1 w x M.length (strs M)) (hb : L.length + M.length ≤ 1000000) (hbase : base ≤ w.heap.size) :
    ∃ v' w', (Builtin.append_ #[22, 22] ty #[v, x]).run Try.prog w = .ok v' w' ∧ w'.ownsRow base 9 1 v' (L ++ M).length (strs (L ++ M)) ∧ w.grownBy w' v.ownBlock := by
  obtain ⟨i0, hi, hz0, hz1, hz2⟩ := info_parts Try.infoString
  obtain ⟨ao, cap, rfl, hl, h1, h2, h3⟩ := hS
  rw [List.length_append, strs_append]
  cases ao with
  | none =>
    have hm : M.length = 0 := by
      rcases h3 with h | ⟨b, o, h, _⟩
      · exact h
      · cases h
    have hM : M = [] := List.length_eq_zero_iff.1 hm
    subst hM
    refine ⟨v, w, ?_, by simpa [strs] using hown, ⟨rfl, rfl, rfl, Nat.le_refl _, fun _ _ _ => rfl⟩⟩
    rcases hown.2 with ⟨rfl, _⟩ | ⟨g, c, cur, rfl, _, _, hc, _⟩
    · simp [Builtin.append_, run_underlying Try.underlying22, sizeOf, typeInfo, hi, Builtin.lenOf, Builtin.firstCells]
    · simp [Builtin.append_, run_underlying Try.underlying22, sizeOf, typeInfo, hi, Builtin.lenOf, Builtin.firstCells, hc, storeCells]
  | some ad =>
    have hcells : ∀ j u, (strs M)[j]? = some u → w.cell? (ad.add j) = some u := by
      intro j u hu
      rcases h3 with h | ⟨b, o, h, hc⟩
      · have := lt_of_some hu
        rw [strs_len] at this
        omega
      · cases h
        rw [Addr.add_lit]
        exact hc j u hu
    obtain ⟨v', w', hr, g1, g2, _, _⟩ := run_append_own_at (P := Try.prog) w base 22 ty 9 i0 (.string ⟨#[]⟩) 1 16 Try.underlying22 hi hz0 hz1 hz2 rfl (by decide) v L.length (strs L) hown ad M.length cap (strs M) (by rw [strs_len]; simp) hcells (strs_one M) (by unfold maxLen; omega) (by omega) hbase
    exact ⟨v', w', hr, g1, g2⟩
theorem step_app {ops : Array Oper} {o : Oper} {a : Act} {K : Act → World → Prop} {Q : Exit → Act → World → Prop} {E : Prop} {W : World} (hgd : o.guard = none) (s x : Operand)
    (ho : o.op = .call { callee := .builtin .append, args := #[s, x], argTypes := #[22, 22] }) (base : Nat) (v xv : Value) (L M : List ByteArray) (hs : a.eval s = v) (hx : a.eval x = xv)
    (hown : W.ownsRow base 9 1 v L.length (strs L)) (hS : Sl 1 W xv M.length (strs M)) (hb : L.length + M.length ≤ 1000000) (hbase : base ≤ W.heap.size)
    (h : ∀ v' w', w'.ownsRow base 9 1 v' (L ++ M).length (strs (L ++ M)) → W.grownBy w' v.ownBlock → K (a.put o.dst v') w') :
    if Region.wanted o (yielded ops a.tmps) = true then Oper.wp Try.prog o a W K Q else E := by
  rw [if_pos (by simp [Region.wanted, hgd])]
  obtain ⟨v', w', hr, h1, h2⟩ := run_app (w := W) o.type hown hS hb hbase
  unfold Oper.wp execOp
  simp only [ho, resolve, invoke, builtin, Sem.run_bind, Sem.run_pure, Result.andThen_ok, List.map_toArray, List.map_cons, List.map_nil, hs, hx, hr]
  exact h v' w' h1 h2
theorem own_grown {W w' : World} {base B : Nat} {v : Value} {n : Nat} {xs : List Value} (ho : W.ownsRow base 9 1 v n xs) (hg : W.grownBy w' v.ownBlock) (hB : B ≤ base) (hs : base ≤ W.heap.size) : Below B W w' :=
  (Below.refl B W).grown hg (by omega) fun k hk => by have := (own_block ho hk).1; omega
theorem insW_skip {L : List ByteArray} {x : ByteArray} {j : Nat} (h : ∀ i < j, ∀ y, L[i]? = some y → lessW y x = true) (hj : j ≤ L.length) : insW L x = L.take j ++ insW (L.drop j) x := by
  induction L generalizing j with
  | nil => simp at hj; subst hj; rfl
  | cons y r ih =>
    cases j with
    | zero => rfl
    | succ j =>
      have hy := h 0 (by omega) y rfl
      rw [insW, if_pos hy, List.take_succ_cons, List.drop_succ_cons, List.cons_append]
      rw [ih (j := j) (fun i hi z hz => h (i + 1) (by omega) z (by rw [List.getElem?_cons_succ]; exact hz)) (by rw [List.length_cons] at hj; omega)]
theorem insW_here {L : List ByteArray} {x y : ByteArray} {j : Nat} (h : ∀ i < j, ∀ y, L[i]? = some y → lessW y x = true) (hy : L[j]? = some y) (hn : lessW y x = false) : insW L x = if y = x then L else L.take j ++ [x] ++ L.drop j := by
  have hj := lt_of_some hy
  rw [insW_skip h (by omega), drop_cons hy, insW, if_neg (by simp [hn])]
  split
  · rw [← drop_cons hy, List.take_append_drop]
  · simp
theorem insW_end {L : List ByteArray} {x : ByteArray} (h : ∀ i < L.length, ∀ y, L[i]? = some y → lessW y x = true) : insW L x = L.take L.length ++ [x] ++ L.drop L.length := by
  rw [insW_skip h (Nat.le_refl _), List.drop_length]
  simp [insW]
theorem Sl.takeS {w : World} {ao : Option Addr} {n c : Nat} {L : List ByteArray} (h : Sl 1 w (.slice ao n c) L.length (strs L)) {j : Nat} (hj : j ≤ L.length) : Sl 1 w (.slice ao j c) (L.take j).length (strs (L.take j)) := by
  obtain ⟨ao', c', hv, h1, h2, h3, h4⟩ := h
  simp only [Value.slice.injEq] at hv
  obtain ⟨rfl, _, rfl⟩ := hv
  have e : (L.take j).length = j := by rw [List.length_take]; omega
  refine ⟨ao, c, by rw [e], by rw [strs_len]; simp, by omega, h3, ?_⟩
  rcases h4 with h4 | ⟨b, o, hb, h5⟩
  · left; omega
  · refine .inr ⟨b, o, hb, fun k u hk => h5 k u ?_⟩
    have hl := lt_of_some hk
    rw [strs_len] at hl
    obtain ⟨y, hy⟩ := some_of_lt hl
    rw [strs_get hy] at hk
    rw [List.getElem?_take_of_lt (by omega)] at hy
    rw [strs_get hy]; exact hk
theorem Sl.dropS {w : World} {ao A : Option Addr} {n c : Nat} {L : List ByteArray} (h : Sl 1 w (.slice ao n c) L.length (strs L)) {j : Nat} (hj : j ≤ L.length) (hA : j = L.length ∨ ∀ b o, ao = some ⟨b, o, none⟩ → A = some ⟨b, o + j, none⟩) : Sl 1 w (.slice A (n - j) (c - j)) (L.drop j).length (strs (L.drop j)) := by
  obtain ⟨ao', c', hv, h1, h2, h3, h4⟩ := h
  simp only [Value.slice.injEq] at hv
  obtain ⟨rfl, rfl, rfl⟩ := hv
  refine ⟨A, c - j, by rw [List.length_drop], by rw [strs_len]; simp, by rw [List.length_drop]; omega, by omega, ?_⟩
  rcases hA with hA | hA
  · left; rw [List.length_drop]; omega
  · rcases h4 with h4 | ⟨b, o, hb, h5⟩
    · left; rw [List.length_drop]; omega
    · refine .inr ⟨b, o + j, hA b o hb, fun k u hk => ?_⟩
      have hl := lt_of_some hk
      rw [strs_len] at hl
      obtain ⟨y, hy⟩ := some_of_lt hl
      rw [strs_get hy] at hk
      rw [List.getElem?_drop] at hy
      rw [show o + j + k = o + (j + k) by omega]
      exact h5 (j + k) u (by rw [strs_get hy]; exact hk)

theorem lit_at {W : World} {b : Nat} {x : ByteArray} (h : W.heap[b]? = some (.cells #[.string x] 9 (0, 0))) : Sl 1 W (.slice (some ⟨b, 0, none⟩) 1 1) [x].length (strs [x]) := by
  refine ⟨_, _, rfl, rfl, Nat.le_refl _, by omega, .inr ⟨b, 0, rfl, fun j y hj => ?_⟩⟩
  have hl := lt_of_some hj
  simp only [strs, List.map_cons, List.map_nil, List.length_cons, List.length_nil] at hl
  have : j = 0 := by omega
  subst this
  simp only [strs, List.map_cons, List.map_nil, List.getElem?_cons_zero, Option.some.injEq] at hj
  subst hj
  rw [cell_of_row _ b 0 _ _ _ h]
  rfl
theorem Sl.emptyS (w : World) (ao : Option Addr) (c : Nat) (hc : c ≤ 9223372036854775807) : Sl 1 w (.slice ao 0 c) ([] : List ByteArray).length (strs []) := ⟨ao, c, rfl, rfl, by simp, hc, .inl rfl⟩

set_option maxRecDepth 100000 in
set_option maxHeartbeats 4000000 in
theorem rsorted_any (v : Value) (T : List ByteArray) (w : World) (hl : Sl 1 w v T.length (strs T)) (hT : T.length ≤ 100000) :
    Calls Try.prog 81 #[v] w fun e w' => ∃ u, e = .returned u ∧ Sl 1 w' u (sortW T).length (strs (sortW T)) ∧ Below w.heap.size w w' := by
  have HL := hid hl
  obtain ⟨ao, cap, rfl, _, hl1, hl2, hl3⟩ := hl
  clear hl3
  go_enter Try.func81, Try.ntmps81
  go_wp2_with fail
  go_loopw [4, 3] (fun i u wr => ∃ k : Nat, k ≤ T.length ∧ i = .int .i64 k ∧ Below w.heap.size w wr ∧ ∃ L : List ByteArray, L.length ≤ k ∧ Sl 1 wr u L.length (strs L) ∧ Hid (L = (T.take k).foldl insW [])) (fun i _ _ => T.length - (intOf i).toNat)
  case atStart => exact ⟨0, Nat.zero_le _, rfl, Below.refl _ _, [], Nat.le_refl _, Sl.nil 1 w, hid rfl⟩
  case round =>
    obtain ⟨i, hi, rfl, hb, L, hL, hS, HF⟩ := hrel
    rename World => wm
    have HB := hid hb
    have HS := hid hS
    obtain ⟨au, cu, rfl, _, hcu1, hcu2, _⟩ := id hS
    clear hb hS
    by_cases hlt : i < T.length
    · obtain ⟨x, hx⟩ := some_of_lt hlt
      have HX := hid hx
      have HF2 := hid (show insW L x = (T.take (i + 1)).foldl insW [] by rw [take_snoc hx, List.foldl_append, ← HF.out]; rfl)
      clear hx HF
      go_wp2_with fail
      go_loopw [5] (fun jv wr => ∃ j : Nat, j ≤ L.length ∧ jv = .int .i64 j ∧ Dr wm wr ∧ Hid (∀ m < j, ∀ y, L[m]? = some y → lessW y x = true)) (fun jv _ => L.length - (intOf jv).toNat)
      case atStart => exact ⟨0, Nat.zero_le _, rfl, Dr.refl _, hid (fun m h => by omega)⟩
      case round =>
        obtain ⟨j, hj, rfl, hD, HK⟩ := hrel
        have HD := hid hD
        obtain ⟨bx, ox, rfl, cx⟩ := ((HL.out.below HB.out).dr hD).cell (strs_get HX.out)
        clear hD
        by_cases hjl : j < L.length
        · obtain ⟨y, hy⟩ := some_of_lt hjl
          obtain ⟨by_, oy, rfl, cy⟩ := (HS.out.dr HD.out).cell (strs_get hy)
          have HY := hid hy
          clear hy
          have HLs := hid (fun X => rless_any y x X)
          cases hc : lessW y x
          · rw [hc] at HLs
            have HI := hid (insW_here HK.out HY.out hc)
            clear hc
            go_upto_region 6 with fail
            go_quiet ((go_at_call 103; exact quietS (HLs.out _)))
            have HDq := hid (HD.out.drewN nq)
            have cx : (wr.drewN nq).cell? ⟨bx, ox + i, none⟩ = some (.string x) := cx
            have cy : (wr.drewN nq).cell? ⟨by_, oy + j, none⟩ = some (.string y) := cy
            generalize wr.drewN nq = wq at *
            go_wp2_with fail
            by_cases e : y = x
            · have hb : (y.toList == x.toList) = true := by rw [e]; simp
              have HI2 := hid (HI.out.trans (if_pos e))
              clear e
              go_quiet (fail)
              clear cx cy hb
              go_wp2
              go_roundw
              case rel => exact ⟨i + 1, by omega, by go_num, bel_step HB.out ((HDq.out.drewN _).below _), L, by omega, HS.out.dr (HDq.out.drewN _), hid (by rw [← HF2.out, HI2.out])⟩
              case measure => simp [intOf]; omega
            · have hb : (y.toList == x.toList) = false := by
                rw [beq_eq_false_iff_ne, Lib.toList_data, Lib.toList_data]
                exact fun h => e (ba_ext h)
              have HI2 := hid (HI.out.trans (if_neg e))
              clear e
              go_quiet (fail)
              have HDr := hid (HDq.out.drewN nq)
              have cx : (wq.drewN nq).cell? ⟨bx, ox + i, none⟩ = some (.string x) := cx
              clear cy hb HDq
              generalize wq.drewN nq = wz at *
              go_wp2_with fail
              have HSz := hid (HS.out.dr HDr.out)
              have hcj : ¬ cu = j := by omega
              have hjn : j ≤ cu := by omega
              refine wp_region_held_drew (S := (fun w' => w'.cell? ⟨bx, ox + i, none⟩ = some (.string x))) (by kernel_rfl) cx (fun hHeld => ?_)
              have HSd := hid (HSz.out.below (below_drewN (Below.refl _ _) 1))
              have HDd := hid (show Below wm.heap.size wm wz.drew from (HDr.out.below _).trans (below_drewN (Below.refl _ _) 1))
              change wz.drew.cell? ⟨bx, ox + i, none⟩ = some (.string x) at hHeld
              change Hid (Sl 1 wz.drew _ _ _) at HSd
              generalize wz.drew = wd at *
              have hbx := World.block_lt_of_cell? wd _ hHeld
              change bx < wd.heap.size at hbx
              refine wpAnyH_take (i := 1) (v := .slice (some ⟨by_, oy, none⟩) L.length cu) rfl (by kernel_rfl) (by kernel_rfl) (by kernel_rfl) (fun _ _ _ h => h) (Or.inl ⟨by rfl, fun w hSw => ?_⟩) (by assumption) ?_
              · (try dsimp only at hSw); go_simp
              try simp only [Act.put, List.setIfInBounds_toArray, List.set_cons_zero, List.set_cons_succ, List.getElem_toArray, List.getElem_cons_zero, List.getElem_cons_succ]
              refine wpAnyH_take (i := 2) (v := .int .i64 (j : Int)) rfl (by kernel_rfl) (by kernel_rfl) (by kernel_rfl) (fun _ _ _ h => h) (Or.inl ⟨by rfl, fun w hSw => ?_⟩) (by assumption) ?_
              · (try dsimp only at hSw); go_simp
              try simp only [Act.put, List.setIfInBounds_toArray, List.set_cons_zero, List.set_cons_succ, List.getElem_toArray, List.getElem_cons_zero, List.getElem_cons_succ]
              refine wpAnyH_take (i := 3) (v := .slice (some ⟨by_, oy, none⟩) (j) cu) rfl (by kernel_rfl) (by kernel_rfl) (by kernel_rfl) (fun _ _ _ h => h) (Or.inl ⟨by rfl, fun w hSw => ?_⟩) (by assumption) ?_
              · (try dsimp only at hSw); go_simp
              try simp only [Act.put, List.setIfInBounds_toArray, List.set_cons_zero, List.set_cons_succ, List.getElem_toArray, List.getElem_cons_zero, List.getElem_cons_succ]
              refine wpAnyH_take (i := 5) (v := .slice (some ⟨bx, ox, none⟩) T.length cap) rfl (by kernel_rfl) (by kernel_rfl) (by kernel_rfl) (fun _ _ _ h => h) (Or.inl ⟨by rfl, fun w hSw => ?_⟩) (by assumption) ?_
              · (try dsimp only at hSw); go_simp
              try simp only [Act.put, List.setIfInBounds_toArray, List.set_cons_zero, List.set_cons_succ, List.getElem_toArray, List.getElem_cons_zero, List.getElem_cons_succ]
              refine wpAnyH_take (i := 6) (v := .int .i64 (i : Int)) rfl (by kernel_rfl) (by kernel_rfl) (by kernel_rfl) (fun _ _ _ h => h) (Or.inl ⟨by rfl, fun w hSw => ?_⟩) (by assumption) ?_
              · (try dsimp only at hSw); go_simp
              try simp only [Act.put, List.setIfInBounds_toArray, List.set_cons_zero, List.set_cons_succ, List.getElem_toArray, List.getElem_cons_zero, List.getElem_cons_succ]
              refine wpAnyH_take (i := 7) (v := .pointer (some ⟨bx, ox + i, none⟩)) rfl (by kernel_rfl) (by kernel_rfl) (by kernel_rfl) (fun _ _ _ h => h) (Or.inl ⟨by rfl, fun w hSw => ?_⟩) (by assumption) ?_
              · (try dsimp only at hSw); go_simp
              try simp only [Act.put, List.setIfInBounds_toArray, List.set_cons_zero, List.set_cons_succ, List.getElem_toArray, List.getElem_cons_zero, List.getElem_cons_succ]
              refine wpAnyH_take (i := 8) (v := .string x) rfl (by kernel_rfl) (by kernel_rfl) (by kernel_rfl) (fun _ _ _ h => h) (Or.inl ⟨by rfl, fun w hSw => ?_⟩) (by assumption) ?_
              · (try dsimp only at hSw); go_simp
              try simp only [Act.put, List.setIfInBounds_toArray, List.set_cons_zero, List.set_cons_succ, List.getElem_toArray, List.getElem_cons_zero, List.getElem_cons_succ]
              refine wpAnyH_take (i := 11) (v := .slice (some ⟨by_, oy, none⟩) L.length cu) rfl (by kernel_rfl) (by kernel_rfl) (by kernel_rfl) (fun _ _ _ h => h) (Or.inl ⟨by rfl, fun w hSw => ?_⟩) (by assumption) ?_
              · (try dsimp only at hSw); go_simp
              try simp only [Act.put, List.setIfInBounds_toArray, List.set_cons_zero, List.set_cons_succ, List.getElem_toArray, List.getElem_cons_zero, List.getElem_cons_succ]
              refine wpAnyH_take (i := 12) (v := .int .i64 (j : Int)) rfl (by kernel_rfl) (by kernel_rfl) (by kernel_rfl) (fun _ _ _ h => h) (Or.inl ⟨by rfl, fun w hSw => ?_⟩) (by assumption) ?_
              · (try dsimp only at hSw); go_simp
              try simp only [Act.put, List.setIfInBounds_toArray, List.set_cons_zero, List.set_cons_succ, List.getElem_toArray, List.getElem_cons_zero, List.getElem_cons_succ]
              refine wpAnyH_take (i := 13) (v := .slice (some ⟨by_, oy + j, none⟩) (L.length - j) (cu - j)) rfl (by kernel_rfl) (by kernel_rfl) (by kernel_rfl) (fun _ _ _ h => h) (Or.inl ⟨by rfl, fun w hSw => ?_⟩) (by assumption) ?_
              · (try dsimp only at hSw); go_simp
              try simp only [Act.put, List.setIfInBounds_toArray, List.set_cons_zero, List.set_cons_succ, List.getElem_toArray, List.getElem_cons_zero, List.getElem_cons_succ]
              have hT := Sl.takeS HSd.out (show j ≤ L.length by omega)
              have hDp := Sl.dropS (A := some ⟨by_, oy + j, none⟩) HSd.out (show j ≤ L.length by omega) (.inr fun b o h => by cases h; rfl)
              refine wpAnyH_ready (rs := [0, 9]) (by kernel_rfl) (by simp) (AllReadyH.cons rfl (fun K hK => ?_) (AllReadyH.cons rfl (fun K hK => ?_) AllReadyH.nil))
              · have hbA := (bel_alloc wd (.cells #[] 9))
                have hoA := own_empty wd 9 1
                go_simp
                refine hK.out _ _ (((hbA).cell (p := ⟨bx, ox + i, none⟩) hbx).trans hHeld) (fun _ => ?_)
                clear hK K
                try simp only [Act.put, List.setIfInBounds_toArray, List.set_cons_zero, List.set_cons_succ, List.getElem_toArray, List.getElem_cons_zero, List.getElem_cons_succ]
                refine wpAnyH_ready (rs := [4, 9]) (by kernel_rfl) (by simp) (AllReadyH.cons rfl (fun K hK => ?_) (AllReadyH.cons rfl (fun K hK => ?_) AllReadyH.nil))
                · refine step_app (by rfl) (.tmp 44) (.tmp 47) (by rfl) wd.heap.size _ _ ([]) (L.take (j)) (by rfl) (by rfl) hoA (hT.below hbA) ?_ ?_ ?_
                  · (simp only [List.length_append, List.length_take, List.length_drop, List.length_cons, List.length_nil]; omega)
                  · exact (hbA).size
                  intro v4 w4 ho4 hg4
                  have hb4 := (hbA).trans (own_grown hoA hg4 (Nat.le_refl _) (hbA).size)
                  refine hK.out _ _ (((hb4).cell (p := ⟨bx, ox + i, none⟩) hbx).trans hHeld) (fun _ => ?_)
                  clear hK K
                  try simp only [Act.put, List.setIfInBounds_toArray, List.set_cons_zero, List.set_cons_succ, List.getElem_toArray, List.getElem_cons_zero, List.getElem_cons_succ]
                  have hb4' := hb4.trans ((bel_alloc w4 (.cells #[.string x] 9)).mono hb4.size)
                  have ho4' := ho4.alloc (.cells #[.string x] 9)
                  have hx4 := lit_at (heap_alloc_new w4 (.cells #[.string x] 9))
                  refine wpAnyH_ready (rs := [9]) (by kernel_rfl) (by simp) (AllReadyH.cons rfl (fun K hK => ?_) AllReadyH.nil)
                  go_simp
                  refine hK.out _ _ (((hb4').cell (p := ⟨bx, ox + i, none⟩) hbx).trans hHeld) (fun _ => ?_)
                  clear hK K
                  try simp only [Act.put, List.setIfInBounds_toArray, List.set_cons_zero, List.set_cons_succ, List.getElem_toArray, List.getElem_cons_zero, List.getElem_cons_succ]
                  refine wpAnyH_ready (rs := [10]) (by kernel_rfl) (by simp) (AllReadyH.cons rfl (fun K hK => ?_) AllReadyH.nil)
                  refine step_app (by rfl) (.tmp 48) (.tmp 53) (by rfl) wd.heap.size _ _ ([] ++ L.take (j)) ([x]) (by rfl) (by rfl) ho4' hx4 ?_ ?_ ?_
                  · (simp only [List.length_append, List.length_take, List.length_drop, List.length_cons, List.length_nil]; omega)
                  · exact (hb4').size
                  intro v5 w5 ho5 hg5
                  have hb5 := (hb4').trans (own_grown ho4' hg5 (Nat.le_refl _) (hb4').size)
                  refine hK.out _ _ (((hb5).cell (p := ⟨bx, ox + i, none⟩) hbx).trans hHeld) (fun _ => ?_)
                  clear hK K
                  try simp only [Act.put, List.setIfInBounds_toArray, List.set_cons_zero, List.set_cons_succ, List.getElem_toArray, List.getElem_cons_zero, List.getElem_cons_succ]
                  refine wpAnyH_ready (rs := [14]) (by kernel_rfl) (by simp) (AllReadyH.cons rfl (fun K hK => ?_) AllReadyH.nil)
                  refine step_app (by rfl) (.tmp 54) (.tmp 57) (by rfl) wd.heap.size _ _ ([] ++ L.take (j) ++ [x]) (L.drop j) (by rfl) (by rfl) ho5 (hDp.below hb5) ?_ ?_ ?_
                  · (simp only [List.length_append, List.length_take, List.length_drop, List.length_cons, List.length_nil]; omega)
                  · exact (hb5).size
                  intro v6 w6 ho6 hg6
                  have hb6 := (hb5).trans (own_grown ho5 hg6 (Nat.le_refl _) (hb5).size)
                  refine hK.out _ _ (((hb6).cell (p := ⟨bx, ox + i, none⟩) hbx).trans hHeld) (fun _ => ?_)
                  clear hK K
                  try simp only [Act.put, List.setIfInBounds_toArray, List.set_cons_zero, List.set_cons_succ, List.getElem_toArray, List.getElem_cons_zero, List.getElem_cons_succ]
                  refine wpAnyH_take (i := 15) (v := v6) rfl (by kernel_rfl) (by kernel_rfl) (by kernel_rfl) (fun _ _ _ h => h) (Or.inl ⟨by rfl, fun w hSw => ?_⟩) (by assumption) ?_
                  · (try dsimp only at hSw); go_simp
                  try simp only [Act.put, List.setIfInBounds_toArray, List.set_cons_zero, List.set_cons_succ, List.getElem_toArray, List.getElem_cons_zero, List.getElem_cons_succ]
                  refine wpAnyH_done (by kernel_rfl) ?_ _
                  go_wp2
                  go_roundw
                  case rel => exact ⟨i + 1, by omega, by go_num, bel_step HB.out (HDd.out.trans (hb6.mono HDd.out.size)), [] ++ L.take (j) ++ [x] ++ L.drop j, by (simp only [List.length_append, List.length_take, List.length_drop, List.length_cons, List.length_nil]; omega), Sl.of_owns ho6, hid (by rw [← HF2.out, HI2.out]; simp)⟩
                  case measure => simp [intOf]; omega
                · have hb2 := hbA.trans ((bel_alloc (wd.alloc (.cells #[] 9)) (.cells #[.string x] 9)).mono hbA.size)
                  have hoA2 := hoA.alloc (.cells #[.string x] 9)
                  have hx2 := heap_alloc_new (wd.alloc (.cells #[] 9)) (.cells #[.string x] 9)
                  rw [World.size_alloc] at hx2
                  go_simp
                  refine hK.out _ _ (((hb2).cell (p := ⟨bx, ox + i, none⟩) hbx).trans hHeld) (fun _ => ?_)
                  clear hK K
                  try simp only [Act.put, List.setIfInBounds_toArray, List.set_cons_zero, List.set_cons_succ, List.getElem_toArray, List.getElem_cons_zero, List.getElem_cons_succ]
                  refine wpAnyH_ready (rs := [4]) (by kernel_rfl) (by simp) (AllReadyH.cons rfl (fun K hK => ?_) AllReadyH.nil)
                  refine step_app (by rfl) (.tmp 44) (.tmp 47) (by rfl) wd.heap.size _ _ ([]) (L.take (j)) (by rfl) (by rfl) hoA2 (hT.below hb2) ?_ ?_ ?_
                  · (simp only [List.length_append, List.length_take, List.length_drop, List.length_cons, List.length_nil]; omega)
                  · exact (hb2).size
                  intro v4 w4 ho4 hg4
                  have hb4 := (hb2).trans (own_grown hoA2 hg4 (Nat.le_refl _) (hb2).size)
                  refine hK.out _ _ (((hb4).cell (p := ⟨bx, ox + i, none⟩) hbx).trans hHeld) (fun _ => ?_)
                  clear hK K
                  try simp only [Act.put, List.setIfInBounds_toArray, List.set_cons_zero, List.set_cons_succ, List.getElem_toArray, List.getElem_cons_zero, List.getElem_cons_succ]
                  have hx4 := lit_at ((hg4.block (wd.heap.size + 1) (by simp) (by simp [Value.ownBlock])).trans hx2)
                  refine wpAnyH_ready (rs := [10]) (by kernel_rfl) (by simp) (AllReadyH.cons rfl (fun K hK => ?_) AllReadyH.nil)
                  refine step_app (by rfl) (.tmp 48) (.tmp 53) (by rfl) wd.heap.size _ _ ([] ++ L.take (j)) ([x]) (by rfl) (by rfl) ho4 hx4 ?_ ?_ ?_
                  · (simp only [List.length_append, List.length_take, List.length_drop, List.length_cons, List.length_nil]; omega)
                  · exact (hb4).size
                  intro v5 w5 ho5 hg5
                  have hb5 := (hb4).trans (own_grown ho4 hg5 (Nat.le_refl _) (hb4).size)
                  refine hK.out _ _ (((hb5).cell (p := ⟨bx, ox + i, none⟩) hbx).trans hHeld) (fun _ => ?_)
                  clear hK K
                  try simp only [Act.put, List.setIfInBounds_toArray, List.set_cons_zero, List.set_cons_succ, List.getElem_toArray, List.getElem_cons_zero, List.getElem_cons_succ]
                  refine wpAnyH_ready (rs := [14]) (by kernel_rfl) (by simp) (AllReadyH.cons rfl (fun K hK => ?_) AllReadyH.nil)
                  refine step_app (by rfl) (.tmp 54) (.tmp 57) (by rfl) wd.heap.size _ _ ([] ++ L.take (j) ++ [x]) (L.drop j) (by rfl) (by rfl) ho5 (hDp.below hb5) ?_ ?_ ?_
                  · (simp only [List.length_append, List.length_take, List.length_drop, List.length_cons, List.length_nil]; omega)
                  · exact (hb5).size
                  intro v6 w6 ho6 hg6
                  have hb6 := (hb5).trans (own_grown ho5 hg6 (Nat.le_refl _) (hb5).size)
                  refine hK.out _ _ (((hb6).cell (p := ⟨bx, ox + i, none⟩) hbx).trans hHeld) (fun _ => ?_)
                  clear hK K
                  try simp only [Act.put, List.setIfInBounds_toArray, List.set_cons_zero, List.set_cons_succ, List.getElem_toArray, List.getElem_cons_zero, List.getElem_cons_succ]
                  refine wpAnyH_take (i := 15) (v := v6) rfl (by kernel_rfl) (by kernel_rfl) (by kernel_rfl) (fun _ _ _ h => h) (Or.inl ⟨by rfl, fun w hSw => ?_⟩) (by assumption) ?_
                  · (try dsimp only at hSw); go_simp
                  try simp only [Act.put, List.setIfInBounds_toArray, List.set_cons_zero, List.set_cons_succ, List.getElem_toArray, List.getElem_cons_zero, List.getElem_cons_succ]
                  refine wpAnyH_done (by kernel_rfl) ?_ _
                  go_wp2
                  go_roundw
                  case rel => exact ⟨i + 1, by omega, by go_num, bel_step HB.out (HDd.out.trans (hb6.mono HDd.out.size)), [] ++ L.take (j) ++ [x] ++ L.drop j, by (simp only [List.length_append, List.length_take, List.length_drop, List.length_cons, List.length_nil]; omega), Sl.of_owns ho6, hid (by rw [← HF2.out, HI2.out]; simp)⟩
                  case measure => simp [intOf]; omega
              · have hbB := (bel_alloc wd (.cells #[.string x] 9))
                have hx2 := heap_alloc_new wd (.cells #[.string x] 9)
                go_simp
                refine hK.out _ _ (((hbB).cell (p := ⟨bx, ox + i, none⟩) hbx).trans hHeld) (fun _ => ?_)
                clear hK K
                try simp only [Act.put, List.setIfInBounds_toArray, List.set_cons_zero, List.set_cons_succ, List.getElem_toArray, List.getElem_cons_zero, List.getElem_cons_succ]
                have hb2 := hbB.trans ((bel_alloc (wd.alloc (.cells #[.string x] 9)) (.cells #[] 9)).mono hbB.size)
                have hoB := own_empty (wd.alloc (.cells #[.string x] 9)) 9 1
                rw [World.size_alloc] at hoB
                have hoB2 := own_base hoB (Nat.le_succ wd.heap.size)
                have hx3 := (Below.heap_alloc (wd.alloc (.cells #[.string x] 9)) (.cells #[] 9) wd.heap.size (by simp)).trans hx2
                refine wpAnyH_ready (rs := [0]) (by kernel_rfl) (by simp) (AllReadyH.cons rfl (fun K hK => ?_) AllReadyH.nil)
                go_simp
                refine hK.out _ _ (((hb2).cell (p := ⟨bx, ox + i, none⟩) hbx).trans hHeld) (fun _ => ?_)
                clear hK K
                try simp only [Act.put, List.setIfInBounds_toArray, List.set_cons_zero, List.set_cons_succ, List.getElem_toArray, List.getElem_cons_zero, List.getElem_cons_succ]
                refine wpAnyH_ready (rs := [4]) (by kernel_rfl) (by simp) (AllReadyH.cons rfl (fun K hK => ?_) AllReadyH.nil)
                refine step_app (by rfl) (.tmp 44) (.tmp 47) (by rfl) wd.heap.size _ _ ([]) (L.take (j)) (by rfl) (by rfl) hoB2 (hT.below hb2) ?_ ?_ ?_
                · (simp only [List.length_append, List.length_take, List.length_drop, List.length_cons, List.length_nil]; omega)
                · exact (hb2).size
                intro v4 w4 ho4 hg4
                have hb4 := (hb2).trans (own_grown hoB2 hg4 (Nat.le_refl _) (hb2).size)
                refine hK.out _ _ (((hb4).cell (p := ⟨bx, ox + i, none⟩) hbx).trans hHeld) (fun _ => ?_)
                clear hK K
                try simp only [Act.put, List.setIfInBounds_toArray, List.set_cons_zero, List.set_cons_succ, List.getElem_toArray, List.getElem_cons_zero, List.getElem_cons_succ]
                have hx4 := lit_at ((hg4.block wd.heap.size (by simp; omega) (by simp [Value.ownBlock])).trans hx3)
                refine wpAnyH_ready (rs := [10]) (by kernel_rfl) (by simp) (AllReadyH.cons rfl (fun K hK => ?_) AllReadyH.nil)
                refine step_app (by rfl) (.tmp 48) (.tmp 53) (by rfl) wd.heap.size _ _ ([] ++ L.take (j)) ([x]) (by rfl) (by rfl) ho4 hx4 ?_ ?_ ?_
                · (simp only [List.length_append, List.length_take, List.length_drop, List.length_cons, List.length_nil]; omega)
                · exact (hb4).size
                intro v5 w5 ho5 hg5
                have hb5 := (hb4).trans (own_grown ho4 hg5 (Nat.le_refl _) (hb4).size)
                refine hK.out _ _ (((hb5).cell (p := ⟨bx, ox + i, none⟩) hbx).trans hHeld) (fun _ => ?_)
                clear hK K
                try simp only [Act.put, List.setIfInBounds_toArray, List.set_cons_zero, List.set_cons_succ, List.getElem_toArray, List.getElem_cons_zero, List.getElem_cons_succ]
                refine wpAnyH_ready (rs := [14]) (by kernel_rfl) (by simp) (AllReadyH.cons rfl (fun K hK => ?_) AllReadyH.nil)
                refine step_app (by rfl) (.tmp 54) (.tmp 57) (by rfl) wd.heap.size _ _ ([] ++ L.take (j) ++ [x]) (L.drop j) (by rfl) (by rfl) ho5 (hDp.below hb5) ?_ ?_ ?_
                · (simp only [List.length_append, List.length_take, List.length_drop, List.length_cons, List.length_nil]; omega)
                · exact (hb5).size
                intro v6 w6 ho6 hg6
                have hb6 := (hb5).trans (own_grown ho5 hg6 (Nat.le_refl _) (hb5).size)
                refine hK.out _ _ (((hb6).cell (p := ⟨bx, ox + i, none⟩) hbx).trans hHeld) (fun _ => ?_)
                clear hK K
                try simp only [Act.put, List.setIfInBounds_toArray, List.set_cons_zero, List.set_cons_succ, List.getElem_toArray, List.getElem_cons_zero, List.getElem_cons_succ]
                refine wpAnyH_take (i := 15) (v := v6) rfl (by kernel_rfl) (by kernel_rfl) (by kernel_rfl) (fun _ _ _ h => h) (Or.inl ⟨by rfl, fun w hSw => ?_⟩) (by assumption) ?_
                · (try dsimp only at hSw); go_simp
                try simp only [Act.put, List.setIfInBounds_toArray, List.set_cons_zero, List.set_cons_succ, List.getElem_toArray, List.getElem_cons_zero, List.getElem_cons_succ]
                refine wpAnyH_done (by kernel_rfl) ?_ _
                go_wp2
                go_roundw
                case rel => exact ⟨i + 1, by omega, by go_num, bel_step HB.out (HDd.out.trans (hb6.mono HDd.out.size)), [] ++ L.take (j) ++ [x] ++ L.drop j, by (simp only [List.length_append, List.length_take, List.length_drop, List.length_cons, List.length_nil]; omega), Sl.of_owns ho6, hid (by rw [← HF2.out, HI2.out]; simp)⟩
                case measure => simp [intOf]; omega
          · rw [hc] at HLs
            have HK2 := hid (show ∀ m < j + 1, ∀ y, L[m]? = some y → lessW y x = true from fun m hm z hz => by
              by_cases e : m = j
              · subst e
                have h2 := HY.out
                rw [hz] at h2
                rw [Option.some.inj h2]; exact hc
              · exact HK.out m (by omega) z hz)
            clear hc
            go_upto_region 6 with fail
            go_quiet ((go_at_call 103; exact quietS (HLs.out _)))
            clear cx cy
            go_wp2
            go_roundw
            case rel => exact ⟨j + 1, by omega, by go_num, HD.out.drewN _, HK2⟩
            case measure => simp [intOf]; omega
        · obtain rfl : j = L.length := by omega
          have HI2 := hid (insW_end HK.out)
          have hjj : decide (L.length < L.length) = false := by simp
          go_upto_region 6 with fail
          go_quiet (fail)
          have HDq := hid (HD.out.drewN nq)
          have cx : (wr.drewN nq).cell? ⟨bx, ox + i, none⟩ = some (.string x) := cx
          generalize wr.drewN nq = wq at *
          go_wp2_with fail
          go_quiet (fail)
          have HDr := hid (HDq.out.drewN nq)
          have cx : (wq.drewN nq).cell? ⟨bx, ox + i, none⟩ = some (.string x) := cx
          clear HDq
          generalize wq.drewN nq = wz at *
          go_wp2_with fail
          have HSz := hid (HS.out.dr HDr.out)
          cases au with
          | none =>
            refine wp_region_held_drew (S := (fun w' => w'.cell? ⟨bx, ox + i, none⟩ = some (.string x))) (by kernel_rfl) cx (fun hHeld => ?_)
            have HSd := hid (HSz.out.below (below_drewN (Below.refl _ _) 1))
            have HDd := hid (show Below wm.heap.size wm wz.drew from (HDr.out.below _).trans (below_drewN (Below.refl _ _) 1))
            change wz.drew.cell? ⟨bx, ox + i, none⟩ = some (.string x) at hHeld
            change Hid (Sl 1 wz.drew _ _ _) at HSd
            generalize wz.drew = wd at *
            have hbx := World.block_lt_of_cell? wd _ hHeld
            change bx < wd.heap.size at hbx
            refine wpAnyH_take (i := 1) (v := .slice none L.length cu) rfl (by kernel_rfl) (by kernel_rfl) (by kernel_rfl) (fun _ _ _ h => h) (Or.inl ⟨by rfl, fun w hSw => ?_⟩) (by assumption) ?_
            · (try dsimp only at hSw); go_simp
            try simp only [Act.put, List.setIfInBounds_toArray, List.set_cons_zero, List.set_cons_succ, List.getElem_toArray, List.getElem_cons_zero, List.getElem_cons_succ]
            refine wpAnyH_take (i := 2) (v := .int .i64 (L.length : Int)) rfl (by kernel_rfl) (by kernel_rfl) (by kernel_rfl) (fun _ _ _ h => h) (Or.inl ⟨by rfl, fun w hSw => ?_⟩) (by assumption) ?_
            · (try dsimp only at hSw); go_simp
            try simp only [Act.put, List.setIfInBounds_toArray, List.set_cons_zero, List.set_cons_succ, List.getElem_toArray, List.getElem_cons_zero, List.getElem_cons_succ]
            refine wpAnyH_take (i := 3) (v := .slice none (L.length) cu) rfl (by kernel_rfl) (by kernel_rfl) (by kernel_rfl) (fun _ _ _ h => h) (Or.inl ⟨by rfl, fun w hSw => ?_⟩) (by assumption) ?_
            · (try dsimp only at hSw); go_simp
            try simp only [Act.put, List.setIfInBounds_toArray, List.set_cons_zero, List.set_cons_succ, List.getElem_toArray, List.getElem_cons_zero, List.getElem_cons_succ]
            refine wpAnyH_take (i := 5) (v := .slice (some ⟨bx, ox, none⟩) T.length cap) rfl (by kernel_rfl) (by kernel_rfl) (by kernel_rfl) (fun _ _ _ h => h) (Or.inl ⟨by rfl, fun w hSw => ?_⟩) (by assumption) ?_
            · (try dsimp only at hSw); go_simp
            try simp only [Act.put, List.setIfInBounds_toArray, List.set_cons_zero, List.set_cons_succ, List.getElem_toArray, List.getElem_cons_zero, List.getElem_cons_succ]
            refine wpAnyH_take (i := 6) (v := .int .i64 (i : Int)) rfl (by kernel_rfl) (by kernel_rfl) (by kernel_rfl) (fun _ _ _ h => h) (Or.inl ⟨by rfl, fun w hSw => ?_⟩) (by assumption) ?_
            · (try dsimp only at hSw); go_simp
            try simp only [Act.put, List.setIfInBounds_toArray, List.set_cons_zero, List.set_cons_succ, List.getElem_toArray, List.getElem_cons_zero, List.getElem_cons_succ]
            refine wpAnyH_take (i := 7) (v := .pointer (some ⟨bx, ox + i, none⟩)) rfl (by kernel_rfl) (by kernel_rfl) (by kernel_rfl) (fun _ _ _ h => h) (Or.inl ⟨by rfl, fun w hSw => ?_⟩) (by assumption) ?_
            · (try dsimp only at hSw); go_simp
            try simp only [Act.put, List.setIfInBounds_toArray, List.set_cons_zero, List.set_cons_succ, List.getElem_toArray, List.getElem_cons_zero, List.getElem_cons_succ]
            refine wpAnyH_take (i := 8) (v := .string x) rfl (by kernel_rfl) (by kernel_rfl) (by kernel_rfl) (fun _ _ _ h => h) (Or.inl ⟨by rfl, fun w hSw => ?_⟩) (by assumption) ?_
            · (try dsimp only at hSw); go_simp
            try simp only [Act.put, List.setIfInBounds_toArray, List.set_cons_zero, List.set_cons_succ, List.getElem_toArray, List.getElem_cons_zero, List.getElem_cons_succ]
            refine wpAnyH_take (i := 11) (v := .slice none L.length cu) rfl (by kernel_rfl) (by kernel_rfl) (by kernel_rfl) (fun _ _ _ h => h) (Or.inl ⟨by rfl, fun w hSw => ?_⟩) (by assumption) ?_
            · (try dsimp only at hSw); go_simp
            try simp only [Act.put, List.setIfInBounds_toArray, List.set_cons_zero, List.set_cons_succ, List.getElem_toArray, List.getElem_cons_zero, List.getElem_cons_succ]
            refine wpAnyH_take (i := 12) (v := .int .i64 (L.length : Int)) rfl (by kernel_rfl) (by kernel_rfl) (by kernel_rfl) (fun _ _ _ h => h) (Or.inl ⟨by rfl, fun w hSw => ?_⟩) (by assumption) ?_
            · (try dsimp only at hSw); go_simp
            try simp only [Act.put, List.setIfInBounds_toArray, List.set_cons_zero, List.set_cons_succ, List.getElem_toArray, List.getElem_cons_zero, List.getElem_cons_succ]
            refine wpAnyH_take (i := 13) (v := .slice none 0 (cu - L.length)) rfl (by kernel_rfl) (by kernel_rfl) (by kernel_rfl) (fun _ _ _ h => h) (Or.inl ⟨by rfl, fun w hSw => ?_⟩) (by assumption) ?_
            · (try dsimp only at hSw); go_simp
            try simp only [Act.put, List.setIfInBounds_toArray, List.set_cons_zero, List.set_cons_succ, List.getElem_toArray, List.getElem_cons_zero, List.getElem_cons_succ]
            have hT := Sl.takeS HSd.out (show L.length ≤ L.length by omega)
            have hDp := Sl.emptyS wd none (cu - L.length) (by omega)
            refine wpAnyH_ready (rs := [0, 9]) (by kernel_rfl) (by simp) (AllReadyH.cons rfl (fun K hK => ?_) (AllReadyH.cons rfl (fun K hK => ?_) AllReadyH.nil))
            · have hbA := (bel_alloc wd (.cells #[] 9))
              have hoA := own_empty wd 9 1
              go_simp
              refine hK.out _ _ (((hbA).cell (p := ⟨bx, ox + i, none⟩) hbx).trans hHeld) (fun _ => ?_)
              clear hK K
              try simp only [Act.put, List.setIfInBounds_toArray, List.set_cons_zero, List.set_cons_succ, List.getElem_toArray, List.getElem_cons_zero, List.getElem_cons_succ]
              refine wpAnyH_ready (rs := [4, 9]) (by kernel_rfl) (by simp) (AllReadyH.cons rfl (fun K hK => ?_) (AllReadyH.cons rfl (fun K hK => ?_) AllReadyH.nil))
              · refine step_app (by rfl) (.tmp 44) (.tmp 47) (by rfl) wd.heap.size _ _ ([]) (L.take (L.length)) (by rfl) (by rfl) hoA (hT.below hbA) ?_ ?_ ?_
                · (simp only [List.length_append, List.length_take, List.length_drop, List.length_cons, List.length_nil]; omega)
                · exact (hbA).size
                intro v4 w4 ho4 hg4
                have hb4 := (hbA).trans (own_grown hoA hg4 (Nat.le_refl _) (hbA).size)
                refine hK.out _ _ (((hb4).cell (p := ⟨bx, ox + i, none⟩) hbx).trans hHeld) (fun _ => ?_)
                clear hK K
                try simp only [Act.put, List.setIfInBounds_toArray, List.set_cons_zero, List.set_cons_succ, List.getElem_toArray, List.getElem_cons_zero, List.getElem_cons_succ]
                have hb4' := hb4.trans ((bel_alloc w4 (.cells #[.string x] 9)).mono hb4.size)
                have ho4' := ho4.alloc (.cells #[.string x] 9)
                have hx4 := lit_at (heap_alloc_new w4 (.cells #[.string x] 9))
                refine wpAnyH_ready (rs := [9]) (by kernel_rfl) (by simp) (AllReadyH.cons rfl (fun K hK => ?_) AllReadyH.nil)
                go_simp
                refine hK.out _ _ (((hb4').cell (p := ⟨bx, ox + i, none⟩) hbx).trans hHeld) (fun _ => ?_)
                clear hK K
                try simp only [Act.put, List.setIfInBounds_toArray, List.set_cons_zero, List.set_cons_succ, List.getElem_toArray, List.getElem_cons_zero, List.getElem_cons_succ]
                refine wpAnyH_ready (rs := [10]) (by kernel_rfl) (by simp) (AllReadyH.cons rfl (fun K hK => ?_) AllReadyH.nil)
                refine step_app (by rfl) (.tmp 48) (.tmp 53) (by rfl) wd.heap.size _ _ ([] ++ L.take (L.length)) ([x]) (by rfl) (by rfl) ho4' hx4 ?_ ?_ ?_
                · (simp only [List.length_append, List.length_take, List.length_drop, List.length_cons, List.length_nil]; omega)
                · exact (hb4').size
                intro v5 w5 ho5 hg5
                have hb5 := (hb4').trans (own_grown ho4' hg5 (Nat.le_refl _) (hb4').size)
                refine hK.out _ _ (((hb5).cell (p := ⟨bx, ox + i, none⟩) hbx).trans hHeld) (fun _ => ?_)
                clear hK K
                try simp only [Act.put, List.setIfInBounds_toArray, List.set_cons_zero, List.set_cons_succ, List.getElem_toArray, List.getElem_cons_zero, List.getElem_cons_succ]
                refine wpAnyH_ready (rs := [14]) (by kernel_rfl) (by simp) (AllReadyH.cons rfl (fun K hK => ?_) AllReadyH.nil)
                refine step_app (by rfl) (.tmp 54) (.tmp 57) (by rfl) wd.heap.size _ _ ([] ++ L.take (L.length) ++ [x]) ([]) (by rfl) (by rfl) ho5 (hDp.below hb5) ?_ ?_ ?_
                · (simp only [List.length_append, List.length_take, List.length_drop, List.length_cons, List.length_nil]; omega)
                · exact (hb5).size
                intro v6 w6 ho6 hg6
                have hb6 := (hb5).trans (own_grown ho5 hg6 (Nat.le_refl _) (hb5).size)
                refine hK.out _ _ (((hb6).cell (p := ⟨bx, ox + i, none⟩) hbx).trans hHeld) (fun _ => ?_)
                clear hK K
                try simp only [Act.put, List.setIfInBounds_toArray, List.set_cons_zero, List.set_cons_succ, List.getElem_toArray, List.getElem_cons_zero, List.getElem_cons_succ]
                refine wpAnyH_take (i := 15) (v := v6) rfl (by kernel_rfl) (by kernel_rfl) (by kernel_rfl) (fun _ _ _ h => h) (Or.inl ⟨by rfl, fun w hSw => ?_⟩) (by assumption) ?_
                · (try dsimp only at hSw); go_simp
                try simp only [Act.put, List.setIfInBounds_toArray, List.set_cons_zero, List.set_cons_succ, List.getElem_toArray, List.getElem_cons_zero, List.getElem_cons_succ]
                refine wpAnyH_done (by kernel_rfl) ?_ _
                go_wp2
                go_roundw
                case rel => exact ⟨i + 1, by omega, by go_num, bel_step HB.out (HDd.out.trans (hb6.mono HDd.out.size)), [] ++ L.take (L.length) ++ [x] ++ [], by (simp only [List.length_append, List.length_take, List.length_drop, List.length_cons, List.length_nil]; omega), Sl.of_owns ho6, hid (by rw [← HF2.out, HI2.out]; simp)⟩
                case measure => simp [intOf]; omega
              · have hb2 := hbA.trans ((bel_alloc (wd.alloc (.cells #[] 9)) (.cells #[.string x] 9)).mono hbA.size)
                have hoA2 := hoA.alloc (.cells #[.string x] 9)
                have hx2 := heap_alloc_new (wd.alloc (.cells #[] 9)) (.cells #[.string x] 9)
                rw [World.size_alloc] at hx2
                go_simp
                refine hK.out _ _ (((hb2).cell (p := ⟨bx, ox + i, none⟩) hbx).trans hHeld) (fun _ => ?_)
                clear hK K
                try simp only [Act.put, List.setIfInBounds_toArray, List.set_cons_zero, List.set_cons_succ, List.getElem_toArray, List.getElem_cons_zero, List.getElem_cons_succ]
                refine wpAnyH_ready (rs := [4]) (by kernel_rfl) (by simp) (AllReadyH.cons rfl (fun K hK => ?_) AllReadyH.nil)
                refine step_app (by rfl) (.tmp 44) (.tmp 47) (by rfl) wd.heap.size _ _ ([]) (L.take (L.length)) (by rfl) (by rfl) hoA2 (hT.below hb2) ?_ ?_ ?_
                · (simp only [List.length_append, List.length_take, List.length_drop, List.length_cons, List.length_nil]; omega)
                · exact (hb2).size
                intro v4 w4 ho4 hg4
                have hb4 := (hb2).trans (own_grown hoA2 hg4 (Nat.le_refl _) (hb2).size)
                refine hK.out _ _ (((hb4).cell (p := ⟨bx, ox + i, none⟩) hbx).trans hHeld) (fun _ => ?_)
                clear hK K
                try simp only [Act.put, List.setIfInBounds_toArray, List.set_cons_zero, List.set_cons_succ, List.getElem_toArray, List.getElem_cons_zero, List.getElem_cons_succ]
                have hx4 := lit_at ((hg4.block (wd.heap.size + 1) (by simp) (by simp [Value.ownBlock])).trans hx2)
                refine wpAnyH_ready (rs := [10]) (by kernel_rfl) (by simp) (AllReadyH.cons rfl (fun K hK => ?_) AllReadyH.nil)
                refine step_app (by rfl) (.tmp 48) (.tmp 53) (by rfl) wd.heap.size _ _ ([] ++ L.take (L.length)) ([x]) (by rfl) (by rfl) ho4 hx4 ?_ ?_ ?_
                · (simp only [List.length_append, List.length_take, List.length_drop, List.length_cons, List.length_nil]; omega)
                · exact (hb4).size
                intro v5 w5 ho5 hg5
                have hb5 := (hb4).trans (own_grown ho4 hg5 (Nat.le_refl _) (hb4).size)
                refine hK.out _ _ (((hb5).cell (p := ⟨bx, ox + i, none⟩) hbx).trans hHeld) (fun _ => ?_)
                clear hK K
                try simp only [Act.put, List.setIfInBounds_toArray, List.set_cons_zero, List.set_cons_succ, List.getElem_toArray, List.getElem_cons_zero, List.getElem_cons_succ]
                refine wpAnyH_ready (rs := [14]) (by kernel_rfl) (by simp) (AllReadyH.cons rfl (fun K hK => ?_) AllReadyH.nil)
                refine step_app (by rfl) (.tmp 54) (.tmp 57) (by rfl) wd.heap.size _ _ ([] ++ L.take (L.length) ++ [x]) ([]) (by rfl) (by rfl) ho5 (hDp.below hb5) ?_ ?_ ?_
                · (simp only [List.length_append, List.length_take, List.length_drop, List.length_cons, List.length_nil]; omega)
                · exact (hb5).size
                intro v6 w6 ho6 hg6
                have hb6 := (hb5).trans (own_grown ho5 hg6 (Nat.le_refl _) (hb5).size)
                refine hK.out _ _ (((hb6).cell (p := ⟨bx, ox + i, none⟩) hbx).trans hHeld) (fun _ => ?_)
                clear hK K
                try simp only [Act.put, List.setIfInBounds_toArray, List.set_cons_zero, List.set_cons_succ, List.getElem_toArray, List.getElem_cons_zero, List.getElem_cons_succ]
                refine wpAnyH_take (i := 15) (v := v6) rfl (by kernel_rfl) (by kernel_rfl) (by kernel_rfl) (fun _ _ _ h => h) (Or.inl ⟨by rfl, fun w hSw => ?_⟩) (by assumption) ?_
                · (try dsimp only at hSw); go_simp
                try simp only [Act.put, List.setIfInBounds_toArray, List.set_cons_zero, List.set_cons_succ, List.getElem_toArray, List.getElem_cons_zero, List.getElem_cons_succ]
                refine wpAnyH_done (by kernel_rfl) ?_ _
                go_wp2
                go_roundw
                case rel => exact ⟨i + 1, by omega, by go_num, bel_step HB.out (HDd.out.trans (hb6.mono HDd.out.size)), [] ++ L.take (L.length) ++ [x] ++ [], by (simp only [List.length_append, List.length_take, List.length_drop, List.length_cons, List.length_nil]; omega), Sl.of_owns ho6, hid (by rw [← HF2.out, HI2.out]; simp)⟩
                case measure => simp [intOf]; omega
            · have hbB := (bel_alloc wd (.cells #[.string x] 9))
              have hx2 := heap_alloc_new wd (.cells #[.string x] 9)
              go_simp
              refine hK.out _ _ (((hbB).cell (p := ⟨bx, ox + i, none⟩) hbx).trans hHeld) (fun _ => ?_)
              clear hK K
              try simp only [Act.put, List.setIfInBounds_toArray, List.set_cons_zero, List.set_cons_succ, List.getElem_toArray, List.getElem_cons_zero, List.getElem_cons_succ]
              have hb2 := hbB.trans ((bel_alloc (wd.alloc (.cells #[.string x] 9)) (.cells #[] 9)).mono hbB.size)
              have hoB := own_empty (wd.alloc (.cells #[.string x] 9)) 9 1
              rw [World.size_alloc] at hoB
              have hoB2 := own_base hoB (Nat.le_succ wd.heap.size)
              have hx3 := (Below.heap_alloc (wd.alloc (.cells #[.string x] 9)) (.cells #[] 9) wd.heap.size (by simp)).trans hx2
              refine wpAnyH_ready (rs := [0]) (by kernel_rfl) (by simp) (AllReadyH.cons rfl (fun K hK => ?_) AllReadyH.nil)
              go_simp
              refine hK.out _ _ (((hb2).cell (p := ⟨bx, ox + i, none⟩) hbx).trans hHeld) (fun _ => ?_)
              clear hK K
              try simp only [Act.put, List.setIfInBounds_toArray, List.set_cons_zero, List.set_cons_succ, List.getElem_toArray, List.getElem_cons_zero, List.getElem_cons_succ]
              refine wpAnyH_ready (rs := [4]) (by kernel_rfl) (by simp) (AllReadyH.cons rfl (fun K hK => ?_) AllReadyH.nil)
              refine step_app (by rfl) (.tmp 44) (.tmp 47) (by rfl) wd.heap.size _ _ ([]) (L.take (L.length)) (by rfl) (by rfl) hoB2 (hT.below hb2) ?_ ?_ ?_
              · (simp only [List.length_append, List.length_take, List.length_drop, List.length_cons, List.length_nil]; omega)
              · exact (hb2).size
              intro v4 w4 ho4 hg4
              have hb4 := (hb2).trans (own_grown hoB2 hg4 (Nat.le_refl _) (hb2).size)
              refine hK.out _ _ (((hb4).cell (p := ⟨bx, ox + i, none⟩) hbx).trans hHeld) (fun _ => ?_)
              clear hK K
              try simp only [Act.put, List.setIfInBounds_toArray, List.set_cons_zero, List.set_cons_succ, List.getElem_toArray, List.getElem_cons_zero, List.getElem_cons_succ]
              have hx4 := lit_at ((hg4.block wd.heap.size (by simp; omega) (by simp [Value.ownBlock])).trans hx3)
              refine wpAnyH_ready (rs := [10]) (by kernel_rfl) (by simp) (AllReadyH.cons rfl (fun K hK => ?_) AllReadyH.nil)
              refine step_app (by rfl) (.tmp 48) (.tmp 53) (by rfl) wd.heap.size _ _ ([] ++ L.take (L.length)) ([x]) (by rfl) (by rfl) ho4 hx4 ?_ ?_ ?_
              · (simp only [List.length_append, List.length_take, List.length_drop, List.length_cons, List.length_nil]; omega)
              · exact (hb4).size
              intro v5 w5 ho5 hg5
              have hb5 := (hb4).trans (own_grown ho4 hg5 (Nat.le_refl _) (hb4).size)
              refine hK.out _ _ (((hb5).cell (p := ⟨bx, ox + i, none⟩) hbx).trans hHeld) (fun _ => ?_)
              clear hK K
              try simp only [Act.put, List.setIfInBounds_toArray, List.set_cons_zero, List.set_cons_succ, List.getElem_toArray, List.getElem_cons_zero, List.getElem_cons_succ]
              refine wpAnyH_ready (rs := [14]) (by kernel_rfl) (by simp) (AllReadyH.cons rfl (fun K hK => ?_) AllReadyH.nil)
              refine step_app (by rfl) (.tmp 54) (.tmp 57) (by rfl) wd.heap.size _ _ ([] ++ L.take (L.length) ++ [x]) ([]) (by rfl) (by rfl) ho5 (hDp.below hb5) ?_ ?_ ?_
              · (simp only [List.length_append, List.length_take, List.length_drop, List.length_cons, List.length_nil]; omega)
              · exact (hb5).size
              intro v6 w6 ho6 hg6
              have hb6 := (hb5).trans (own_grown ho5 hg6 (Nat.le_refl _) (hb5).size)
              refine hK.out _ _ (((hb6).cell (p := ⟨bx, ox + i, none⟩) hbx).trans hHeld) (fun _ => ?_)
              clear hK K
              try simp only [Act.put, List.setIfInBounds_toArray, List.set_cons_zero, List.set_cons_succ, List.getElem_toArray, List.getElem_cons_zero, List.getElem_cons_succ]
              refine wpAnyH_take (i := 15) (v := v6) rfl (by kernel_rfl) (by kernel_rfl) (by kernel_rfl) (fun _ _ _ h => h) (Or.inl ⟨by rfl, fun w hSw => ?_⟩) (by assumption) ?_
              · (try dsimp only at hSw); go_simp
              try simp only [Act.put, List.setIfInBounds_toArray, List.set_cons_zero, List.set_cons_succ, List.getElem_toArray, List.getElem_cons_zero, List.getElem_cons_succ]
              refine wpAnyH_done (by kernel_rfl) ?_ _
              go_wp2
              go_roundw
              case rel => exact ⟨i + 1, by omega, by go_num, bel_step HB.out (HDd.out.trans (hb6.mono HDd.out.size)), [] ++ L.take (L.length) ++ [x] ++ [], by (simp only [List.length_append, List.length_take, List.length_drop, List.length_cons, List.length_nil]; omega), Sl.of_owns ho6, hid (by rw [← HF2.out, HI2.out]; simp)⟩
              case measure => simp [intOf]; omega
          | some ad =>
            by_cases hcl : cu = L.length
            · subst hcl
              refine wp_region_held_drew (S := (fun w' => w'.cell? ⟨bx, ox + i, none⟩ = some (.string x))) (by kernel_rfl) cx (fun hHeld => ?_)
              have HSd := hid (HSz.out.below (below_drewN (Below.refl _ _) 1))
              have HDd := hid (show Below wm.heap.size wm wz.drew from (HDr.out.below _).trans (below_drewN (Below.refl _ _) 1))
              change wz.drew.cell? ⟨bx, ox + i, none⟩ = some (.string x) at hHeld
              change Hid (Sl 1 wz.drew _ _ _) at HSd
              generalize wz.drew = wd at *
              have hbx := World.block_lt_of_cell? wd _ hHeld
              change bx < wd.heap.size at hbx
              refine wpAnyH_take (i := 1) (v := .slice (some ad) L.length L.length) rfl (by kernel_rfl) (by kernel_rfl) (by kernel_rfl) (fun _ _ _ h => h) (Or.inl ⟨by rfl, fun w hSw => ?_⟩) (by assumption) ?_
              · (try dsimp only at hSw); go_simp
              try simp only [Act.put, List.setIfInBounds_toArray, List.set_cons_zero, List.set_cons_succ, List.getElem_toArray, List.getElem_cons_zero, List.getElem_cons_succ]
              refine wpAnyH_take (i := 2) (v := .int .i64 (L.length : Int)) rfl (by kernel_rfl) (by kernel_rfl) (by kernel_rfl) (fun _ _ _ h => h) (Or.inl ⟨by rfl, fun w hSw => ?_⟩) (by assumption) ?_
              · (try dsimp only at hSw); go_simp
              try simp only [Act.put, List.setIfInBounds_toArray, List.set_cons_zero, List.set_cons_succ, List.getElem_toArray, List.getElem_cons_zero, List.getElem_cons_succ]
              refine wpAnyH_take (i := 3) (v := .slice (some ad) (L.length) L.length) rfl (by kernel_rfl) (by kernel_rfl) (by kernel_rfl) (fun _ _ _ h => h) (Or.inl ⟨by rfl, fun w hSw => ?_⟩) (by assumption) ?_
              · (try dsimp only at hSw); go_simp
              try simp only [Act.put, List.setIfInBounds_toArray, List.set_cons_zero, List.set_cons_succ, List.getElem_toArray, List.getElem_cons_zero, List.getElem_cons_succ]
              refine wpAnyH_take (i := 5) (v := .slice (some ⟨bx, ox, none⟩) T.length cap) rfl (by kernel_rfl) (by kernel_rfl) (by kernel_rfl) (fun _ _ _ h => h) (Or.inl ⟨by rfl, fun w hSw => ?_⟩) (by assumption) ?_
              · (try dsimp only at hSw); go_simp
              try simp only [Act.put, List.setIfInBounds_toArray, List.set_cons_zero, List.set_cons_succ, List.getElem_toArray, List.getElem_cons_zero, List.getElem_cons_succ]
              refine wpAnyH_take (i := 6) (v := .int .i64 (i : Int)) rfl (by kernel_rfl) (by kernel_rfl) (by kernel_rfl) (fun _ _ _ h => h) (Or.inl ⟨by rfl, fun w hSw => ?_⟩) (by assumption) ?_
              · (try dsimp only at hSw); go_simp
              try simp only [Act.put, List.setIfInBounds_toArray, List.set_cons_zero, List.set_cons_succ, List.getElem_toArray, List.getElem_cons_zero, List.getElem_cons_succ]
              refine wpAnyH_take (i := 7) (v := .pointer (some ⟨bx, ox + i, none⟩)) rfl (by kernel_rfl) (by kernel_rfl) (by kernel_rfl) (fun _ _ _ h => h) (Or.inl ⟨by rfl, fun w hSw => ?_⟩) (by assumption) ?_
              · (try dsimp only at hSw); go_simp
              try simp only [Act.put, List.setIfInBounds_toArray, List.set_cons_zero, List.set_cons_succ, List.getElem_toArray, List.getElem_cons_zero, List.getElem_cons_succ]
              refine wpAnyH_take (i := 8) (v := .string x) rfl (by kernel_rfl) (by kernel_rfl) (by kernel_rfl) (fun _ _ _ h => h) (Or.inl ⟨by rfl, fun w hSw => ?_⟩) (by assumption) ?_
              · (try dsimp only at hSw); go_simp
              try simp only [Act.put, List.setIfInBounds_toArray, List.set_cons_zero, List.set_cons_succ, List.getElem_toArray, List.getElem_cons_zero, List.getElem_cons_succ]
              refine wpAnyH_take (i := 11) (v := .slice (some ad) L.length L.length) rfl (by kernel_rfl) (by kernel_rfl) (by kernel_rfl) (fun _ _ _ h => h) (Or.inl ⟨by rfl, fun w hSw => ?_⟩) (by assumption) ?_
              · (try dsimp only at hSw); go_simp
              try simp only [Act.put, List.setIfInBounds_toArray, List.set_cons_zero, List.set_cons_succ, List.getElem_toArray, List.getElem_cons_zero, List.getElem_cons_succ]
              refine wpAnyH_take (i := 12) (v := .int .i64 (L.length : Int)) rfl (by kernel_rfl) (by kernel_rfl) (by kernel_rfl) (fun _ _ _ h => h) (Or.inl ⟨by rfl, fun w hSw => ?_⟩) (by assumption) ?_
              · (try dsimp only at hSw); go_simp
              try simp only [Act.put, List.setIfInBounds_toArray, List.set_cons_zero, List.set_cons_succ, List.getElem_toArray, List.getElem_cons_zero, List.getElem_cons_succ]
              refine wpAnyH_take (i := 13) (v := .slice (some ad) 0 0) rfl (by kernel_rfl) (by kernel_rfl) (by kernel_rfl) (fun _ _ _ h => h) (Or.inl ⟨by rfl, fun w hSw => ?_⟩) (by assumption) ?_
              · (try dsimp only at hSw); go_simp
              try simp only [Act.put, List.setIfInBounds_toArray, List.set_cons_zero, List.set_cons_succ, List.getElem_toArray, List.getElem_cons_zero, List.getElem_cons_succ]
              have hT := Sl.takeS HSd.out (show L.length ≤ L.length by omega)
              have hDp := Sl.emptyS wd (some ad) (0) (by omega)
              refine wpAnyH_ready (rs := [0, 9]) (by kernel_rfl) (by simp) (AllReadyH.cons rfl (fun K hK => ?_) (AllReadyH.cons rfl (fun K hK => ?_) AllReadyH.nil))
              · have hbA := (bel_alloc wd (.cells #[] 9))
                have hoA := own_empty wd 9 1
                go_simp
                refine hK.out _ _ (((hbA).cell (p := ⟨bx, ox + i, none⟩) hbx).trans hHeld) (fun _ => ?_)
                clear hK K
                try simp only [Act.put, List.setIfInBounds_toArray, List.set_cons_zero, List.set_cons_succ, List.getElem_toArray, List.getElem_cons_zero, List.getElem_cons_succ]
                refine wpAnyH_ready (rs := [4, 9]) (by kernel_rfl) (by simp) (AllReadyH.cons rfl (fun K hK => ?_) (AllReadyH.cons rfl (fun K hK => ?_) AllReadyH.nil))
                · refine step_app (by rfl) (.tmp 44) (.tmp 47) (by rfl) wd.heap.size _ _ ([]) (L.take (L.length)) (by rfl) (by rfl) hoA (hT.below hbA) ?_ ?_ ?_
                  · (simp only [List.length_append, List.length_take, List.length_drop, List.length_cons, List.length_nil]; omega)
                  · exact (hbA).size
                  intro v4 w4 ho4 hg4
                  have hb4 := (hbA).trans (own_grown hoA hg4 (Nat.le_refl _) (hbA).size)
                  refine hK.out _ _ (((hb4).cell (p := ⟨bx, ox + i, none⟩) hbx).trans hHeld) (fun _ => ?_)
                  clear hK K
                  try simp only [Act.put, List.setIfInBounds_toArray, List.set_cons_zero, List.set_cons_succ, List.getElem_toArray, List.getElem_cons_zero, List.getElem_cons_succ]
                  have hb4' := hb4.trans ((bel_alloc w4 (.cells #[.string x] 9)).mono hb4.size)
                  have ho4' := ho4.alloc (.cells #[.string x] 9)
                  have hx4 := lit_at (heap_alloc_new w4 (.cells #[.string x] 9))
                  refine wpAnyH_ready (rs := [9]) (by kernel_rfl) (by simp) (AllReadyH.cons rfl (fun K hK => ?_) AllReadyH.nil)
                  go_simp
                  refine hK.out _ _ (((hb4').cell (p := ⟨bx, ox + i, none⟩) hbx).trans hHeld) (fun _ => ?_)
                  clear hK K
                  try simp only [Act.put, List.setIfInBounds_toArray, List.set_cons_zero, List.set_cons_succ, List.getElem_toArray, List.getElem_cons_zero, List.getElem_cons_succ]
                  refine wpAnyH_ready (rs := [10]) (by kernel_rfl) (by simp) (AllReadyH.cons rfl (fun K hK => ?_) AllReadyH.nil)
                  refine step_app (by rfl) (.tmp 48) (.tmp 53) (by rfl) wd.heap.size _ _ ([] ++ L.take (L.length)) ([x]) (by rfl) (by rfl) ho4' hx4 ?_ ?_ ?_
                  · (simp only [List.length_append, List.length_take, List.length_drop, List.length_cons, List.length_nil]; omega)
                  · exact (hb4').size
                  intro v5 w5 ho5 hg5
                  have hb5 := (hb4').trans (own_grown ho4' hg5 (Nat.le_refl _) (hb4').size)
                  refine hK.out _ _ (((hb5).cell (p := ⟨bx, ox + i, none⟩) hbx).trans hHeld) (fun _ => ?_)
                  clear hK K
                  try simp only [Act.put, List.setIfInBounds_toArray, List.set_cons_zero, List.set_cons_succ, List.getElem_toArray, List.getElem_cons_zero, List.getElem_cons_succ]
                  refine wpAnyH_ready (rs := [14]) (by kernel_rfl) (by simp) (AllReadyH.cons rfl (fun K hK => ?_) AllReadyH.nil)
                  refine step_app (by rfl) (.tmp 54) (.tmp 57) (by rfl) wd.heap.size _ _ ([] ++ L.take (L.length) ++ [x]) ([]) (by rfl) (by rfl) ho5 (hDp.below hb5) ?_ ?_ ?_
                  · (simp only [List.length_append, List.length_take, List.length_drop, List.length_cons, List.length_nil]; omega)
                  · exact (hb5).size
                  intro v6 w6 ho6 hg6
                  have hb6 := (hb5).trans (own_grown ho5 hg6 (Nat.le_refl _) (hb5).size)
                  refine hK.out _ _ (((hb6).cell (p := ⟨bx, ox + i, none⟩) hbx).trans hHeld) (fun _ => ?_)
                  clear hK K
                  try simp only [Act.put, List.setIfInBounds_toArray, List.set_cons_zero, List.set_cons_succ, List.getElem_toArray, List.getElem_cons_zero, List.getElem_cons_succ]
                  refine wpAnyH_take (i := 15) (v := v6) rfl (by kernel_rfl) (by kernel_rfl) (by kernel_rfl) (fun _ _ _ h => h) (Or.inl ⟨by rfl, fun w hSw => ?_⟩) (by assumption) ?_
                  · (try dsimp only at hSw); go_simp
                  try simp only [Act.put, List.setIfInBounds_toArray, List.set_cons_zero, List.set_cons_succ, List.getElem_toArray, List.getElem_cons_zero, List.getElem_cons_succ]
                  refine wpAnyH_done (by kernel_rfl) ?_ _
                  go_wp2
                  go_roundw
                  case rel => exact ⟨i + 1, by omega, by go_num, bel_step HB.out (HDd.out.trans (hb6.mono HDd.out.size)), [] ++ L.take (L.length) ++ [x] ++ [], by (simp only [List.length_append, List.length_take, List.length_drop, List.length_cons, List.length_nil]; omega), Sl.of_owns ho6, hid (by rw [← HF2.out, HI2.out]; simp)⟩
                  case measure => simp [intOf]; omega
                · have hb2 := hbA.trans ((bel_alloc (wd.alloc (.cells #[] 9)) (.cells #[.string x] 9)).mono hbA.size)
                  have hoA2 := hoA.alloc (.cells #[.string x] 9)
                  have hx2 := heap_alloc_new (wd.alloc (.cells #[] 9)) (.cells #[.string x] 9)
                  rw [World.size_alloc] at hx2
                  go_simp
                  refine hK.out _ _ (((hb2).cell (p := ⟨bx, ox + i, none⟩) hbx).trans hHeld) (fun _ => ?_)
                  clear hK K
                  try simp only [Act.put, List.setIfInBounds_toArray, List.set_cons_zero, List.set_cons_succ, List.getElem_toArray, List.getElem_cons_zero, List.getElem_cons_succ]
                  refine wpAnyH_ready (rs := [4]) (by kernel_rfl) (by simp) (AllReadyH.cons rfl (fun K hK => ?_) AllReadyH.nil)
                  refine step_app (by rfl) (.tmp 44) (.tmp 47) (by rfl) wd.heap.size _ _ ([]) (L.take (L.length)) (by rfl) (by rfl) hoA2 (hT.below hb2) ?_ ?_ ?_
                  · (simp only [List.length_append, List.length_take, List.length_drop, List.length_cons, List.length_nil]; omega)
                  · exact (hb2).size
                  intro v4 w4 ho4 hg4
                  have hb4 := (hb2).trans (own_grown hoA2 hg4 (Nat.le_refl _) (hb2).size)
                  refine hK.out _ _ (((hb4).cell (p := ⟨bx, ox + i, none⟩) hbx).trans hHeld) (fun _ => ?_)
                  clear hK K
                  try simp only [Act.put, List.setIfInBounds_toArray, List.set_cons_zero, List.set_cons_succ, List.getElem_toArray, List.getElem_cons_zero, List.getElem_cons_succ]
                  have hx4 := lit_at ((hg4.block (wd.heap.size + 1) (by simp) (by simp [Value.ownBlock])).trans hx2)
                  refine wpAnyH_ready (rs := [10]) (by kernel_rfl) (by simp) (AllReadyH.cons rfl (fun K hK => ?_) AllReadyH.nil)
                  refine step_app (by rfl) (.tmp 48) (.tmp 53) (by rfl) wd.heap.size _ _ ([] ++ L.take (L.length)) ([x]) (by rfl) (by rfl) ho4 hx4 ?_ ?_ ?_
                  · (simp only [List.length_append, List.length_take, List.length_drop, List.length_cons, List.length_nil]; omega)
                  · exact (hb4).size
                  intro v5 w5 ho5 hg5
                  have hb5 := (hb4).trans (own_grown ho4 hg5 (Nat.le_refl _) (hb4).size)
                  refine hK.out _ _ (((hb5).cell (p := ⟨bx, ox + i, none⟩) hbx).trans hHeld) (fun _ => ?_)
                  clear hK K
                  try simp only [Act.put, List.setIfInBounds_toArray, List.set_cons_zero, List.set_cons_succ, List.getElem_toArray, List.getElem_cons_zero, List.getElem_cons_succ]
                  refine wpAnyH_ready (rs := [14]) (by kernel_rfl) (by simp) (AllReadyH.cons rfl (fun K hK => ?_) AllReadyH.nil)
                  refine step_app (by rfl) (.tmp 54) (.tmp 57) (by rfl) wd.heap.size _ _ ([] ++ L.take (L.length) ++ [x]) ([]) (by rfl) (by rfl) ho5 (hDp.below hb5) ?_ ?_ ?_
                  · (simp only [List.length_append, List.length_take, List.length_drop, List.length_cons, List.length_nil]; omega)
                  · exact (hb5).size
                  intro v6 w6 ho6 hg6
                  have hb6 := (hb5).trans (own_grown ho5 hg6 (Nat.le_refl _) (hb5).size)
                  refine hK.out _ _ (((hb6).cell (p := ⟨bx, ox + i, none⟩) hbx).trans hHeld) (fun _ => ?_)
                  clear hK K
                  try simp only [Act.put, List.setIfInBounds_toArray, List.set_cons_zero, List.set_cons_succ, List.getElem_toArray, List.getElem_cons_zero, List.getElem_cons_succ]
                  refine wpAnyH_take (i := 15) (v := v6) rfl (by kernel_rfl) (by kernel_rfl) (by kernel_rfl) (fun _ _ _ h => h) (Or.inl ⟨by rfl, fun w hSw => ?_⟩) (by assumption) ?_
                  · (try dsimp only at hSw); go_simp
                  try simp only [Act.put, List.setIfInBounds_toArray, List.set_cons_zero, List.set_cons_succ, List.getElem_toArray, List.getElem_cons_zero, List.getElem_cons_succ]
                  refine wpAnyH_done (by kernel_rfl) ?_ _
                  go_wp2
                  go_roundw
                  case rel => exact ⟨i + 1, by omega, by go_num, bel_step HB.out (HDd.out.trans (hb6.mono HDd.out.size)), [] ++ L.take (L.length) ++ [x] ++ [], by (simp only [List.length_append, List.length_take, List.length_drop, List.length_cons, List.length_nil]; omega), Sl.of_owns ho6, hid (by rw [← HF2.out, HI2.out]; simp)⟩
                  case measure => simp [intOf]; omega
              · have hbB := (bel_alloc wd (.cells #[.string x] 9))
                have hx2 := heap_alloc_new wd (.cells #[.string x] 9)
                go_simp
                refine hK.out _ _ (((hbB).cell (p := ⟨bx, ox + i, none⟩) hbx).trans hHeld) (fun _ => ?_)
                clear hK K
                try simp only [Act.put, List.setIfInBounds_toArray, List.set_cons_zero, List.set_cons_succ, List.getElem_toArray, List.getElem_cons_zero, List.getElem_cons_succ]
                have hb2 := hbB.trans ((bel_alloc (wd.alloc (.cells #[.string x] 9)) (.cells #[] 9)).mono hbB.size)
                have hoB := own_empty (wd.alloc (.cells #[.string x] 9)) 9 1
                rw [World.size_alloc] at hoB
                have hoB2 := own_base hoB (Nat.le_succ wd.heap.size)
                have hx3 := (Below.heap_alloc (wd.alloc (.cells #[.string x] 9)) (.cells #[] 9) wd.heap.size (by simp)).trans hx2
                refine wpAnyH_ready (rs := [0]) (by kernel_rfl) (by simp) (AllReadyH.cons rfl (fun K hK => ?_) AllReadyH.nil)
                go_simp
                refine hK.out _ _ (((hb2).cell (p := ⟨bx, ox + i, none⟩) hbx).trans hHeld) (fun _ => ?_)
                clear hK K
                try simp only [Act.put, List.setIfInBounds_toArray, List.set_cons_zero, List.set_cons_succ, List.getElem_toArray, List.getElem_cons_zero, List.getElem_cons_succ]
                refine wpAnyH_ready (rs := [4]) (by kernel_rfl) (by simp) (AllReadyH.cons rfl (fun K hK => ?_) AllReadyH.nil)
                refine step_app (by rfl) (.tmp 44) (.tmp 47) (by rfl) wd.heap.size _ _ ([]) (L.take (L.length)) (by rfl) (by rfl) hoB2 (hT.below hb2) ?_ ?_ ?_
                · (simp only [List.length_append, List.length_take, List.length_drop, List.length_cons, List.length_nil]; omega)
                · exact (hb2).size
                intro v4 w4 ho4 hg4
                have hb4 := (hb2).trans (own_grown hoB2 hg4 (Nat.le_refl _) (hb2).size)
                refine hK.out _ _ (((hb4).cell (p := ⟨bx, ox + i, none⟩) hbx).trans hHeld) (fun _ => ?_)
                clear hK K
                try simp only [Act.put, List.setIfInBounds_toArray, List.set_cons_zero, List.set_cons_succ, List.getElem_toArray, List.getElem_cons_zero, List.getElem_cons_succ]
                have hx4 := lit_at ((hg4.block wd.heap.size (by simp; omega) (by simp [Value.ownBlock])).trans hx3)
                refine wpAnyH_ready (rs := [10]) (by kernel_rfl) (by simp) (AllReadyH.cons rfl (fun K hK => ?_) AllReadyH.nil)
                refine step_app (by rfl) (.tmp 48) (.tmp 53) (by rfl) wd.heap.size _ _ ([] ++ L.take (L.length)) ([x]) (by rfl) (by rfl) ho4 hx4 ?_ ?_ ?_
                · (simp only [List.length_append, List.length_take, List.length_drop, List.length_cons, List.length_nil]; omega)
                · exact (hb4).size
                intro v5 w5 ho5 hg5
                have hb5 := (hb4).trans (own_grown ho4 hg5 (Nat.le_refl _) (hb4).size)
                refine hK.out _ _ (((hb5).cell (p := ⟨bx, ox + i, none⟩) hbx).trans hHeld) (fun _ => ?_)
                clear hK K
                try simp only [Act.put, List.setIfInBounds_toArray, List.set_cons_zero, List.set_cons_succ, List.getElem_toArray, List.getElem_cons_zero, List.getElem_cons_succ]
                refine wpAnyH_ready (rs := [14]) (by kernel_rfl) (by simp) (AllReadyH.cons rfl (fun K hK => ?_) AllReadyH.nil)
                refine step_app (by rfl) (.tmp 54) (.tmp 57) (by rfl) wd.heap.size _ _ ([] ++ L.take (L.length) ++ [x]) ([]) (by rfl) (by rfl) ho5 (hDp.below hb5) ?_ ?_ ?_
                · (simp only [List.length_append, List.length_take, List.length_drop, List.length_cons, List.length_nil]; omega)
                · exact (hb5).size
                intro v6 w6 ho6 hg6
                have hb6 := (hb5).trans (own_grown ho5 hg6 (Nat.le_refl _) (hb5).size)
                refine hK.out _ _ (((hb6).cell (p := ⟨bx, ox + i, none⟩) hbx).trans hHeld) (fun _ => ?_)
                clear hK K
                try simp only [Act.put, List.setIfInBounds_toArray, List.set_cons_zero, List.set_cons_succ, List.getElem_toArray, List.getElem_cons_zero, List.getElem_cons_succ]
                refine wpAnyH_take (i := 15) (v := v6) rfl (by kernel_rfl) (by kernel_rfl) (by kernel_rfl) (fun _ _ _ h => h) (Or.inl ⟨by rfl, fun w hSw => ?_⟩) (by assumption) ?_
                · (try dsimp only at hSw); go_simp
                try simp only [Act.put, List.setIfInBounds_toArray, List.set_cons_zero, List.set_cons_succ, List.getElem_toArray, List.getElem_cons_zero, List.getElem_cons_succ]
                refine wpAnyH_done (by kernel_rfl) ?_ _
                go_wp2
                go_roundw
                case rel => exact ⟨i + 1, by omega, by go_num, bel_step HB.out (HDd.out.trans (hb6.mono HDd.out.size)), [] ++ L.take (L.length) ++ [x] ++ [], by (simp only [List.length_append, List.length_take, List.length_drop, List.length_cons, List.length_nil]; omega), Sl.of_owns ho6, hid (by rw [← HF2.out, HI2.out]; simp)⟩
                case measure => simp [intOf]; omega
            · have hcl2 : ¬ L.length = cu := fun h => hcl h.symm
              refine wp_region_held_drew (S := (fun w' => w'.cell? ⟨bx, ox + i, none⟩ = some (.string x))) (by kernel_rfl) cx (fun hHeld => ?_)
              have HSd := hid (HSz.out.below (below_drewN (Below.refl _ _) 1))
              have HDd := hid (show Below wm.heap.size wm wz.drew from (HDr.out.below _).trans (below_drewN (Below.refl _ _) 1))
              change wz.drew.cell? ⟨bx, ox + i, none⟩ = some (.string x) at hHeld
              change Hid (Sl 1 wz.drew _ _ _) at HSd
              generalize wz.drew = wd at *
              have hbx := World.block_lt_of_cell? wd _ hHeld
              change bx < wd.heap.size at hbx
              refine wpAnyH_take (i := 1) (v := .slice (some ad) L.length cu) rfl (by kernel_rfl) (by kernel_rfl) (by kernel_rfl) (fun _ _ _ h => h) (Or.inl ⟨by rfl, fun w hSw => ?_⟩) (by assumption) ?_
              · (try dsimp only at hSw); go_simp
              try simp only [Act.put, List.setIfInBounds_toArray, List.set_cons_zero, List.set_cons_succ, List.getElem_toArray, List.getElem_cons_zero, List.getElem_cons_succ]
              refine wpAnyH_take (i := 2) (v := .int .i64 (L.length : Int)) rfl (by kernel_rfl) (by kernel_rfl) (by kernel_rfl) (fun _ _ _ h => h) (Or.inl ⟨by rfl, fun w hSw => ?_⟩) (by assumption) ?_
              · (try dsimp only at hSw); go_simp
              try simp only [Act.put, List.setIfInBounds_toArray, List.set_cons_zero, List.set_cons_succ, List.getElem_toArray, List.getElem_cons_zero, List.getElem_cons_succ]
              refine wpAnyH_take (i := 3) (v := .slice (some ad) (L.length) cu) rfl (by kernel_rfl) (by kernel_rfl) (by kernel_rfl) (fun _ _ _ h => h) (Or.inl ⟨by rfl, fun w hSw => ?_⟩) (by assumption) ?_
              · (try dsimp only at hSw); go_simp
              try simp only [Act.put, List.setIfInBounds_toArray, List.set_cons_zero, List.set_cons_succ, List.getElem_toArray, List.getElem_cons_zero, List.getElem_cons_succ]
              refine wpAnyH_take (i := 5) (v := .slice (some ⟨bx, ox, none⟩) T.length cap) rfl (by kernel_rfl) (by kernel_rfl) (by kernel_rfl) (fun _ _ _ h => h) (Or.inl ⟨by rfl, fun w hSw => ?_⟩) (by assumption) ?_
              · (try dsimp only at hSw); go_simp
              try simp only [Act.put, List.setIfInBounds_toArray, List.set_cons_zero, List.set_cons_succ, List.getElem_toArray, List.getElem_cons_zero, List.getElem_cons_succ]
              refine wpAnyH_take (i := 6) (v := .int .i64 (i : Int)) rfl (by kernel_rfl) (by kernel_rfl) (by kernel_rfl) (fun _ _ _ h => h) (Or.inl ⟨by rfl, fun w hSw => ?_⟩) (by assumption) ?_
              · (try dsimp only at hSw); go_simp
              try simp only [Act.put, List.setIfInBounds_toArray, List.set_cons_zero, List.set_cons_succ, List.getElem_toArray, List.getElem_cons_zero, List.getElem_cons_succ]
              refine wpAnyH_take (i := 7) (v := .pointer (some ⟨bx, ox + i, none⟩)) rfl (by kernel_rfl) (by kernel_rfl) (by kernel_rfl) (fun _ _ _ h => h) (Or.inl ⟨by rfl, fun w hSw => ?_⟩) (by assumption) ?_
              · (try dsimp only at hSw); go_simp
              try simp only [Act.put, List.setIfInBounds_toArray, List.set_cons_zero, List.set_cons_succ, List.getElem_toArray, List.getElem_cons_zero, List.getElem_cons_succ]
              refine wpAnyH_take (i := 8) (v := .string x) rfl (by kernel_rfl) (by kernel_rfl) (by kernel_rfl) (fun _ _ _ h => h) (Or.inl ⟨by rfl, fun w hSw => ?_⟩) (by assumption) ?_
              · (try dsimp only at hSw); go_simp
              try simp only [Act.put, List.setIfInBounds_toArray, List.set_cons_zero, List.set_cons_succ, List.getElem_toArray, List.getElem_cons_zero, List.getElem_cons_succ]
              refine wpAnyH_take (i := 11) (v := .slice (some ad) L.length cu) rfl (by kernel_rfl) (by kernel_rfl) (by kernel_rfl) (fun _ _ _ h => h) (Or.inl ⟨by rfl, fun w hSw => ?_⟩) (by assumption) ?_
              · (try dsimp only at hSw); go_simp
              try simp only [Act.put, List.setIfInBounds_toArray, List.set_cons_zero, List.set_cons_succ, List.getElem_toArray, List.getElem_cons_zero, List.getElem_cons_succ]
              refine wpAnyH_take (i := 12) (v := .int .i64 (L.length : Int)) rfl (by kernel_rfl) (by kernel_rfl) (by kernel_rfl) (fun _ _ _ h => h) (Or.inl ⟨by rfl, fun w hSw => ?_⟩) (by assumption) ?_
              · (try dsimp only at hSw); go_simp
              try simp only [Act.put, List.setIfInBounds_toArray, List.set_cons_zero, List.set_cons_succ, List.getElem_toArray, List.getElem_cons_zero, List.getElem_cons_succ]
              refine wpAnyH_take (i := 13) (v := .slice (some (ad.add L.length)) 0 (cu - L.length)) rfl (by kernel_rfl) (by kernel_rfl) (by kernel_rfl) (fun _ _ _ h => h) (Or.inl ⟨by rfl, fun w hSw => ?_⟩) (by assumption) ?_
              · (try dsimp only at hSw); go_simp
              try simp only [Act.put, List.setIfInBounds_toArray, List.set_cons_zero, List.set_cons_succ, List.getElem_toArray, List.getElem_cons_zero, List.getElem_cons_succ]
              have hT := Sl.takeS HSd.out (show L.length ≤ L.length by omega)
              have hDp := Sl.emptyS wd (some (ad.add L.length)) (cu - L.length) (by omega)
              refine wpAnyH_ready (rs := [0, 9]) (by kernel_rfl) (by simp) (AllReadyH.cons rfl (fun K hK => ?_) (AllReadyH.cons rfl (fun K hK => ?_) AllReadyH.nil))
              · have hbA := (bel_alloc wd (.cells #[] 9))
                have hoA := own_empty wd 9 1
                go_simp
                refine hK.out _ _ (((hbA).cell (p := ⟨bx, ox + i, none⟩) hbx).trans hHeld) (fun _ => ?_)
                clear hK K
                try simp only [Act.put, List.setIfInBounds_toArray, List.set_cons_zero, List.set_cons_succ, List.getElem_toArray, List.getElem_cons_zero, List.getElem_cons_succ]
                refine wpAnyH_ready (rs := [4, 9]) (by kernel_rfl) (by simp) (AllReadyH.cons rfl (fun K hK => ?_) (AllReadyH.cons rfl (fun K hK => ?_) AllReadyH.nil))
                · refine step_app (by rfl) (.tmp 44) (.tmp 47) (by rfl) wd.heap.size _ _ ([]) (L.take (L.length)) (by rfl) (by rfl) hoA (hT.below hbA) ?_ ?_ ?_
                  · (simp only [List.length_append, List.length_take, List.length_drop, List.length_cons, List.length_nil]; omega)
                  · exact (hbA).size
                  intro v4 w4 ho4 hg4
                  have hb4 := (hbA).trans (own_grown hoA hg4 (Nat.le_refl _) (hbA).size)
                  refine hK.out _ _ (((hb4).cell (p := ⟨bx, ox + i, none⟩) hbx).trans hHeld) (fun _ => ?_)
                  clear hK K
                  try simp only [Act.put, List.setIfInBounds_toArray, List.set_cons_zero, List.set_cons_succ, List.getElem_toArray, List.getElem_cons_zero, List.getElem_cons_succ]
                  have hb4' := hb4.trans ((bel_alloc w4 (.cells #[.string x] 9)).mono hb4.size)
                  have ho4' := ho4.alloc (.cells #[.string x] 9)
                  have hx4 := lit_at (heap_alloc_new w4 (.cells #[.string x] 9))
                  refine wpAnyH_ready (rs := [9]) (by kernel_rfl) (by simp) (AllReadyH.cons rfl (fun K hK => ?_) AllReadyH.nil)
                  go_simp
                  refine hK.out _ _ (((hb4').cell (p := ⟨bx, ox + i, none⟩) hbx).trans hHeld) (fun _ => ?_)
                  clear hK K
                  try simp only [Act.put, List.setIfInBounds_toArray, List.set_cons_zero, List.set_cons_succ, List.getElem_toArray, List.getElem_cons_zero, List.getElem_cons_succ]
                  refine wpAnyH_ready (rs := [10]) (by kernel_rfl) (by simp) (AllReadyH.cons rfl (fun K hK => ?_) AllReadyH.nil)
                  refine step_app (by rfl) (.tmp 48) (.tmp 53) (by rfl) wd.heap.size _ _ ([] ++ L.take (L.length)) ([x]) (by rfl) (by rfl) ho4' hx4 ?_ ?_ ?_
                  · (simp only [List.length_append, List.length_take, List.length_drop, List.length_cons, List.length_nil]; omega)
                  · exact (hb4').size
                  intro v5 w5 ho5 hg5
                  have hb5 := (hb4').trans (own_grown ho4' hg5 (Nat.le_refl _) (hb4').size)
                  refine hK.out _ _ (((hb5).cell (p := ⟨bx, ox + i, none⟩) hbx).trans hHeld) (fun _ => ?_)
                  clear hK K
                  try simp only [Act.put, List.setIfInBounds_toArray, List.set_cons_zero, List.set_cons_succ, List.getElem_toArray, List.getElem_cons_zero, List.getElem_cons_succ]
                  refine wpAnyH_ready (rs := [14]) (by kernel_rfl) (by simp) (AllReadyH.cons rfl (fun K hK => ?_) AllReadyH.nil)
                  refine step_app (by rfl) (.tmp 54) (.tmp 57) (by rfl) wd.heap.size _ _ ([] ++ L.take (L.length) ++ [x]) ([]) (by rfl) (by rfl) ho5 (hDp.below hb5) ?_ ?_ ?_
                  · (simp only [List.length_append, List.length_take, List.length_drop, List.length_cons, List.length_nil]; omega)
                  · exact (hb5).size
                  intro v6 w6 ho6 hg6
                  have hb6 := (hb5).trans (own_grown ho5 hg6 (Nat.le_refl _) (hb5).size)
                  refine hK.out _ _ (((hb6).cell (p := ⟨bx, ox + i, none⟩) hbx).trans hHeld) (fun _ => ?_)
                  clear hK K
                  try simp only [Act.put, List.setIfInBounds_toArray, List.set_cons_zero, List.set_cons_succ, List.getElem_toArray, List.getElem_cons_zero, List.getElem_cons_succ]
                  refine wpAnyH_take (i := 15) (v := v6) rfl (by kernel_rfl) (by kernel_rfl) (by kernel_rfl) (fun _ _ _ h => h) (Or.inl ⟨by rfl, fun w hSw => ?_⟩) (by assumption) ?_
                  · (try dsimp only at hSw); go_simp
                  try simp only [Act.put, List.setIfInBounds_toArray, List.set_cons_zero, List.set_cons_succ, List.getElem_toArray, List.getElem_cons_zero, List.getElem_cons_succ]
                  refine wpAnyH_done (by kernel_rfl) ?_ _
                  go_wp2
                  go_roundw
                  case rel => exact ⟨i + 1, by omega, by go_num, bel_step HB.out (HDd.out.trans (hb6.mono HDd.out.size)), [] ++ L.take (L.length) ++ [x] ++ [], by (simp only [List.length_append, List.length_take, List.length_drop, List.length_cons, List.length_nil]; omega), Sl.of_owns ho6, hid (by rw [← HF2.out, HI2.out]; simp)⟩
                  case measure => simp [intOf]; omega
                · have hb2 := hbA.trans ((bel_alloc (wd.alloc (.cells #[] 9)) (.cells #[.string x] 9)).mono hbA.size)
                  have hoA2 := hoA.alloc (.cells #[.string x] 9)
                  have hx2 := heap_alloc_new (wd.alloc (.cells #[] 9)) (.cells #[.string x] 9)
                  rw [World.size_alloc] at hx2
                  go_simp
                  refine hK.out _ _ (((hb2).cell (p := ⟨bx, ox + i, none⟩) hbx).trans hHeld) (fun _ => ?_)
                  clear hK K
                  try simp only [Act.put, List.setIfInBounds_toArray, List.set_cons_zero, List.set_cons_succ, List.getElem_toArray, List.getElem_cons_zero, List.getElem_cons_succ]
                  refine wpAnyH_ready (rs := [4]) (by kernel_rfl) (by simp) (AllReadyH.cons rfl (fun K hK => ?_) AllReadyH.nil)
                  refine step_app (by rfl) (.tmp 44) (.tmp 47) (by rfl) wd.heap.size _ _ ([]) (L.take (L.length)) (by rfl) (by rfl) hoA2 (hT.below hb2) ?_ ?_ ?_
                  · (simp only [List.length_append, List.length_take, List.length_drop, List.length_cons, List.length_nil]; omega)
                  · exact (hb2).size
                  intro v4 w4 ho4 hg4
                  have hb4 := (hb2).trans (own_grown hoA2 hg4 (Nat.le_refl _) (hb2).size)
                  refine hK.out _ _ (((hb4).cell (p := ⟨bx, ox + i, none⟩) hbx).trans hHeld) (fun _ => ?_)
                  clear hK K
                  try simp only [Act.put, List.setIfInBounds_toArray, List.set_cons_zero, List.set_cons_succ, List.getElem_toArray, List.getElem_cons_zero, List.getElem_cons_succ]
                  have hx4 := lit_at ((hg4.block (wd.heap.size + 1) (by simp) (by simp [Value.ownBlock])).trans hx2)
                  refine wpAnyH_ready (rs := [10]) (by kernel_rfl) (by simp) (AllReadyH.cons rfl (fun K hK => ?_) AllReadyH.nil)
                  refine step_app (by rfl) (.tmp 48) (.tmp 53) (by rfl) wd.heap.size _ _ ([] ++ L.take (L.length)) ([x]) (by rfl) (by rfl) ho4 hx4 ?_ ?_ ?_
                  · (simp only [List.length_append, List.length_take, List.length_drop, List.length_cons, List.length_nil]; omega)
                  · exact (hb4).size
                  intro v5 w5 ho5 hg5
                  have hb5 := (hb4).trans (own_grown ho4 hg5 (Nat.le_refl _) (hb4).size)
                  refine hK.out _ _ (((hb5).cell (p := ⟨bx, ox + i, none⟩) hbx).trans hHeld) (fun _ => ?_)
                  clear hK K
                  try simp only [Act.put, List.setIfInBounds_toArray, List.set_cons_zero, List.set_cons_succ, List.getElem_toArray, List.getElem_cons_zero, List.getElem_cons_succ]
                  refine wpAnyH_ready (rs := [14]) (by kernel_rfl) (by simp) (AllReadyH.cons rfl (fun K hK => ?_) AllReadyH.nil)
                  refine step_app (by rfl) (.tmp 54) (.tmp 57) (by rfl) wd.heap.size _ _ ([] ++ L.take (L.length) ++ [x]) ([]) (by rfl) (by rfl) ho5 (hDp.below hb5) ?_ ?_ ?_
                  · (simp only [List.length_append, List.length_take, List.length_drop, List.length_cons, List.length_nil]; omega)
                  · exact (hb5).size
                  intro v6 w6 ho6 hg6
                  have hb6 := (hb5).trans (own_grown ho5 hg6 (Nat.le_refl _) (hb5).size)
                  refine hK.out _ _ (((hb6).cell (p := ⟨bx, ox + i, none⟩) hbx).trans hHeld) (fun _ => ?_)
                  clear hK K
                  try simp only [Act.put, List.setIfInBounds_toArray, List.set_cons_zero, List.set_cons_succ, List.getElem_toArray, List.getElem_cons_zero, List.getElem_cons_succ]
                  refine wpAnyH_take (i := 15) (v := v6) rfl (by kernel_rfl) (by kernel_rfl) (by kernel_rfl) (fun _ _ _ h => h) (Or.inl ⟨by rfl, fun w hSw => ?_⟩) (by assumption) ?_
                  · (try dsimp only at hSw); go_simp
                  try simp only [Act.put, List.setIfInBounds_toArray, List.set_cons_zero, List.set_cons_succ, List.getElem_toArray, List.getElem_cons_zero, List.getElem_cons_succ]
                  refine wpAnyH_done (by kernel_rfl) ?_ _
                  go_wp2
                  go_roundw
                  case rel => exact ⟨i + 1, by omega, by go_num, bel_step HB.out (HDd.out.trans (hb6.mono HDd.out.size)), [] ++ L.take (L.length) ++ [x] ++ [], by (simp only [List.length_append, List.length_take, List.length_drop, List.length_cons, List.length_nil]; omega), Sl.of_owns ho6, hid (by rw [← HF2.out, HI2.out]; simp)⟩
                  case measure => simp [intOf]; omega
              · have hbB := (bel_alloc wd (.cells #[.string x] 9))
                have hx2 := heap_alloc_new wd (.cells #[.string x] 9)
                go_simp
                refine hK.out _ _ (((hbB).cell (p := ⟨bx, ox + i, none⟩) hbx).trans hHeld) (fun _ => ?_)
                clear hK K
                try simp only [Act.put, List.setIfInBounds_toArray, List.set_cons_zero, List.set_cons_succ, List.getElem_toArray, List.getElem_cons_zero, List.getElem_cons_succ]
                have hb2 := hbB.trans ((bel_alloc (wd.alloc (.cells #[.string x] 9)) (.cells #[] 9)).mono hbB.size)
                have hoB := own_empty (wd.alloc (.cells #[.string x] 9)) 9 1
                rw [World.size_alloc] at hoB
                have hoB2 := own_base hoB (Nat.le_succ wd.heap.size)
                have hx3 := (Below.heap_alloc (wd.alloc (.cells #[.string x] 9)) (.cells #[] 9) wd.heap.size (by simp)).trans hx2
                refine wpAnyH_ready (rs := [0]) (by kernel_rfl) (by simp) (AllReadyH.cons rfl (fun K hK => ?_) AllReadyH.nil)
                go_simp
                refine hK.out _ _ (((hb2).cell (p := ⟨bx, ox + i, none⟩) hbx).trans hHeld) (fun _ => ?_)
                clear hK K
                try simp only [Act.put, List.setIfInBounds_toArray, List.set_cons_zero, List.set_cons_succ, List.getElem_toArray, List.getElem_cons_zero, List.getElem_cons_succ]
                refine wpAnyH_ready (rs := [4]) (by kernel_rfl) (by simp) (AllReadyH.cons rfl (fun K hK => ?_) AllReadyH.nil)
                refine step_app (by rfl) (.tmp 44) (.tmp 47) (by rfl) wd.heap.size _ _ ([]) (L.take (L.length)) (by rfl) (by rfl) hoB2 (hT.below hb2) ?_ ?_ ?_
                · (simp only [List.length_append, List.length_take, List.length_drop, List.length_cons, List.length_nil]; omega)
                · exact (hb2).size
                intro v4 w4 ho4 hg4
                have hb4 := (hb2).trans (own_grown hoB2 hg4 (Nat.le_refl _) (hb2).size)
                refine hK.out _ _ (((hb4).cell (p := ⟨bx, ox + i, none⟩) hbx).trans hHeld) (fun _ => ?_)
                clear hK K
                try simp only [Act.put, List.setIfInBounds_toArray, List.set_cons_zero, List.set_cons_succ, List.getElem_toArray, List.getElem_cons_zero, List.getElem_cons_succ]
                have hx4 := lit_at ((hg4.block wd.heap.size (by simp; omega) (by simp [Value.ownBlock])).trans hx3)
                refine wpAnyH_ready (rs := [10]) (by kernel_rfl) (by simp) (AllReadyH.cons rfl (fun K hK => ?_) AllReadyH.nil)
                refine step_app (by rfl) (.tmp 48) (.tmp 53) (by rfl) wd.heap.size _ _ ([] ++ L.take (L.length)) ([x]) (by rfl) (by rfl) ho4 hx4 ?_ ?_ ?_
                · (simp only [List.length_append, List.length_take, List.length_drop, List.length_cons, List.length_nil]; omega)
                · exact (hb4).size
                intro v5 w5 ho5 hg5
                have hb5 := (hb4).trans (own_grown ho4 hg5 (Nat.le_refl _) (hb4).size)
                refine hK.out _ _ (((hb5).cell (p := ⟨bx, ox + i, none⟩) hbx).trans hHeld) (fun _ => ?_)
                clear hK K
                try simp only [Act.put, List.setIfInBounds_toArray, List.set_cons_zero, List.set_cons_succ, List.getElem_toArray, List.getElem_cons_zero, List.getElem_cons_succ]
                refine wpAnyH_ready (rs := [14]) (by kernel_rfl) (by simp) (AllReadyH.cons rfl (fun K hK => ?_) AllReadyH.nil)
                refine step_app (by rfl) (.tmp 54) (.tmp 57) (by rfl) wd.heap.size _ _ ([] ++ L.take (L.length) ++ [x]) ([]) (by rfl) (by rfl) ho5 (hDp.below hb5) ?_ ?_ ?_
                · (simp only [List.length_append, List.length_take, List.length_drop, List.length_cons, List.length_nil]; omega)
                · exact (hb5).size
                intro v6 w6 ho6 hg6
                have hb6 := (hb5).trans (own_grown ho5 hg6 (Nat.le_refl _) (hb5).size)
                refine hK.out _ _ (((hb6).cell (p := ⟨bx, ox + i, none⟩) hbx).trans hHeld) (fun _ => ?_)
                clear hK K
                try simp only [Act.put, List.setIfInBounds_toArray, List.set_cons_zero, List.set_cons_succ, List.getElem_toArray, List.getElem_cons_zero, List.getElem_cons_succ]
                refine wpAnyH_take (i := 15) (v := v6) rfl (by kernel_rfl) (by kernel_rfl) (by kernel_rfl) (fun _ _ _ h => h) (Or.inl ⟨by rfl, fun w hSw => ?_⟩) (by assumption) ?_
                · (try dsimp only at hSw); go_simp
                try simp only [Act.put, List.setIfInBounds_toArray, List.set_cons_zero, List.set_cons_succ, List.getElem_toArray, List.getElem_cons_zero, List.getElem_cons_succ]
                refine wpAnyH_done (by kernel_rfl) ?_ _
                go_wp2
                go_roundw
                case rel => exact ⟨i + 1, by omega, by go_num, bel_step HB.out (HDd.out.trans (hb6.mono HDd.out.size)), [] ++ L.take (L.length) ++ [x] ++ [], by (simp only [List.length_append, List.length_take, List.length_drop, List.length_cons, List.length_nil]; omega), Sl.of_owns ho6, hid (by rw [← HF2.out, HI2.out]; simp)⟩
                case measure => simp [intOf]; omega
    · obtain rfl : i = T.length := by omega
      have HF2 := hid (show L = sortW T by rw [HF.out, take_all (Nat.le_refl _)]; rfl)
      go_wp2
      go_ret
      exact ⟨_, rfl, by rw [← HF2.out]; exact HS.out, HB.out⟩
end Go.Proofs.Ytalklhjmnoodeaa
