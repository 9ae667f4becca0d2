/-
  program.read: a line of a text, its first word and its numbers.
  The library's tables and errors lie in their variables; the line is not longer than 100000 bytes.
-/
import Derived.Test.YtmabciajhmjmeaaGreatDoorInsTxt
import Derived.Test.YtmabciajhmjmeaaGreatDoorShelfA
import Derived.Test.YtmabciajhmjmeaaGreatDoorShelfV
import Derived.Test.YtmabciajhmjmeaaGreatDoorAidP
import Derived.Test.YtmabciajhmjmeaaGreatDoorBld
import Derived.Lib.AppendIntMem
import Derived.WalkSmall
import Derived.Deep.OwnRows
namespace Go.Proofs.YtmabciajhmjmeaaGreatDoor
open Go.RowKit
set_option linter.unusedVariables false

/-- What the library's functions ask of its variables. -/
structure TxtEnv (w : World) : Prop where
  ml : ∃ m, w.cell? ⟨1, 0, none⟩ = some (.int .i64 m)
  tab : Lib.TabIs Tryz.prog w "internal/strconv.uint64pow10" .u64 Lib.pow10Tab
  syn : ∃ ev, w.cell? ⟨2, 0, none⟩ = some ev ∧ (ev = .nilIface ∨ ∃ te pe, ev = .iface te pe)
  rng : ∃ ev, w.cell? ⟨3, 0, none⟩ = some ev ∧ (ev = .nilIface ∨ ∃ te pe, ev = .iface te pe)
theorem TxtEnv.below {w w' : World} (h : TxtEnv w) (hb : Below w.heap.size w w') : TxtEnv w' := by
  obtain ⟨⟨m, h1⟩, h2, ⟨e3, h3, h4⟩, ⟨e5, h5, h6⟩⟩ := h
  have hg : Tryz.prog.globalNamed "internal/strconv.uint64pow10" = some 0 := by kernel_rfl
  have hc := World.var?_cell hg h2 0
  exact ⟨⟨m, keeps hb h1⟩, var?_below hb hg (World.block_lt_of_cell? w ⟨0, 0, none⟩ (hc.trans rfl)) h2, ⟨e3, keeps hb h3, h4⟩, ⟨e5, keeps hb h5, h6⟩⟩
theorem itoa_nat (n : Nat) : Lib.itoa (n : Int) = Lib.decDigits n := by unfold Lib.itoa; rw [if_neg (by omega)]; simp
theorem itoa_any (n : Nat) (w : World) (hn : n ≤ 9223372036854775807) (E : TxtEnv w) :
    Calls Tryz.prog 16 #[.int .i64 (n : Int)] w fun e w' => e = .returned (.string ⟨(Lib.decDigits n).toArray⟩) ∧ Below w.heap.size w w' := by
  refine (Tryz.strconv_Itoa n (by omega) (by omega) w E.tab).mono ?_
  rintro e w' ⟨rfl, k, os, rfl⟩
  rw [itoa_nat]
  exact ⟨rfl, Lib.below_grow _ w (Nat.le_refl _) k os⟩
/-- What Atoi yields. -/
theorem atoi_any (x : ByteArray) (hx : x.size ≤ 1000000) :
    (∃ v : Int, Lib.atoiAll x.data.toList = .ok v ∧ ∀ w : World, Calls Tryz.prog 48 #[.string x] w fun e w' => e = .returned (.tuple #[.int .i64 v, .nilIface]) ∧ Below w.heap.size w w') ∨
    (numT x.data.toList = none ∧ ∀ w : World, TxtEnv w → Calls Tryz.prog 48 #[.string x] w fun e w' => ∃ (z : Int) (N : Nat), e = .returned (.tuple #[.int .i64 z, .iface 121 (.pointer (some ⟨N, 0, none⟩))]) ∧ Below w.heap.size w w') := by
  rcases h : Lib.atoiAll x.data.toList with v | _ | _
  · refine .inl ⟨v, rfl, fun w => (Tryz.strconv_Atoi_ok x (by omega) v h w).mono ?_⟩
    rintro e w' ⟨rfl, h2⟩
    refine ⟨rfl, ?_⟩
    rcases h2 with rfl | ⟨t, rfl⟩
    · exact Below.refl _ _
    · exact Lib.bytesWorld_below _ _ _
  · refine .inr ⟨by rw [numT, h], fun w E => ?_⟩
    obtain ⟨ev, h3, h4⟩ := E.syn
    refine (Tryz.strconv_Atoi_syntax x (by omega) h ev w h3 h4).mono ?_
    rintro e w' ⟨N, rfl, _, _, hb⟩
    exact ⟨0, N, rfl, hb⟩
  · refine .inr ⟨by rw [numT, h], fun w E => ?_⟩
    obtain ⟨ev, h3, h4⟩ := E.rng
    refine (Tryz.strconv_Atoi_range x (by omega) h ev w h3 h4).mono ?_
    rintro e w' ⟨N, rfl, _, _, hb⟩
    exact ⟨_, N, rfl, hb⟩
theorem numT_ok {x : List UInt8} {v : Int} (h : Lib.atoiAll x = .ok v) : numT x = if 0 ≤ v ∧ v ≤ 999999999 ∧ Lib.decDigits v.toNat = x then some v.toNat else none := by rw [numT, h]
/-- The parts of a string. -/
def cutB (c : UInt8) (s : ByteArray) : List ByteArray := Lib.splitB ⟨#[c]⟩ 0 (Lib.countB s ⟨#[c]⟩) s
theorem cutB_data (c : UInt8) (s : ByteArray) : (cutB c s).map (·.data.toList) = splt c s.data.toList := by
  rw [← splitK_splt]
  exact Lib.splitB_data ⟨#[c]⟩ 0 (Lib.countB s ⟨#[c]⟩) s
theorem splt_len (c : UInt8) (l : List UInt8) : (splt c l).length = Lib.count l [c] + 1 := by
  induction l with
  | nil => rw [Lib.count_one]; rfl
  | cons x l ih =>
    obtain ⟨h, t, e⟩ := splt_some c l
    by_cases hx : x = c
    · subst hx
      rw [splt_eq, Lib.count_cons_eq, List.length_cons, ih]; omega
    · rw [splt_ne hx e, Lib.count_cons_ne x c l hx, ← ih, e]; rfl
theorem splt_parts (c : UInt8) (l : List UInt8) : (splt c l).length ≤ l.length + 1 ∧ ∀ p ∈ splt c l, p.length ≤ l.length := by
  induction l with
  | nil => exact ⟨Nat.le_refl _, fun p hp => by rw [List.mem_singleton.1 hp]; exact Nat.le_refl _⟩
  | cons x l ih =>
    obtain ⟨h, t, e⟩ := splt_some c l
    obtain ⟨i1, i2⟩ := ih
    by_cases hx : x = c
    · subst hx
      rw [splt_eq]
      refine ⟨by simp only [List.length_cons]; omega, fun p hp => ?_⟩
      rcases List.mem_cons.1 hp with rfl | hp
      · simp
      · have := i2 p hp; simp only [List.length_cons]; omega
    · rw [splt_ne hx e]
      rw [e] at i1 i2
      refine ⟨by simp only [List.length_cons] at *; omega, fun p hp => ?_⟩
      rcases List.mem_cons.1 hp with rfl | hp
      · have := i2 h (List.mem_cons_self ..); simp only [List.length_cons]; omega
      · have := i2 p (List.mem_cons_of_mem _ hp); simp only [List.length_cons]; omega
theorem cutB_facts (c : UInt8) (s : ByteArray) : (cutB c s).length = Lib.countB s ⟨#[c]⟩ + 1 ∧ (cutB c s).length ≤ s.size + 1 ∧ ∀ x ∈ cutB c s, x.size ≤ s.size := by
  have h := cutB_data c s
  have h1 := congrArg List.length h
  rw [List.length_map, splt_len] at h1
  obtain ⟨h2, h3⟩ := splt_parts c s.data.toList
  rw [← h, List.length_map] at h2
  have hs : s.data.toList.length = s.size := by simp
  refine ⟨h1, by omega, fun x hx => ?_⟩
  have h4 := h3 x.data.toList (by rw [← h]; exact List.mem_map.2 ⟨x, hx, rfl⟩)
  have hxs : x.data.toList.length = x.size := by simp
  omega
theorem cut_any (c : UInt8) (s : ByteArray) (w : World) (hs : s.size ≤ 1000000) (E : TxtEnv w) :
    Calls Tryz.prog 26 #[.string s, .string ⟨#[c]⟩] w fun e w' => e = .returned (.slice (some ⟨w.heap.size, 0, none⟩) (cutB c s).length (cutB c s).length) ∧ w' = w.alloc (.cells ((cutB c s).map Value.string).toArray 9) := by
  obtain ⟨m, hm⟩ := E.ml
  have h := Tryz.strings_Split s ⟨#[c]⟩ m w (by omega) hm (Nat.le_refl 1)
  rw [(cutB_facts c s).1]
  exact h
def natI (l : List Nat) : List Int := l.map fun n : Nat => (n : Int)
theorem natI_snoc (l : List Nat) (n : Nat) : ints (natI (l ++ [n])) = ints (natI l) ++ [.int .i64 (n : Int)] := by simp [natI, ints]
theorem natI_len (l : List Nat) : (natI l).length = l.length := by simp [natI]
theorem rd_none {s : ByteArray} {x : ByteArray} {h0 : ByteArray} {L : List ByteArray} (h : cutB 32 s = h0 :: L) (hx : x ∈ L) (hn : numT x.data.toList = none) : readT s.data.toList = none := by
  have h2 := cutB_data 32 s
  rw [h] at h2
  rw [readT, ← h2]
  simp only [List.map_cons]
  rw [numsT_bad (List.mem_map.2 ⟨x, hx, rfl⟩) hn]; rfl
theorem rd_some {s : ByteArray} {h0 : ByteArray} {L : List ByteArray} {l : List Nat} (h : cutB 32 s = h0 :: L) (hl : numsT (L.map (·.data.toList)) = some l) : readT s.data.toList = some (h0.data.toList, l) := by
  have h2 := cutB_data 32 s
  rw [h] at h2
  rw [readT, ← h2]
  simp only [List.map_cons]
  rw [hl]; rfl
theorem numsT_step {L : List ByteArray} {k : Nat} {x : ByteArray} {D : List Nat} {n : Nat} (hx : L[k]? = some x) (h1 : numsT ((L.take k).map (·.data.toList)) = some D) (h2 : numT x.data.toList = some n) : numsT ((L.take (k + 1)).map (·.data.toList)) = some (D ++ [n]) := by
  rw [take_snoc hx, List.map_append, List.map_singleton, numsT_snoc, h1, h2]
theorem str_back (x : ByteArray) : (⟨x.data.toList.toArray⟩ : ByteArray) = x := by apply ByteArray.ext; simp
/-- What read answers. -/
def ReadPost (s : ByteArray) (w : World) (e : Ending) (w' : World) : Prop := Below w.heap.size w w' ∧
  ((readT s.data.toList = none ∧ e = .returned (.tuple #[.string ⟨#[]⟩, .slice none 0 0, .bool false])) ∨
   (∃ (h0 : ByteArray) (l : List Nat) (u : Value), readT s.data.toList = some (h0.data.toList, l) ∧ e = .returned (.tuple #[.string h0, u, .bool true]) ∧ w'.ownsRow w.heap.size 3 1 u l.length (ints (natI l))))
set_option maxRecDepth 100000 in
set_option maxHeartbeats 4000000 in
theorem read_any (s : ByteArray) (w : World) (hs : s.size ≤ 100000) (E : TxtEnv w) :
    Calls Tryz.prog 27 #[.string s] w fun e w' => ReadPost s w e w' := by
  obtain ⟨f1, f2, f3⟩ := cutB_facts 32 s
  have HSp := hid (cut_any 32 s w (by omega) E)
  obtain ⟨h0, L, hL⟩ : ∃ h0 L, cutB 32 s = h0 :: L := by
    cases h : cutB 32 s with
    | nil => rw [h] at f1; simp at f1
    | cons a l => exact ⟨a, l, rfl⟩
  have HNo := hid (fun x hx hn => rd_none (x := x) hL hx hn)
  have HYe := hid (fun l hl => rd_some (l := l) hL hl)
  rw [hL] at HSp f2 f3
  have hLl : (h0 :: L).length = L.length + 1 := rfl
  rw [hLl] at HSp f2
  have HSz := hid (fun x (hx : x ∈ L) => f3 x (List.mem_cons_of_mem _ hx))
  have hLn : L.length ≤ 100000 := by omega
  clear f1 f2 f3 hL hLl
  have HE := hid E
  clear E
  unfold ReadPost
  generalize readT s.data.toList = RT at *
  go_enter Tryz.func27, Tryz.ntmps27
  go_upto_region 2 with (go_at_call 26; refine HSp.out.mono ?_; rintro e w1 ⟨rfl, h1⟩; have HK1 := hid (show w1.heap[w.heap.size]? = some (.cells ((h0 :: L).map Value.string).toArray 9 (0, 0)) by rw [h1]; exact heap_alloc_new w _); have HB1 := hid (show Below w.heap.size w w1 by rw [h1]; exact bel_alloc _ _); have HL1 := hid (show w.heap.size < w1.heap.size by rw [h1]; simp); clear h1)
  have c0 : w1.cell? ⟨w.heap.size, 0, none⟩ = some (.string h0) := by
    rw [Lib.cell_of_heap HK1.out]; rfl
  have HC := hid (fun (k : Nat) (x : ByteArray) (hx : L[k]? = some x) => (show w1.cell? ⟨w.heap.size, 1 + k, none⟩ = some (.string x) by
    rw [Lib.cell_of_heap HK1.out, Nat.add_comm]
    simp [hx]))
  have HGl := hid (show w.heap.size < w1.heap.size from HL1.out)
  clear HK1 HL1
  generalize hg : w.heap.size = g at *
  have HG := hid hg
  have HGs := hid (show g ≤ w1.heap.size by rw [← hg]; exact HB1.out.size)
  clear hg
  by_cases hL0 : L.length = 0
  · have hLn0 : L = [] := List.length_eq_zero_iff.1 hL0
    subst hLn0
    have HV := hid (HYe.out [] rfl)
    clear HYe HNo HSz HC HE
    go_wp2_with fail
    go_loopw [16, 6] (fun i u wr => i = .int .i64 0 ∧ u = .slice none 0 0 ∧ w1 = wr) (fun i _ _ => 0)
    case atStart => exact ⟨rfl, rfl, rfl⟩
    case round =>
      obtain ⟨rfl, rfl, rfl⟩ := hrel
      go_wp2
      go_ret3
      exact ⟨by rw [HG.out]; exact HB1.out, .inr ⟨h0, [], .slice none 0 0, HV.out, rfl, World.ownsRow_nil _ _ _ _⟩⟩
  · have hLp : 0 < L.length := by omega
    go_wp2_with fail
    go_loopw [16, 6] (fun i u wr => ∃ (k : Nat) (D : List Nat), k ≤ L.length ∧ i = .int .i64 (k : Int) ∧ D.length = k ∧ Hid (numsT ((L.take k).map (·.data.toList)) = some D) ∧ Hid (wr.ownsRow w1.heap.size 3 1 u k (ints (natI D))) ∧ Hid (Below w1.heap.size w1 wr)) (fun i _ _ => L.length - (intOf i).toNat)
    case atStart => exact ⟨0, [], Nat.zero_le _, rfl, rfl, hid rfl, hid (World.ownsRow_nil _ _ _ _), hid (Below.refl _ _)⟩
    case round =>
      obtain ⟨k, D, hk, rfl, hDl, HD, HO, HB⟩ := hrel
      have HDl := hid hDl
      clear hDl
      rename World => wk
      obtain ⟨au, cu, rfl⟩ := own_slice HO.out
      by_cases hkn : k < L.length
      · obtain ⟨x, hx⟩ := some_of_lt hkn
        have cx := keeps HB.out (HC.out k x hx)
        have hxm := List.mem_of_getElem? hx
        have hxs := HSz.out x hxm
        have HN := hid (fun hn => HNo.out x hxm hn)
        have HS := hid (fun n hn => numsT_step (n := n) hx HD.out hn)
        have HBw := hid (show Below g w wk from HB1.out.trans (HB.out.mono HGs.out))
        have HEk := hid (show TxtEnv wk from HE.out.below (by rw [HG.out]; exact HBw.out))
        have hbs := HB.out.size
        rcases atoi_any x (by omega) with ⟨v, hv, hat⟩ | ⟨hn, hat⟩
        · have HAt := hid hat
          have hnt := numT_ok hv
          clear hat hv hx hxm
          by_cases hv0 : v < 0
          · rw [if_neg (by omega)] at hnt
            have HV := hid (HN.out hnt)
            clear hnt
            go_wp2_with (go_at_call 48; refine (HAt.out _).mono ?_; rintro e w2 ⟨rfl, hb2⟩; have HB2 := hid hb2; clear hb2)
            go_ret3
            exact ⟨by rw [HG.out]; exact HBw.out.trans (HB2.out.mono (Nat.le_trans HGs.out HB.out.size)), .inl ⟨HV.out, rfl⟩⟩
          · by_cases hv9 : 999999999 < v
            · rw [if_neg (by omega)] at hnt
              have HV := hid (HN.out hnt)
              clear hnt
              go_wp2_with (go_at_call 48; refine (HAt.out _).mono ?_; rintro e w2 ⟨rfl, hb2⟩; have HB2 := hid hb2; clear hb2)
              go_ret3
              exact ⟨by rw [HG.out]; exact HBw.out.trans (HB2.out.mono (Nat.le_trans HGs.out HB.out.size)), .inl ⟨HV.out, rfl⟩⟩
            · obtain ⟨n, rfl⟩ : ∃ n : Nat, v = (n : Int) := ⟨v.toNat, by omega⟩
              rw [Int.toNat_natCast] at hnt
              have HIt := hid (fun X (h : Below wk.heap.size wk X) => itoa_any n X (by omega) (HEk.out.below h))
              by_cases hd : Lib.decDigits n = x.data.toList
              · rw [if_pos ⟨by omega, by omega, hd⟩] at hnt
                have HSn := hid (HS.out n hnt)
                have hsx : (⟨(Lib.decDigits n).toArray⟩ : ByteArray) = x := by rw [hd]
                rw [hsx] at HIt
                clear hnt hd hsx HN HS
                go_upto_region 9 with (first
                  | (go_at_call 48; refine (HAt.out _).mono ?_; rintro e w2 ⟨rfl, hb2⟩; have HB2 := hid hb2; clear hb2)
                  | (go_at_call 16; refine (HIt.out _ HB2.out).mono ?_; rintro e w3 ⟨rfl, hb3⟩; have HB3 := hid (HB2.out.trans (hb3.mono HB2.out.size)); have HO3 := hid (show w3.ownsRow w1.heap.size 3 1 (.slice au k cu) k (ints (natI D)) from own_below HO.out HB3.out); clear hb3))
                have hbs3 : w1.heap.size ≤ w3.heap.size := Nat.le_trans hbs HB3.out.size
                go_wp2_with (at_builtin; refine wpList_push _ rfl _ _ 23 rfl w1.heap.size 3 (.int .i64 0) 1 8 Tryz.underlying23 Tryz.infoInt rfl (by decide) _ _ _ rfl HO3.out #[.int .i64 (n : Int)] rfl (oneCell_int _ _) rfl (by unfold maxLen; omega) (by omega) hbs3 ?_; intro g4 gc4 w4 hown4 hg4 hb4; have HO4 := hid hown4; have HB4 := hid (HB.out.trans ((HB3.out.mono hbs).trans hb4)); clear hown4 hg4 hb4)
                go_roundw
                case rel => exact ⟨k + 1, D ++ [n], by omega, by go_num, by rw [List.length_append, HDl.out]; rfl, HSn, hid (by rw [natI_snoc]; exact HO4.out), HB4⟩
                case measure => simp [intOf]; omega
              · rw [if_neg (fun h => hd h.2.2)] at hnt
                have HV := hid (HN.out hnt)
                have hne : ((⟨(Lib.decDigits n).toArray⟩ : ByteArray).toList == x.toList) = false := by
                  rw [beq_eq_false_iff_ne, Lib.toList_data, Lib.toList_data]
                  exact hd
                generalize (⟨(Lib.decDigits n).toArray⟩ : ByteArray) = S at *
                clear hnt hd HN HS
                go_wp2_with (first
                  | (go_at_call 48; refine (HAt.out _).mono ?_; rintro e w2 ⟨rfl, hb2⟩; have HB2 := hid hb2; clear hb2)
                  | (go_at_call 16; refine (HIt.out _ HB2.out).mono ?_; rintro e w3 ⟨rfl, hb3⟩; have HB3 := hid (HB2.out.trans (hb3.mono HB2.out.size)); clear hb3))
                go_ret3
                exact ⟨by rw [HG.out]; exact HBw.out.trans (HB3.out.mono (Nat.le_trans HGs.out HB.out.size)), .inl ⟨HV.out, rfl⟩⟩
        · have HV := hid (HN.out hn)
          have HAt := hid (hat wk HEk.out)
          clear hat hn hx hxm
          go_wp2_with (go_at_call 48; refine HAt.out.mono ?_; rintro e w2 ⟨z, N2, rfl, hb2⟩; have HB2 := hid hb2; clear hb2)
          go_ret3
          exact ⟨by rw [HG.out]; exact HBw.out.trans (HB2.out.mono (Nat.le_trans HGs.out HB.out.size)), .inl ⟨HV.out, rfl⟩⟩
      · obtain rfl : k = L.length := by omega
        have hd := HD.out
        rw [List.take_length] at hd
        have HV := hid (HYe.out D hd)
        have d0 := keeps HB.out c0
        have HBw := hid (show Below g w wk from HB1.out.trans (HB.out.mono HGs.out))
        have hgl := HGl.out
        clear hd HNo HYe HSz HC
        go_wp2
        go_ret3
        exact ⟨by rw [HG.out]; exact HBw.out, .inr ⟨h0, D, _, HV.out, rfl, by rw [HDl.out, HG.out]; exact own_base HO.out HGs.out⟩⟩
end Go.Proofs.YtmabciajhmjmeaaGreatDoor
