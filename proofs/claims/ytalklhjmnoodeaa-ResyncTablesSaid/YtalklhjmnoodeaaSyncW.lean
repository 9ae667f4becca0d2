/-
  resync.Synchronizing: the first word that leads from all states to the state 0.
  No condition beyond the words lying in a slice.
-/
import Derived.Test.YtalklhjmnoodeaaSyncA
import Derived.Test.YtalklhjmnoodeaaIndexW
import Derived.Deep.RegionHeld3
import Derived.Deep.LoopGhost
import Derived.OwnWalk
import Derived.Laws.BitsAllLaws
namespace Go.Proofs.Ytalklhjmnoodeaa
open Go.RowKit Go.Deep
set_option linter.unusedVariables false

def sErr (q : Int) (ws : List ByteArray) : Int := if rErr q ws [] ≠ 0 then rErr q ws [] else if 16 < sizeW ws then 4 else 0
def syncS (o : Option (List Nat)) : ByteArray := match o with | none => ⟨#[]⟩ | some l => toStr l
def syncB (o : Option (List Nat)) : Bool := o.isSome
def SPost (q : Int) (ws : List ByteArray) (w : World) (e : Ending) (w' : World) : Prop :=
  Below w.heap.size w w' ∧
  ((sErr q ws ≠ 0 ∧ e = .returned (.tuple #[.string ⟨#[]⟩, .bool false, .int .i64 (sErr q ws)])) ∨
   (sErr q ws = 0 ∧ e = .returned (.tuple #[.string (syncS (syncN (nxN ws) (sizeW ws) q.toNat)), .bool (syncB (syncN (nxN ws) (sizeW ws) q.toNat)), .int .i64 0])))
theorem pow_size {n : Nat} (h : n ≤ 16) : 1 ≤ 2 ^ n ∧ 2 ^ n ≤ 65536 := by
  have h1 : 2 ^ n ≤ 2 ^ 16 := Nat.pow_le_pow_right (by decide) h
  have h2 := Nat.two_pow_pos n
  have h3 : (2 : Nat) ^ 16 = 65536 := by decide
  omega
theorem pow_wrap {n : Nat} (h : n ≤ 16) : IntKind.i64.wrap ((2 : Int) ^ n) = ((2 ^ n : Nat) : Int) ∧ IntKind.i64.wrap (((2 ^ n : Nat) : Int) - 1) = ((2 ^ n - 1 : Nat) : Int) := by
  have : n = 0 ∨ n = 1 ∨ n = 2 ∨ n = 3 ∨ n = 4 ∨ n = 5 ∨ n = 6 ∨ n = 7 ∨ n = 8 ∨ n = 9 ∨ n = 10 ∨ n = 11 ∨ n = 12 ∨ n = 13 ∨ n = 14 ∨ n = 15 ∨ n = 16 := by omega
  rcases this with rfl | rfl | rfl | rfl | rfl | rfl | rfl | rfl | rfl | rfl | rfl | rfl | rfl | rfl | rfl | rfl | rfl <;> decide +kernel

theorem i64_or_nat (a b : Nat) (ha : a < 2 ^ 16) (hb : b < 2 ^ 16) : bits .or .i64 (a : Int) (b : Int) = ((a ||| b : Nat) : Int) := by
  have h16 : (2 : Nat) ^ 16 = 65536 := by decide
  have hx : a ||| b < 2 ^ 16 := Nat.or_lt_two_pow ha hb
  have h1 : (BitVec.ofInt 64 (a : Int)).toNat = a := by rw [BitVec.ofInt_natCast, BitVec.toNat_ofNat]; exact Nat.mod_eq_of_lt (by omega)
  have h2 : (BitVec.ofInt 64 (b : Int)).toNat = b := by rw [BitVec.ofInt_natCast, BitVec.toNat_ofNat]; exact Nat.mod_eq_of_lt (by omega)
  show IntKind.i64.wrap ((BitVec.ofInt 64 (a : Int) ||| BitVec.ofInt 64 (b : Int)).toNat : Int) = _
  rw [BitVec.toNat_or, h1, h2, IntKind.wrap_i64]
  omega
theorem pow_w64 {n : Nat} (h : n ≤ 16) : wrap64 ((2 : Int) ^ n) = ((2 ^ n : Nat) : Int) := by
  have : n = 0 ∨ n = 1 ∨ n = 2 ∨ n = 3 ∨ n = 4 ∨ n = 5 ∨ n = 6 ∨ n = 7 ∨ n = 8 ∨ n = 9 ∨ n = 10 ∨ n = 11 ∨ n = 12 ∨ n = 13 ∨ n = 14 ∨ n = 15 ∨ n = 16 := by omega
  rcases this with rfl | rfl | rfl | rfl | rfl | rfl | rfl | rfl | rfl | rfl | rfl | rfl | rfl | rfl | rfl | rfl | rfl <;> decide +kernel
theorem or_step {T d n : Nat} (hn : n ≤ 16) (hT : T < 2 ^ n) (hd : d < n) : bits .or .i64 (T : Int) (wrap64 ((2 : Int) ^ d)) = ((T ||| 2 ^ d : Nat) : Int) := by
  have h1 : wrap64 ((2 : Int) ^ d) = ((2 ^ d : Nat) : Int) := pow_w64 (n := d) (by omega)
  rw [h1]
  exact i64_or_nat T (2 ^ d) (Nat.lt_of_lt_of_le hT (Nat.pow_le_pow_right (by decide) hn)) (Nat.pow_lt_pow_right (by decide) (by omega))
theorem pow_pack {n : Nat} (h : n ≤ 16) : ∃ (N M : Nat) (z : Int), Hid (2 ^ n = N ∧ N - 1 = M) ∧ Hid ((n : Int) = z ∧ IntKind.i64.wrap ((2 : Int) ^ z.toNat) = (N : Int) ∧ IntKind.i64.wrap ((N : Int) - 1) = (M : Int)) ∧ 1 ≤ N ∧ N ≤ 65536 ∧ M < N :=
  ⟨2 ^ n, 2 ^ n - 1, n, hid ⟨rfl, rfl⟩, hid ⟨rfl, by rw [Int.toNat_natCast]; exact (pow_wrap h).1, (pow_wrap h).2⟩, (pow_size h).1, (pow_size h).2, by have := (pow_size h).1; omega⟩

set_option maxRecDepth 100000 in
set_option maxHeartbeats 4000000 in
theorem sync_any (q : Int) (v : Value) (ws : List ByteArray) (w : World) (hl : Sl 1 w v ws.length (strs ws)) :
    Calls Try.prog 25 #[.agg #[.int .i64 q, v]] w (SPost q ws w) := by
  have HL := hid hl
  have HBd := hid (fun X h => rbuild_any q v (.slice none 0 0) ws [] X h (Sl.nil 1 X))
  obtain ⟨ao, cap, rfl, _, hl1, hl2, hl3⟩ := hl
  clear hl3
  go_enter Try.func25, Try.ntmps25
  by_cases hE : rErr q ws [] = 0
  · obtain ⟨hA, h64, _⟩ := rErr_zero hE
    have hm := mach_of hA
    obtain ⟨Q, rfl⟩ : ∃ Q : Nat, q = Q := ⟨q.toNat, by have := hm.q2; omega⟩
    have HM := hid hm
    have hq16 := hm.q16
    have hq2 := hm.q2
    go_upto_region 2 with (go_at_call 39; refine (HBd.out _ (HL.out.below (bel_alloc _ _))).mono ?_; rintro e w1 (⟨hne, _⟩ | ⟨_, vS, vN, vE, rfl, hres, hb1⟩); (exact absurd hE hne); have HB1 := hid (bel_step (bel_alloc _ _) hb1); obtain ⟨aS, cS, aN, cN, aE, cE, rfl, rfl, rfl⟩ := hres.slices)
    obtain ⟨wp, hwp⟩ : ∃ wp, w1.alloc (.cells #[.int .i64 (Q : Int), .slice aS (sizeW ws) cS, .slice aN (sizeW ws) cN, .slice aE (sizeW ws) cE] 36) = wp := ⟨_, rfl⟩
    obtain ⟨hbp, p0, p1, p2, p3⟩ := boxP hwp
    rw [hwp]
    have HBp := hid (bel_step HB1.out hbp)
    have HNx := hid (((hres.keep hbp).pval (by omega)).nat hm).nx
    have HP := hid (And.intro p0 p2)
    clear hwp hbp hb1 hres HBd HL p2 p3
    generalize w1.heap.size = g at *
    by_cases h16 : 16 < sizeW ws
    · have HD := hid (show sErr Q ws = 4 by rw [sErr, if_neg (by simp [hE]), if_pos h16])
      go_wp2
      go_ret3
      exact ⟨HBp.out, .inl ⟨by rw [HD.out]; decide, by rw [HD.out]; rfl⟩⟩
    · have HD := hid (show sErr Q ws = 0 by rw [sErr, if_neg (by simp [hE]), if_neg h16])
      have hn16 : sizeW ws ≤ 16 := by omega
      have HC := hid hm.lt
      have HPos := hid hm.pos
      generalize hn : sizeW ws = n at *
      have HRes := hid (show syncN (nxN ws) (sizeW ws) ((Q : Int)).toNat = syncN (nxN ws) n Q by rw [hn, Int.toNat_natCast])
      clear hm h16
      obtain ⟨N, M, z, HNN, HW12, hN1, hN2, hMN⟩ := pow_pack hn16
      have hmk := run_make_row' (P := Try.prog) 86 4 (.bool false) 1 Try.underlying86 Try.infoBool rfl .i64 .i64 N (by omega) (by omega)
      go_upto_region 7 with fail
      obtain ⟨hz, e1, e2⟩ := HW12.out
      have hz0 : 0 ≤ z := by omega
      have hz1 : z ≤ 16 := by omega
      have hSQ := SQ.begin wp n N M Q HNN.out.1 HNN.out.2
      have r1 := (World.rowIs_made (wp.alloc (.cells #[.int .i64 (M : Int), .int .i64 (-1), .int .i64 (-1)] 84)) (.bool false) N 4).cell hMN
      have r2 := (World.rowIs_made (wp.alloc (.cells #[.int .i64 (M : Int), .int .i64 (-1), .int .i64 (-1)] 84)) (.bool false) N 4).frozen M
      rw [World.size_alloc] at r1 r2
      have HSQ := hid hSQ
      have HGQ := hid (goodQ_start n)
      have HR0 := hid (show syncN (nxN ws) n Q = bfs (nxN ws) n Q (N + 1) 0 (startQ n) by rw [syncN, HNN.out.1])
      clear hSQ
      go_upto_region 10 with fail
      clear e1 e2 hmk p1 hz0 hz1 HW12 r1 r2
      subst hz
      generalize (wp.alloc (.cells #[.int .i64 (M : Int), .int .i64 (-1), .int .i64 (-1)] 84)).alloc (.cells ((madeCells #[.bool false] N).setIfInBounds M (.bool true)) 4) = W0 at *
      generalize hS : wp.heap.size + 1 = S at *
      go_wp2_with fail
      go_loopw [8, 10] (fun u i wr => ∃ k : Nat, i = .int .i64 k ∧ ∃ (Qs : List Ent) (L : List QE), k ≤ L.length ∧ 0 < L.length ∧ SQ wp S N Q Qs L u wr ∧ GoodQ n Qs ∧ Hid (syncN (nxN ws) n Q = bfs (nxN ws) n Q (N + 1 - k) k Qs)) (fun _ i _ => N + 1 - (intOf i).toNat)
      case atStart => exact ⟨0, rfl, startQ n, [⟨M, -1, -1⟩], Nat.zero_le _, Nat.zero_lt_one, HSQ.out, HGQ.out, HR0⟩
      case round =>
        obtain ⟨k, rfl, Qs, L, hk, hL0, hQ, hG, HB⟩ := hrel
        have HQ := hid hQ
        have hLQ := hQ.link.1
        have HG := hid hG
        have hLN : L.length ≤ N := by have := goodQ_len hG; rw [HNN.out.1] at this; omega
        obtain ⟨gq, cq, rfl⟩ := hQ.slice hL0
        clear HSQ HGQ HR0 hG
        by_cases hlt : k < L.length
        · obtain ⟨l, hl⟩ := some_of_lt hlt
          obtain ⟨x, hx⟩ := some_of_lt (l := Qs) (k := k) (by omega)
          obtain ⟨q0, q1, q2⟩ := hQ.cells hl
          obtain ⟨hset, hlink⟩ := hQ.link.2 k x l hx hl
          have HX := hid (And.intro hx hl)
          rw [hset] at q0
          clear hQ hlink
          by_cases h1 : x.set = 1
          · have HRs := hid (show syncN (nxN ws) n Q = some x.word by
              rw [HB.out, show N + 1 - k = (N - k) + 1 by omega]
              exact bfs_hit hx h1)
            rw [h1] at q0
            clear hx hl hset h1 q1 q2
            go_wp2_with fail
            go_loopw [11, 12] (fun v j wj => ∃ jj : Nat, j = .int .i64 jj ∧ ∃ (xj : Ent) (lj : QE) (rest : List Nat), Qs[jj]? = some xj ∧ L[jj]? = some lj ∧ x.word = xj.word ++ rest ∧ v = .string (toStr rest) ∧ rest.length + jj ≤ k ∧ Dr wr wj) (fun _ j _ => (intOf j).toNat)
            case atStart => exact ⟨k, rfl, x, l, [], HX.out.1, HX.out.2, by simp, rfl, by simp, Dr.refl _⟩
            case round =>
              obtain ⟨jj, rfl, xj, lj, rest, hxj, hlj, hw, rfl, hlen, hD⟩ := hrel
              have HQj := hid (HQ.out.keep (hD.below _))
              obtain ⟨q0, q1, q2⟩ := HQj.out.cells hlj
              have hjl := lt_of_some hlj
              obtain ⟨_, hlink⟩ := HQj.out.link.2 jj xj lj hxj hlj
              rcases hlink with ⟨hb, hnil⟩ | ⟨b, a, hb, ha, hbj, haQ, xb, hxb, hwb⟩
              · rw [hb] at q1
                have HRe := hid (show x.word = rest by rw [hw, hnil]; rfl)
                have HBl := hid (HQj.out.bel)
                clear hxj hlj hw hnil
                go_wp2
                go_ret3
                exact ⟨HBp.out.trans (HBl.out.mono HBp.out.size), .inr ⟨HD.out, by rw [HRes.out, HRs.out, HRe.out]; rfl⟩⟩
              · rw [hb] at q1
                rw [ha] at q2
                have hbL : b < L.length := by omega
                obtain ⟨lb, hlb⟩ := some_of_lt hbL
                have hbne : ((b : Int) != -1) = true := by simp
                have HN := hid (And.intro hxb (And.intro hlb (show x.word = xb.word ++ (a :: rest) by rw [hw, hwb, List.append_assoc]; rfl)))
                have hla := letter_at (a := a) (by omega)
                have hv1 : IntKind.i64.wrap ((a : Int) + 1) = (a : Int) + 1 := by rw [IntKind.wrap_i64]; omega
                have hv2 : (0 : Int) ≤ (a : Int) + 1 := by omega
                have hv3 : (a : Int) + 1 ≤ 16 := by omega
                have hv4 : (0 : Int) ≤ (a : Int) := by omega
                have hv5 : (a : Int) ≤ (a : Int) + 1 := by omega
                have hv6 : ((a : Int) + 1).toNat = a + 1 := by omega
                have hcat : ∀ X : World, (Op.stringOp .add (letW a) (toStr rest)).run Try.prog X = .ok (.string (toStr (a :: rest))) X := fun X => by
                  have h : ¬ (((letW a).size + (toStr rest).size : Nat) : Int) > IntKind.i64.max := by rw [letW_size, toStr_size]; show ¬ ((1 + rest.length : Nat) : Int) > 9223372036854775807; omega
                  unfold Op.stringOp
                  simp only [if_neg h, toStr_cons]
                  rfl
                generalize letW a = la at *
                generalize hts : toStr (a :: rest) = ts at *
                have HTs := hid hts
                have HD9 := hid hD
                clear hxj hlj hw hb ha hxb hlb hwb hts hD
                go_upto_region 18 with fail
                go_quiet (fail)
                clear hcat hla hv1 hv2 hv3 hv4 hv5 hv6
                go_wp2
                go_roundw
                case rel => exact ⟨b, rfl, xb, lb, a :: rest, HN.out.1, HN.out.2.1, HN.out.2.2, by rw [HTs.out], by simp only [List.length_cons]; omega, HD9.out.drewN _⟩
                case measure => simp [intOf]; omega
          · have hb1 : ((x.set : Int) == 1) = false := by simp; omega
            have p0' := keeps HQ.out.bel HP.out.1
            have HStep := hid (show syncN (nxN ws) n Q = bfs (nxN ws) n Q (N - k) (k + 1) (expandK (nxN ws) n Qs x Q) by
              rw [HB.out, show N + 1 - k = (N - k) + 1 by omega]
              exact bfs_step hx h1)
            clear hx hl hset h1 q1 q2
            go_upto_region 21 with fail
            clear p0' hb1 q0
            go_loopw [8, 83] (fun u i wa => ∃ a : Nat, a ≤ Q ∧ i = .int .i64 a ∧ ∃ La : List QE, SQ wp S N Q (expandK (nxN ws) n Qs x a) La u wa ∧ GoodQ n (expandK (nxN ws) n Qs x a)) (fun _ i _ => Q - (intOf i).toNat)
            case atStart => exact ⟨0, Nat.zero_le _, rfl, L, HQ.out, HG.out⟩
            case round =>
              obtain ⟨a, ha, rfl, La, hQa, hGa⟩ := hrel
              have HQa := hid hQa
              have HGa := hid hGa
              have hkx : (expandK (nxN ws) n Qs x a)[k]? = some x := by
                obtain ⟨r, hr⟩ := expandK_pre (nxN ws) n Qs x a
                rw [hr, List.getElem?_append_left (by omega)]
                exact HX.out.1
              have hLa := hQa.link.1
              have hkl : k < La.length := by have := lt_of_some hkx; omega
              obtain ⟨la, hla⟩ := some_of_lt hkl
              have hseta := (hQa.link.2 k x la hkx hla).1
              obtain ⟨ga, ca, rfl⟩ := hQa.slice (by omega)
              have q0 := (hQa.cells hla).1
              rw [hseta] at q0
              have hLaN : La.length ≤ N := by have := goodQ_len hGa; rw [HNN.out.1] at this; omega
              have HKx := hid hkx
              clear hQa hGa hkx hLa hla hseta HQ HG
              by_cases hlt2 : a < Q
              · go_upto_region 25 with fail
                clear q0
                go_loopw [14, 87] (fun v j wj => ∃ s : Nat, s ≤ n ∧ j = .int .i64 s ∧ v = .int .i64 (imgK (nxN ws) x.set a s : Nat) ∧ Dr wr wj) (fun _ j _ => n - (intOf j).toNat)
                case atStart => exact ⟨0, Nat.zero_le _, rfl, rfl, Dr.refl _⟩
                case round =>
                  obtain ⟨s, hs, rfl, rfl, hD⟩ := hrel
                  have HD2 := hid hD
                  by_cases hlt3 : s < n
                  · have HQj := hid (HQa.out.keep (hD.below _))
                    obtain ⟨bn, on, b2, o2, c2, e1, n1, n2⟩ := (HNx.out.below HQj.out.bel).cell hlt3 hlt2
                    subst e1
                    have p2' := keeps HQj.out.bel HP.out.2
                    obtain ⟨lk, hlk⟩ := some_of_lt hkl
                    have q0 := (HQj.out.cells hlk).1
                    rw [(HQj.out.link.2 k x lk HKx.out hlk).1] at q0
                    have hd := HC.out s a
                    have HImg := hid (imgK_lt (nx := nxN ws) HC.out x.set a s)
                    have hbits := i64_and1 ((x.set : Int) / 2 ^ s)
                    have hdiv : ((x.set : Int) / 2 ^ s) % 2 = ((x.set / 2 ^ s % 2 : Nat) : Int) := by simp
                    rw [hdiv] at hbits
                    clear hdiv hlk hD
                    by_cases hbt : x.set / 2 ^ s % 2 = 1
                    · rw [hbt] at hbits
                      have HI := hid (show imgK (nxN ws) x.set a (s + 1) = imgK (nxN ws) x.set a s ||| 2 ^ nxN ws s a by rw [imgK, if_pos hbt])
                      clear hbt
                      generalize imgK (nxN ws) x.set a s = T at *
                      generalize nxN ws s a = d at *
                      have HO := hid (or_step hn16 HImg.out hd)
                      go_wp2
                      go_roundw
                      case rel => exact ⟨s + 1, by omega, by go_num, by rw [HI.out, HO.out], HD2.out⟩
                      case measure => simp [intOf]; omega
                    · have HI := hid (show imgK (nxN ws) x.set a (s + 1) = imgK (nxN ws) x.set a s by rw [imgK, if_neg hbt])
                      have hb0 : x.set / 2 ^ s % 2 = 0 := by omega
                      rw [hb0] at hbits
                      clear hbt hb0
                      go_wp2
                      go_roundw
                      case rel => exact ⟨s + 1, by omega, by go_num, by rw [HI.out], HD2.out⟩
                      case measure => simp [intOf]; omega
                  · have es : s = n := by omega
                    have HI := hid (show imgK (nxN ws) x.set a s = imgK (nxN ws) x.set a n by rw [es])
                    have HQj := hid (HQa.out.keep (hD.below _))
                    have HTn := hid (imgK_lt (nx := nxN ws) HC.out x.set a n)
                    rw [HI.out]
                    obtain ⟨T, hT⟩ : ∃ T, imgK (nxN ws) x.set a n = T := ⟨_, rfl⟩
                    have HT := hid hT
                    rw [hT] at HTn ⊢
                    have hTN : T < N := by have := HTn.out; rw [HNN.out.1] at this; exact this
                    have r1 := HQj.out.s.cell hTN
                    have r2 := HQj.out.s.frozen T
                    clear hT hD es
                    cases hsn : seenQ (expandK (nxN ws) n Qs x a) T
                    · have HEx := hid (show expandK (nxN ws) n Qs x (a + 1) = expandK (nxN ws) n Qs x a ++ [⟨T, x.word ++ [a]⟩] by rw [expandK, HT.out, if_neg (by rw [hsn]; simp)])
                      have HGx := hid (goodQ_snoc (e := ⟨T, x.word ++ [a]⟩) HGa.out HTn.out hsn)
                      rw [hsn] at r1
                      have hm := HQj.out.marked T
                      have HMk := hid hm
                      clear hsn hm
                      generalize Value.slice (some ⟨ga, 0, none⟩) La.length ca = uq at *
                      go_upto_region 32 with fail
                      obtain ⟨Wm, hWm⟩ : ∃ Wm, wr.setCell ⟨S, T, none⟩ (.bool true) = Wm := ⟨_, rfl⟩
                      have HWm := hid hWm
                      rw [hWm] at HMk ⊢
                      clear hWm r1 r2
                      go_wp2_with (at_builtin; refine wpList_push _ rfl _ _ 85 rfl wp.heap.size 84 (.agg #[.int .i64 0, .int .i64 0, .int .i64 0]) 3 24 Try.underlying85 Try.infoReached rfl (by decide) _ _ _ rfl HMk.out.2.1 #[.int .i64 (T : Int), .int .i64 (k : Int), .int .i64 (a : Int)] rfl (by simp [Value.oneCell']) rfl (by unfold maxLen; omega) (by omega) HMk.out.1.size ?_; intro g3 gc3 w3 hown3 hg3 hb3)
                      have HQ3 := hid (HQj.out.push (i := k) (a := a) (ts := T) HKx.out hlt2 (by rw [HWm.out]; exact Below.refl _ _) hg3 hown3)
                      clear hown3 hg3 hb3
                      go_roundw
                      case rel => exact ⟨_, _, _, _, _, ⟨a + 1, by omega, rfl, ⟨La ++ [⟨T, k, a⟩], by rw [HEx.out]; exact HQ3.out⟩, by rw [HEx.out]; exact HGx.out⟩, rfl, rfl, rfl, rfl, by go_num⟩
                      case measure => simp [intOf]; omega
                    · have HEx := hid (show expandK (nxN ws) n Qs x (a + 1) = expandK (nxN ws) n Qs x a by rw [expandK, HT.out, if_pos hsn])
                      rw [hsn] at r1
                      clear hsn
                      go_wp2
                      go_roundw
                      case rel => exact ⟨a + 1, by omega, by go_num, La, by rw [HEx.out]; exact HQj.out, by rw [HEx.out]; exact HGa.out⟩
                      case measure => simp [intOf]; omega
              · have e : a = Q := by omega
                subst e
                go_wp2
                go_roundw
                case rel => exact ⟨k + 1, by go_num, _, La, by omega, by omega, HQa.out, HGa.out, by rw [show N + 1 - (k + 1) = N - k by omega]; exact HStep⟩
                case measure => simp [intOf]; omega
        · have hr := hid (show syncN (nxN ws) n Q = none by rw [HB.out, bfs_end (by omega)])
          clear hQ
          go_wp2
          go_ret3
          exact ⟨HBp.out.trans (HQ.out.bel.mono HBp.out.size), .inr ⟨HD.out, by rw [HRes.out, hr.out]; rfl⟩⟩
  · have hE2 : (rErr q ws [] != 0) = true := by simp [hE]
    have HD := hid (show sErr q ws = rErr q ws [] by rw [sErr, if_pos hE])
    go_wp2_with (go_at_call 39; refine (HBd.out _ (HL.out.below (bel_alloc _ _))).mono ?_; rintro e w1 (⟨_, rfl, hb1⟩ | ⟨h0, _⟩); rotate_left; (exact absurd h0 hE); unfold nilP; have HB1 := hid (bel_step (bel_alloc _ _) hb1))
    go_ret3
    exact ⟨bel_step HB1.out (bel_alloc _ _), .inl ⟨by rw [HD.out]; exact hE, by rw [HD.out]; rfl⟩⟩
end Go.Proofs.Ytalklhjmnoodeaa
