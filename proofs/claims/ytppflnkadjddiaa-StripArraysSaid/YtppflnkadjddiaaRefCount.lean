/-
  The reference of layer 19: Count.
  No condition beyond the number of columns being at most 16, or not allowed.
-/
import Derived.Test.YtppflnkadjddiaaRefAdd
import Derived.Test.YtppflnkadjddiaaRefValid
import Derived.Deep.LoopGhost
import Derived.Deep.RegionWith
namespace Go.Proofs.Ytppflnkadjddiaa
open Go.RowKit
set_option linter.unusedVariables false

def numC (xs : List Nat) : List Value := xs.flatMap (fun x => [.bool false, .string (nmg x)])
theorem numC_len (xs : List Nat) : (numC xs).length = xs.length * 2 := by
  induction xs with
  | nil => rfl
  | cons a t ih => simp only [numC, List.flatMap_cons, List.length_append, List.length_cons, List.length_nil] at ih ⊢; omega
theorem numC_snoc (xs : List Nat) (x : Nat) : numC (xs ++ [x]) = numC xs ++ [.bool false, .string (nmg x)] := by simp [numC]
theorem numC_get : ∀ (xs : List Nat) (j x : Nat), xs[j]? = some x → (numC xs)[j * 2]? = some (.bool false) ∧ (numC xs)[j * 2 + 1]? = some (.string (nmg x)) := by
  intro xs
  induction xs with
  | nil => intro j x h; simp at h
  | cons a t ih =>
    intro j x h
    have e : numC (a :: t) = .bool false :: .string (nmg a) :: numC t := rfl
    cases j with
    | zero => simp at h; subst h; rw [e]; exact ⟨rfl, rfl⟩
    | succ j =>
      have := ih j x (by simpa using h)
      rw [e, show (j + 1) * 2 = j * 2 + 2 from by omega, show j * 2 + 2 + 1 = (j * 2 + 1) + 2 from by omega]
      exact this
theorem NRow.of_own {w : World} {base : Nat} {e : TypeId} {g n cap : Nat} {xs : List Nat} (h : w.ownsRow base e 2 (.slice (some ⟨g, 0, none⟩) n cap) n (numC xs)) (hl : xs.length = n) : NRow w g xs := by
  refine ⟨fun j x hx => ?_, fun o => h.frozenAt o⟩
  have hj := lt_of_some hx
  have hg := numC_get xs j x hx
  exact ⟨by rw [h.cellAt _ (by omega)]; exact hg.1, by rw [h.cellAt _ (by omega)]; exact hg.2⟩
theorem oneCell_num (x : Nat) : ∀ u ∈ (#[Value.bool false, Value.string (nmg x)] : Array Value).toList, u.oneCell' = true := by simp [Value.oneCell']
theorem ones_succ (k : Nat) : List.replicate (k + 1) 1 = List.replicate k 1 ++ [1] := List.replicate_succ'
theorem small_len {x m : Nat} (hm : m ≤ 20) (h : x ≤ 16 ^ m) : (bytesBE x).length ≤ 1000 := by
  have h1 : 16 ^ m < 256 ^ (m + 1) := by
    have h2 : 16 ^ m ≤ 256 ^ m := Nat.pow_le_pow_left (by decide) m
    have h3 : 256 ^ m < 256 ^ (m + 1) := Nat.pow_lt_pow_right (by decide) (by omega)
    omega
  have := bytesBE_len x (m + 1) (by omega)
  omega

set_option maxRecDepth 100000 in
set_option maxHeartbeats 4000000 in
theorem refCount_bad (h n : Int) (v : Value) (l : List Int) (w : World) (hl : Sl 1 w v l.length (ints l)) (hE : cntE h n l ≠ 0) :
    Calls Try.prog 23 #[.int .i64 h, .int .i64 n, v] w (CountPost h n l w) := by
  have hN : cntN h n l = 0 := by rw [cntN, if_neg hE]
  have HN := hid hN
  have hlw := refCheck_any h l v (w.alloc (.cells #[.bool false, .string ⟨#[]⟩] 41)) (hl.below ((Below.refl _ _).alloc (Nat.le_refl _) _))
  by_cases hc : chk h l = 0
  · have hE2 : cntE h n l = 2 := by
      rw [cntE, if_neg (by simp [hc])] at hE ⊢
      split
      · rfl
      · rename_i h'; rw [if_neg h'] at hE; simp at hE
    have hn : n < 0 ∨ 4096 < n := by
      rw [cntE, if_neg (by simp [hc])] at hE2
      split at hE2
      · assumption
      · cases hE2
    have HE := hid hE2
    rw [hc] at hlw
    clear hE hE2 hN hl
    go_enter Try.func23, Try.ntmps23
    go_upto_region 4 with (go_at_call 33; refine hlw.mono ?_; rintro e w' ⟨rfl, nd, rfl⟩)
    by_cases hn0 : n < 0
    · go_wp2
      refine bodyPost_ret (v := .tuple #[.agg #[.bool false, .string ⟨#[]⟩], .int .i64 2]) ?_ rfl ⟨by rw [HN.out, HE.out, nmg, bytesBE_zero], ?_⟩
      · simp [results, Try.results23, go_sem]
      · exact ((below_drewN ((Below.refl _ _).alloc (Nat.le_refl _) _) nd).setCell (p := ⟨w.heap.size, 0, none⟩) (Nat.le_refl _) _).setCell (p := ⟨w.heap.size, 1, none⟩) (Nat.le_refl _) _
    · have hn1 : 4096 < n := by omega
      go_wp2
      refine bodyPost_ret (v := .tuple #[.agg #[.bool false, .string ⟨#[]⟩], .int .i64 2]) ?_ rfl ⟨by rw [HN.out, HE.out, nmg, bytesBE_zero], ?_⟩
      · simp [results, Try.results23, go_sem]
      · exact ((below_drewN ((Below.refl _ _).alloc (Nat.le_refl _) _) nd).setCell (p := ⟨w.heap.size, 0, none⟩) (Nat.le_refl _) _).setCell (p := ⟨w.heap.size, 1, none⟩) (Nat.le_refl _) _
  · have hE2 : cntE h n l = chk h l := by rw [cntE, if_pos (by simp [hc])]
    have HE := hid hE2
    have hcb : ((chk h l) != 0) = true := by simp [hc]
    clear hE hE2 hN hl
    generalize chk h l = C at *
    go_enter Try.func23, Try.ntmps23
    go_upto_region 3 with (go_at_call 33; refine hlw.mono ?_; rintro e w' ⟨rfl, nd, rfl⟩)
    clear hlw
    go_wp2
    refine bodyPost_ret (v := .tuple #[.agg #[.bool false, .string ⟨#[]⟩], .int .i64 C]) ?_ rfl ⟨by rw [HN.out, HE.out, nmg, bytesBE_zero], ?_⟩
    · simp [results, Try.results23, go_sem]
    · exact ((below_drewN ((Below.refl _ _).alloc (Nat.le_refl _) _) nd).setCell (p := ⟨w.heap.size, 0, none⟩) (Nat.le_refl _) _).setCell (p := ⟨w.heap.size, 1, none⟩) (Nat.le_refl _) _

/-- What stands while the reference's Count runs: the result's cells and the blocks. -/
structure RC (w : World) (wx : World) : Prop where
  bel : Below w.heap.size w wx
  res : wx.heap[w.heap.size]? = some (.cells #[.bool false, .string ⟨#[]⟩] 41 (0, 0))
  lo : w.heap.size < wx.heap.size
theorem RC.keep {w wx wy : World} {B : Nat} (h : RC w wx) (hb : Below B wx wy) (hB : w.heap.size + 1 ≤ B) : RC w wy :=
  ⟨h.bel.trans (hb.mono (by omega)), (hb.block _ (by omega)).trans h.res, Nat.lt_of_lt_of_le h.lo hb.size⟩
theorem cstep_get (P : Nat → Nat → Bool) (N : Nat) (xs : List Nat) {e : Nat} (h : e < N) : (cstep P N xs)[e]? = some (acc P xs N e) := by simp [cstep, h]
theorem own_form {w : World} {base : Nat} {e : TypeId} {sz : Nat} {v : Value} {n : Nat} {xs : List Value} (h : w.ownsRow base e sz v n xs) (hn : 0 < n) : ∃ g cap, v = .slice (some ⟨g, 0, none⟩) n cap ∧ base ≤ g ∧ g < w.heap.size := by
  rcases h.2 with ⟨_, h0⟩ | ⟨g, cap, cur, hv, hg, hh, _⟩
  · omega
  · exact ⟨g, cap, hv, hg, (Array.getElem?_eq_some_iff.1 hh).1⟩
/-- A sum in a variable that may be written. -/
structure NumF (X : World) (g n : Nat) : Prop where
  c0 : X.cell? ⟨g, 0, none⟩ = some (.bool false)
  c1 : X.cell? ⟨g, 1, none⟩ = some (.string (nmg n))
  f0 : X.frozen? ⟨g, 0, none⟩ = false
  f1 : X.frozen? ⟨g, 1, none⟩ = false
theorem NumF.keep {X Y : World} {g n : Nat} (h : NumF X g n) (hb : Below X.heap.size X Y) : NumF Y g n := ⟨keeps hb h.c0, keeps hb h.c1, keeps_frozen hb h.c0 h.f0, keeps_frozen hb h.c1 h.f1⟩
theorem NumF.set {X : World} {g n : Nat} (h : NumF X g n) (k : Nat) : NumF ((X.setCell ⟨g, 0, none⟩ (.bool false)).setCell ⟨g, 1, none⟩ (.string (nmg k))) g k := by
  have h2 := set_two h.c0 h.c1 (.bool false) (.string (nmg k))
  exact ⟨h2.1, h2.2, by rw [World.frozen?_setCell, World.frozen?_setCell]; exact h.f0, by rw [World.frozen?_setCell, World.frozen?_setCell]; exact h.f1⟩
theorem numF_new (w : World) : NumF (w.alloc (.cells #[.bool false, .string ⟨#[]⟩] 41)) w.heap.size 0 := ⟨by simp [go_sem], by simp [go_sem, nmg, bytesBE_zero], by simp [go_sem], by simp [go_sem]⟩
theorem below_set2 {B : Nat} {a w : World} (h : Below B a w) {g : Nat} (hg : B ≤ g) (u v : Value) : Below B a ((w.setCell ⟨g, 0, none⟩ u).setCell ⟨g, 1, none⟩ v) := (h.setCell (p := ⟨g, 0, none⟩) hg u).setCell (p := ⟨g, 1, none⟩) hg v
def LB (w : World) (N m : Nat) (P : Nat → Nat → Bool) (gk : Nat) (u i : Value) (wr : World) : Prop :=
  ∃ k g cap : Nat, gk + k = m ∧ i = .int .i64 ((k : Int) + 1) ∧ u = .slice (some ⟨g, 0, none⟩) N cap ∧ wr.ownsRow (w.heap.size + 1) 41 2 (.slice (some ⟨g, 0, none⟩) N cap) N (numC (citer P N k)) ∧ RC w wr
def LC (wo : World) (N : Nat) (ys : List Nat) (gk : Nat) (u i : Value) (wr : World) : Prop :=
  ∃ e : Nat, gk + e = N ∧ i = .int .i64 e ∧ wr.ownsRow wo.heap.size 41 2 u e (numC (ys.take e)) ∧ Below wo.heap.size wo wr
def LD (wr : World) (N : Nat) (f : Nat → Nat) (gk : Nat) (i : Value) (wx : World) : Prop :=
  ∃ c : Nat, gk + c = N ∧ i = .int .i64 c ∧ NumF wx wr.heap.size (f c) ∧ Below wr.heap.size wr wx ∧ wr.heap.size < wx.heap.size
theorem RC.four {w wx : World} (h : RC w wx) : wx.cell? ⟨w.heap.size, 0, none⟩ = some (.bool false) ∧ wx.cell? ⟨w.heap.size, 1, none⟩ = some (.string ⟨#[]⟩) ∧ wx.frozen? ⟨w.heap.size, 0, none⟩ = false ∧ wx.frozen? ⟨w.heap.size, 1, none⟩ = false := by
  refine ⟨?_, ?_, ?_, ?_⟩
  · rw [cell_of_row _ w.heap.size 0 _ _ _ h.res]; rfl
  · rw [cell_of_row _ w.heap.size 1 _ _ _ h.res]; rfl
  · simp only [World.frozen?, h.res]; simp
  · simp only [World.frozen?, h.res]; simp
def LA (w : World) (N gk : Nat) (u i : Value) (wr : World) : Prop :=
  ∃ k : Nat, gk + k = N ∧ i = .int .i64 k ∧ wr.ownsRow (w.heap.size + 1) 41 2 u k (numC (List.replicate k 1)) ∧ RC w wr

set_option maxRecDepth 100000 in
set_option maxHeartbeats 8000000 in
theorem refCount_good (h n : Int) (v : Value) (l : List Int) (w : World) (hl : Sl 1 w v l.length (ints l)) (hc : chk h l = 0) (hn0 : 0 ≤ n) (hn1 : n ≤ 16) :
    Calls Try.prog 23 #[.int .i64 h, .int .i64 n, v] w (CountPost h n l w) := by
  have hE : cntE h n l = 0 := by rw [cntE, if_neg (by simp [hc]), if_neg (by omega)]
  have hN : cntN h n l = cnt (mayP h l) (side h).toNat n.toNat := by rw [cntN, if_pos hE]
  obtain ⟨⟨h1, h4⟩, _⟩ := chk_range hc
  obtain ⟨H, rfl⟩ : ∃ H : Nat, h = (H : Int) := ⟨h.toNat, by omega⟩
  have hlw := refCheck_any (H : Int) l v (w.alloc (.cells #[.bool false, .string ⟨#[]⟩] 41)) (hl.below ((Below.refl _ _).alloc (Nat.le_refl _) _))
  rw [hc] at hlw
  have hRC : ∀ nd, RC w ((w.alloc (.cells #[.bool false, .string ⟨#[]⟩] 41)).drewN nd) := fun nd =>
    ⟨below_drewN ((Below.refl _ _).alloc (Nat.le_refl _) _) nd, heap_alloc_new w _, by show w.heap.size < (w.alloc _).heap.size; simp⟩
  have HRC := hid hRC
  have HL := hid hl
  have HE := hid hE
  have HN := hid hN
  clear hE hN hl hRC
  by_cases hz : n = 0
  · have HZ := hid (show cntN (H : Int) n l = 1 by rw [HN.out, hz, cnt]; rfl)
    subst hz
    go_enter Try.func23, Try.ntmps23
    go_upto_region 7 with (go_at_call 33; refine hlw.mono ?_; rintro e w' ⟨rfl, nd, rfl⟩)
    clear hlw
    have hR := HRC.out nd
    generalize (w.alloc (.cells #[.bool false, .string ⟨#[]⟩] 41)).drewN nd = W at *
    go_wp2_with (go_at_call 48; refine (refOf_any 1 _ (by decide)).mono ?_; rintro e w1 ⟨rfl, hb⟩; have hR1 := hR.keep hb hR.lo; obtain ⟨r0, r1, r2, r3⟩ := hR1.four)
    refine bodyPost_ret (v := .tuple #[.agg #[.bool false, .string (nmg 1)], .int .i64 0]) ?_ rfl ⟨by rw [HZ.out, HE.out], ?_⟩
    · simp [results, Try.results23, go_sem, r0, r1]
    · exact (hR1.bel.setCell (p := ⟨w.heap.size, 0, none⟩) (Nat.le_refl _) _).setCell (p := ⟨w.heap.size, 1, none⟩) (Nat.le_refl _) _
  · obtain ⟨m, rfl⟩ : ∃ m : Nat, n = ((m + 1 : Nat) : Int) := ⟨(n - 1).toNat, by omega⟩
    obtain ⟨hsw, hs2, hs16⟩ := side_wrap (H : Int) h1 h4
    obtain ⟨N, hNs⟩ : ∃ N : Nat, side (H : Int) = (N : Int) := ⟨(side (H : Int)).toNat, by omega⟩
    rw [hNs] at hs2 hs16
    have HSz := hid (fun w => show Calls Try.prog 49 #[.int .i64 (H : Int)] w fun e w' => e = .returned (.int .i64 (N : Int)) ∧ w = w' by
      have := refSize_any (H : Int) w (by omega) (by omega)
      rw [Int.toNat_natCast] at this
      have e : (2 : Int) ^ H = (N : Int) := by rw [← hNs]; simp [side]
      rwa [e] at this)
    have HN' := hid (show cntN (H : Int) ((m + 1 : Nat) : Int) l = (citer (mayP (H : Int) l) N m).sum by rw [HN.out, hNs]; simp [cnt])
    have HP2 := hid (show (2 : Int) ^ H = (N : Int) by rw [← hNs]; simp [side])
    clear HN hNs hc hsw
    go_enter Try.func23, Try.ntmps23
    go_upto_region 8 with (go_at_call 33; refine hlw.mono ?_; rintro e w' ⟨rfl, nd, rfl⟩)
    clear hlw
    have hR := HRC.out nd
    generalize (w.alloc (.cells #[.bool false, .string ⟨#[]⟩] 41)).drewN nd = W at *
    have HR := hid hR
    clear hR HRC
    go_upto_region 10 with fail
    go_loopg [9, 10] N (fun gk u i wr => LA w N gk u i wr)
    case atStart =>
      have := HR.out.lo
      exact ⟨0, by omega, rfl, own_base (own_empty W _ _) this, HR.out.keep ((Below.refl W.heap.size W).alloc (Nat.le_refl _) _) this⟩
    case round =>
      obtain ⟨k, hk, rfl, hown, hR2⟩ := hrel
      have HR2 := hid hR2
      clear hR2 HR
      by_cases hkN : k < N
      · have HO := hid (ones_succ k)
        have hlo := HR2.out.lo
        go_wp2_with (first
          | (go_at_call 49; refine (HSz.out _).mono ?_; rintro e w1 ⟨rfl, rfl⟩)
          | (go_at_call 48; refine (refOf_any 1 _ (by decide)).mono ?_; rintro e w1 ⟨rfl, hb⟩; have hbs := hb.size)
          | (at_builtin; refine wpList_push _ rfl _ _ 81 rfl (w.heap.size + 1) 41 (.agg #[.bool false, .string ⟨#[]⟩]) 2 24 Try.underlying81 Try.infoInt rfl (by decide) _ _ _ rfl (own_below hown hb) #[.bool false, .string (nmg 1)] rfl (oneCell_num _) rfl (by unfold maxLen; omega) (by omega) (by omega) ?_; intro g gc w2 hown1 hg hb2))
        have hR3 := (HR2.out.keep hb hlo).keep hb2 (Nat.le_refl _)
        clear hg
        go_roundg (N - (k + 1))
        case rel => exact ⟨k + 1, by omega, by go_num, by rw [HO.out, numC_snoc]; exact hown1, hR3⟩
        case measure => omega
      · obtain rfl : N = k := by omega
        have hown2 : wr.ownsRow (w.heap.size + 1) 41 2 u9 N (numC (citer (mayP (H : Int) l) N 0)) := hown
        have HOwn := hid hown2
        clear hk hkN hown hown2
        obtain ⟨g9, gc9, rfl, _, _⟩ := own_form HOwn.out (by omega)
        go_upto_region 14 with (go_at_call 49; refine (HSz.out _).mono ?_; rintro e w1 ⟨rfl, rfl⟩)
        have hm15 : m ≤ 15 := by omega
        go_loopg [9, 11] m (fun gk u i wr => LB w N m (mayP (H : Int) l) gk u i wr)
        case atStart => exact ⟨0, g9, gc9, by omega, rfl, rfl, HOwn.out, HR2.out⟩
        case round =>
          obtain ⟨k, g, cap, hk, rfl, rfl, hown, hR⟩ := hrel
          have HR := hid hR
          have HM := hid (citer_most (mayP (H : Int) l) (N := N) (by omega) k)
          have HLen := hid (citer_len (mayP (H : Int) l) N k)
          have HO := hid hown
          clear HR2 HOwn hR hown
          by_cases hkm : k < m
          · have HS := hid (show citer (mayP (H : Int) l) N (k + 1) = cstep (mayP (H : Int) l) N (citer (mayP (H : Int) l) N k) from rfl)
            generalize citer (mayP (H : Int) l) N k = xs at *
            have HRow := hid (NRow.of_own HO.out HLen.out)
            obtain ⟨wo, rfl⟩ : ∃ wo : World, wo = wr := ⟨_, rfl⟩
            have hgs := (own_form HO.out (by omega))
            have hglt : g < wo.heap.size := by obtain ⟨g', c', hv, _, hlt⟩ := hgs; simp only [Value.slice.injEq, Option.some.injEq, Addr.mk.injEq, and_true, true_and] at hv; omega
            have hlo := HR.out.lo
            clear hgs
            go_upto_region 18 with fail
            go_loopg [12, 13] N (fun gk u i wr => LC wo N (cstep (mayP (H : Int) l) N xs) gk u i wr)
            case atStart => exact ⟨0, by omega, rfl, own_empty _ _ _, (Below.refl _ _).alloc (Nat.le_refl _) _⟩
            case round =>
              obtain ⟨e, he, rfl, hown, hbel⟩ := hrel
              have HOw := hid hown
              have HBe := hid hbel
              have hbs := hbel.size
              clear hown hbel
              by_cases heN : e < N
              · go_upto_region 22 with (go_at_call 49; refine (HSz.out _).mono ?_; rintro e' w1 ⟨rfl, rfl⟩)
                have HN0 := hid (numF_new wr)
                have HB0 := hid (show Below wr.heap.size wr (wr.alloc (.cells #[.bool false, .string ⟨#[]⟩] 41)) from (Below.refl _ _).alloc (Nat.le_refl _) _)
                have HL0 : wr.heap.size < (wr.alloc (.cells #[.bool false, .string ⟨#[]⟩] 41)).heap.size := by simp
                generalize wr.alloc (.cells #[.bool false, .string ⟨#[]⟩] 41) = w3 at *
                obtain ⟨wp, rfl⟩ : ∃ wp : World, wp = wr := ⟨_, rfl⟩
                go_loopg [15] N (fun gk i wr => LD wp N (fun c => acc (mayP (H : Int) l) xs c e) gk i wr)
                case atStart => exact ⟨0, by omega, rfl, HN0.out, HB0.out, HL0⟩
                case round =>
                  obtain ⟨c, hc, rfl, hF, hbel, hlt⟩ := hrel
                  have HF := hid hF
                  have HBx := hid hbel
                  have HRx := hid (HR.out.keep (HBe.out.trans (hbel.mono hbs)) (by omega))
                  clear HN0 HB0 HL0 hF hbel
                  by_cases hcN : c < N
                  · have hsl := HL.out.below HRx.out.bel
                    have hbs1 := refBeside_any H v l c e wr (by omega) (by omega) (by omega) (by omega) (by omega) (by omega) hsl
                    have HBs := hid (show Calls Try.prog 46 #[.int .i64 (H : Int), v, .int .i64 (c : Int), .int .i64 (e : Int)] wr fun e' w' => e' = .returned (.bool (mayP (H : Int) l c e)) ∧ wr = w' from hbs1)
                    clear hsl hbs1
                    cases hP : mayP (H : Int) l c e
                    · have HA := hid (show acc (mayP (H : Int) l) xs (c + 1) e = acc (mayP (H : Int) l) xs c e by rw [acc, hP]; simp)
                      rw [hP] at HBs
                      clear hP
                      go_wp2_with (first
                        | (go_at_call 49; refine (HSz.out _).mono ?_; rintro e' w1 ⟨rfl, rfl⟩)
                        | (go_at_call 46; refine HBs.out.mono ?_; rintro e' w1 ⟨rfl, rfl⟩))
                      go_roundg (N - (c + 1))
                      case rel => exact ⟨c + 1, by omega, by go_num, by show NumF _ _ (acc _ _ (c + 1) e); rw [HA.out]; exact HF.out, HBx.out, hlt⟩
                      case measure => omega
                    · obtain ⟨x, hx⟩ := some_of_lt (l := xs) (k := c) (by rw [HLen.out]; exact hcN)
                      have HA := hid (show acc (mayP (H : Int) l) xs (c + 1) e = acc (mayP (H : Int) l) xs c e + x by rw [acc, if_pos hP, List.getD_eq_getElem?_getD, hx]; rfl)
                      rw [hP] at HBs
                      have hR3 := HRow.out.keep (HBe.out.trans (HBx.out.mono hbs)) hglt
                      obtain ⟨k0, k1⟩ := hR3.cell c x hx
                      have hx1 : (bytesBE x).length ≤ 1000 := small_len (m := k) (by omega) (HM.out x (List.mem_of_getElem? hx))
                      have ha1 : (bytesBE (acc (mayP (H : Int) l) xs c e)).length ≤ 1000 := small_len (m := k + 1) (by omega) (by
                        have h1 := acc_most (mayP (H : Int) l) HM.out c e
                        have h2 : c * 16 ^ k ≤ 16 * 16 ^ k := Nat.mul_le_mul_right _ (by omega)
                        rw [Nat.pow_succ]; omega)
                      have HX1 := hid hx1
                      have HA1 := hid ha1
                      have c0 : wr.cell? ⟨wp.heap.size, 0, none⟩ = _ := HF.out.c0
                      have c1 : wr.cell? ⟨wp.heap.size, 1, none⟩ = some (.string (nmg (acc (mayP (H : Int) l) xs c e))) := HF.out.c1
                      have f0 := HF.out.f0
                      have f1 := HF.out.f1
                      have HF' := hid (show NumF wr wp.heap.size (acc (mayP (H : Int) l) xs c e) from HF.out)
                      clear hP hx hR3 hx1 ha1 HF
                      generalize acc (mayP (H : Int) l) xs c e = A at *
                      go_upto_region 25 with (first
                        | (go_at_call 49; refine (HSz.out _).mono ?_; rintro e' w1 ⟨rfl, rfl⟩)
                        | (go_at_call 46; refine HBs.out.mono ?_; rintro e' w1 ⟨rfl, rfl⟩))
                      go_region_with (go_at_call 50; refine (refAdd_any A x _ HA1.out HX1.out).mono ?_; rintro e' w5 ⟨rfl, hb⟩; have c0' := keeps hb c0; have c1' := keeps hb c1; have f0' := keeps_frozen hb c0 f0; have f1' := keeps_frozen hb c1 f1)
                      all_goals
                        have hb4 : Below wr.heap.size wr w5 := ⟨hb.os, hb.tape, hb.output, hb.size, hb.block⟩
                        have HFn := hid ((HF'.out.keep hb4).set (A + x))
                        have HBn := hid (HBx.out.trans (hb4.mono (by omega)))
                        have hszn := hb4.size
                        clear hb hb4 c0 c1 f0 f1 c0' c1' f0' f1' k0 k1
                        go_wp2
                        go_roundg (N - (c + 1))
                        case rel => exact ⟨c + 1, by omega, by go_num, by show NumF _ _ (acc _ _ (c + 1) e); rw [HA.out]; exact HFn.out, below_set2 HBn.out (Nat.le_refl _) _ _, by simp [World.setCell]; omega⟩
                        case measure => omega
                  · obtain rfl : N = c := by omega
                    have HT := hid (take_snoc (cstep_get (mayP (H : Int) l) N xs heN))
                    have c0 := HF.out.c0
                    have c1 : wr.cell? ⟨wp.heap.size, 1, none⟩ = some (.string (nmg (acc (mayP (H : Int) l) xs N e))) := HF.out.c1
                    have hown := own_below HOw.out HBx.out
                    have hbz := HBx.out.size
                    clear hc hcN HF
                    generalize acc (mayP (H : Int) l) xs N e = A at *
                    go_wp2_with (first
                      | (go_at_call 49; refine (HSz.out _).mono ?_; rintro e' w1 ⟨rfl, rfl⟩)
                      | (at_builtin; refine wpList_push _ rfl _ _ 81 rfl wo.heap.size 41 (.agg #[.bool false, .string ⟨#[]⟩]) 2 24 Try.underlying81 Try.infoInt rfl (by decide) _ _ _ rfl hown #[.bool false, .string (nmg A)] rfl (oneCell_num _) rfl (by unfold maxLen; omega) (by omega) (by omega) ?_; intro g5 gc5 w6 hown6 hg6 hb6))
                    clear hg6
                    go_roundg (N - (e + 1))
                    case rel => exact ⟨e + 1, by omega, by go_num, by rw [HT.out, numC_snoc]; exact hown6, (HBe.out.trans (HBx.out.mono hbs)).trans hb6⟩
                    case measure => omega
              · obtain rfl : N = e := by omega
                have hcl : (cstep (mayP (H : Int) l) N xs).length = N := by simp [cstep]
                have hown2 : wr.ownsRow wo.heap.size 41 2 u12 N (numC (citer (mayP (H : Int) l) N (k + 1))) := by
                  have := HOw.out
                  rw [take_all (by omega)] at this
                  rw [HS.out]
                  exact this
                obtain ⟨g2, gc2, rfl, _, _⟩ := own_form hown2 (by omega)
                have HOn := hid (own_base hown2 (show w.heap.size + 1 ≤ wo.heap.size by omega))
                have HRn := hid (HR.out.keep HBe.out (by omega))
                clear he heN hown2 hcl
                go_wp2_with (go_at_call 49; refine (HSz.out _).mono ?_; rintro e' w1 ⟨rfl, rfl⟩)
                go_roundg (m - (k + 1))
                case rel => exact ⟨k + 1, g2, gc2, by omega, by go_num, rfl, HOn.out, HRn.out⟩
                case measure => omega
          · obtain rfl : m = k := by omega
            generalize citer (mayP (H : Int) l) N m = xs at *
            have HRow := hid (NRow.of_own HO.out HLen.out)
            have hgs := (own_form HO.out (by omega))
            have hglt : g < wr.heap.size := by obtain ⟨g', c', hv, _, hlt⟩ := hgs; simp only [Value.slice.injEq, Option.some.injEq, Addr.mk.injEq, and_true, true_and] at hv; omega
            have hlo := HR.out.lo
            clear hgs hk hkm
            go_upto_region 30 with fail
            have HN0 := hid (numF_new wr)
            have HB0 := hid (show Below wr.heap.size wr (wr.alloc (.cells #[.bool false, .string ⟨#[]⟩] 41)) from (Below.refl _ _).alloc (Nat.le_refl _) _)
            have HL0 : wr.heap.size < (wr.alloc (.cells #[.bool false, .string ⟨#[]⟩] 41)).heap.size := by simp
            generalize wr.alloc (.cells #[.bool false, .string ⟨#[]⟩] 41) = w3 at *
            obtain ⟨wp, rfl⟩ : ∃ wp : World, wp = wr := ⟨_, rfl⟩
            go_loopg [17] N (fun gk i wr => LD wp N (fun c => (xs.take c).sum) gk i wr)
            case atStart => exact ⟨0, by omega, rfl, HN0.out, HB0.out, HL0⟩
            case round =>
              obtain ⟨c, hc, rfl, hF, hbel, hlt⟩ := hrel
              have HF := hid hF
              have HBx := hid hbel
              clear HN0 HB0 HL0 hF hbel
              by_cases hcN : c < N
              · obtain ⟨x, hx⟩ := some_of_lt (l := xs) (k := c) (by rw [HLen.out]; exact hcN)
                have HA := hid (show (xs.take (c + 1)).sum = (xs.take c).sum + x by rw [take_snoc hx]; simp)
                have hR3 := HRow.out.keep HBx.out hglt
                obtain ⟨k0, k1⟩ := hR3.cell c x hx
                have hx1 : (bytesBE x).length ≤ 1000 := small_len (m := m) (by omega) (HM.out x (List.mem_of_getElem? hx))
                have ha1 : (bytesBE (xs.take c).sum).length ≤ 1000 := small_len (m := m + 1) (by omega) (by
                  have h1 := sum_most (M := 16 ^ m) (xs := xs.take c) (fun z hz => HM.out z (List.mem_of_mem_take hz))
                  have h2 : (xs.take c).length * 16 ^ m ≤ 16 * 16 ^ m := Nat.mul_le_mul_right _ (by rw [List.length_take]; omega)
                  rw [Nat.pow_succ]; omega)
                have HX1 := hid hx1
                have HA1 := hid ha1
                have c0 := HF.out.c0
                have c1 : wr.cell? ⟨wp.heap.size, 1, none⟩ = some (.string (nmg (xs.take c).sum)) := HF.out.c1
                have f0 := HF.out.f0
                have f1 := HF.out.f1
                have HF' := hid (show NumF wr wp.heap.size (xs.take c).sum from HF.out)
                clear hx hR3 hx1 ha1 HF
                generalize (xs.take c).sum = A at *
                go_upto_region 32 with (go_at_call 49; refine (HSz.out _).mono ?_; rintro e' w1 ⟨rfl, rfl⟩)
                go_region_with (go_at_call 50; refine (refAdd_any A x _ HA1.out HX1.out).mono ?_; rintro e' w5 ⟨rfl, hb⟩; have c0' := keeps hb c0; have c1' := keeps hb c1; have f0' := keeps_frozen hb c0 f0; have f1' := keeps_frozen hb c1 f1)
                all_goals
                  have hb4 : Below wr.heap.size wr w5 := ⟨hb.os, hb.tape, hb.output, hb.size, hb.block⟩
                  have HFn := hid ((HF'.out.keep hb4).set (A + x))
                  have HBn := hid (HBx.out.trans (hb4.mono (by omega)))
                  have hszn := hb4.size
                  clear hb hb4 c0 c1 f0 f1 c0' c1' f0' f1' k0 k1
                  go_wp2
                  go_roundg (N - (c + 1))
                  case rel => exact ⟨c + 1, by omega, by go_num, by show NumF _ _ ((xs.take (c + 1)).sum); rw [HA.out]; exact HFn.out, below_set2 HBn.out (Nat.le_refl _) _ _, by simp [World.setCell]; omega⟩
                  case measure => omega
              · obtain rfl : N = c := by omega
                have hsum : (xs.take N).sum = xs.sum := by rw [take_all (by rw [HLen.out]; exact Nat.le_refl _)]
                have c0 := HF.out.c0
                have c1 : wr.cell? ⟨wp.heap.size, 1, none⟩ = some (.string (nmg xs.sum)) := by rw [← hsum]; exact HF.out.c1
                have HRx := hid (HR.out.keep HBx.out hlo)
                obtain ⟨r0, r1, r2, r3⟩ := HRx.out.four
                clear hsum hc hcN HF
                generalize xs.sum = A at *
                go_wp2_with (go_at_call 49; refine (HSz.out _).mono ?_; rintro e' w1 ⟨rfl, rfl⟩)
                refine bodyPost_ret (v := .tuple #[.agg #[.bool false, .string (nmg A)], .int .i64 0]) ?_ rfl ⟨by rw [HE.out, HN'.out], ?_⟩
                · simp [results, Try.results23, go_sem, r0, r1]
                · exact below_set2 HRx.out.bel (Nat.le_refl _) _ _
end Go.Proofs.Ytppflnkadjddiaa
