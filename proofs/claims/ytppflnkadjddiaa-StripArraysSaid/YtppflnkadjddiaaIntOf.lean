/-
  integer.Of and digits.
  No condition beyond the int's own range and bounds on the lengths.
-/
import Derived.Test.YtppflnkadjddiaaInteger
namespace Go.Proofs.Ytppflnkadjddiaa
open Go.RowKit
set_option linter.unusedVariables false

/-- The sign and the bytes of an integer. -/
def isg (n : Int) : Bool := decide (n < 0)
def img (n : Int) : ByteArray := nmg n.natAbs
theorem isg_of (neg : Bool) (m : Nat) : nsg neg m = isg (if neg then -(m : Int) else m) := by
  cases neg
  · simp [nsg, isg]; try omega
  · by_cases h : m = 0
    · subst h; simp [nsg, isg]
    · simp [nsg, isg, h]; try omega
theorem img_of (neg : Bool) (m : Nat) : nmg m = img (if neg then -(m : Int) else m) := by
  cases neg <;> simp [img]
theorem img_inj {a b : Int} (h1 : isg a = isg b) (h2 : img a = img b) : a = b := by
  have h3 : bytesBE a.natAbs = bytesBE b.natAbs := by simpa [img, nmg] using h2
  have h4 := bytesBE_inj h3
  simp only [isg, decide_eq_decide] at h1
  omega

theorem two_u32 (m : Nat) : U32 [((m : Int) % 4294967296), ((m : Int) / 4294967296 % 4294967296)] := by
  intro x hx
  simp only [List.mem_cons, List.not_mem_nil, or_false] at hx
  rcases hx with rfl | rfl <;> omega
theorem two_digits (m : Nat) (h : m < 18446744073709551616) : natv [((m : Int) % 4294967296), ((m : Int) / 4294967296 % 4294967296)] = m := by
  simp only [natv]
  omega
theorem below_head {w w1 : World} {o o' : Obj} (h : Below ((w.alloc o).alloc o').heap.size ((w.alloc o).alloc o') w1) : Below (w.heap.size + 1) (w.alloc o) w1 :=
  ((Below.refl _ (w.alloc o)).alloc (by simp) o').trans (h.mono (by simp))
/-- A slice that is laid whole, of two elements. -/
theorem Sl.lit2 (w : World) (x y : Value) (e : TypeId) (B : Nat) (hB : B = w.heap.size) : Sl 1 (w.alloc (.cells #[x, y] e)) (.slice (some ⟨B, 0, none⟩) 2 2) 2 [x, y] := by
  subst hB
  refine ⟨_, 2, rfl, by simp, by omega, by omega, .inr ⟨_, 0, rfl, fun j u hj => ?_⟩⟩
  rw [cell_of_row _ w.heap.size (0 + j) #[x, y] e (0, 0) (heap_alloc_new w _)]
  simpa using hj

set_option maxRecDepth 100000 in
set_option maxHeartbeats 1000000 in
theorem of_any (n : Int) (w : World) (h0 : -9223372036854775808 ≤ n) (h1 : n ≤ 9223372036854775807) :
    Calls Try.prog 25 #[.int .i64 n] w fun e w' => e = .returned (.agg #[.bool (isg n), .string (img n)]) ∧ Below w.heap.size w w' := by
  by_cases hn : n < 0
  · obtain ⟨U, hU, hm⟩ : ∃ U, IntKind.u64.wrap n = U ∧ IntKind.u64.wrap (-U) = -n := ⟨_, rfl, by rw [IntKind.wrap_u64, IntKind.wrap_u64]; omega⟩
    obtain ⟨m, hm1⟩ : ∃ m : Nat, -n = (m : Int) := ⟨(-n).toNat, by omega⟩
    rw [hm1] at hm
    have HI := hid (show nsg true m = isg n ∧ nmg m = img n by rw [isg_of, img_of true, if_pos rfl, ← hm1]; simp)
    have HL := hid (two_digits m (by omega))
    have HU := hid (two_u32 m)
    clear hm1
    go_enter Try.func25, Try.ntmps25
    go_wp2_with fail
    refine (number_any true _ [((m : Int) % 4294967296), ((m : Int) / 4294967296 % 4294967296)] _ (Sl.lit2 _ _ _ _ (w.heap.size + 1) (by simp)) HU.out (by simp)).mono ?_
    rintro e w1 ⟨rfl, hb⟩
    rw [HL.out, HI.out.1, HI.out.2]
    obtain ⟨m0, m1, m2, m3⟩ := numW_cells (w := w) (wr := w1) (below_head hb)
    have hbw := (((Below.refl w.heap.size w).alloc (Nat.le_refl _) (.cells #[.bool false, .string ⟨#[]⟩] 41))).trans ((below_head hb).mono (by omega))
    clear hb
    go_wp2
    refine bodyPost_ret (v := .agg #[.bool (isg n), .string (img n)]) ?_ rfl ⟨rfl, (hbw.setCell (p := ⟨w.heap.size, 0, none⟩) (Nat.le_refl _) _).setCell (p := ⟨w.heap.size, 1, none⟩) (Nat.le_refl _) _⟩
    simp [results, Try.results25, go_sem, m0, m1]
  · obtain ⟨m, hm1⟩ : ∃ m : Nat, n = (m : Int) := ⟨n.toNat, by omega⟩
    subst hm1
    have HI := hid (show nsg false m = isg m ∧ nmg m = img m by rw [isg_of, img_of false]; simp)
    have HL := hid (two_digits m (by omega))
    have HU := hid (two_u32 m)
    have he : (m : Int) / 4294967296 % 4294967296 = (m : Int) / 4294967296 := by omega
    rw [he] at HL HU
    clear he
    go_enter Try.func25, Try.ntmps25
    go_wp2_with fail
    refine (number_any false _ [((m : Int) % 4294967296), ((m : Int) / 4294967296)] _ (Sl.lit2 _ _ _ _ (w.heap.size + 1) (by simp)) HU.out (by simp)).mono ?_
    rintro e w1 ⟨rfl, hb⟩
    rw [HL.out, HI.out.1, HI.out.2]
    obtain ⟨m0, m1, m2, m3⟩ := numW_cells (w := w) (wr := w1) (below_head hb)
    have hbw := (((Below.refl w.heap.size w).alloc (Nat.le_refl _) (.cells #[.bool false, .string ⟨#[]⟩] 41))).trans ((below_head hb).mono (by omega))
    clear hb
    go_wp2
    refine bodyPost_ret (v := .agg #[.bool (isg m), .string (img m)]) ?_ rfl ⟨rfl, (hbw.setCell (p := ⟨w.heap.size, 0, none⟩) (Nat.le_refl _) _).setCell (p := ⟨w.heap.size, 1, none⟩) (Nat.le_refl _) _⟩
    simp [results, Try.results25, go_sem, m0, m1]

/-- L digits of t to the base 2^32. -/
def digsN (L t : Nat) : List Int := (List.range L).map fun j => ((t / 4294967296 ^ j % 4294967296 : Nat) : Int)
theorem digsN_len (L t : Nat) : (digsN L t).length = L := by simp [digsN]
theorem digsN_get (L t j : Nat) (h : j < L) : (digsN L t)[j]? = some ((t / 4294967296 ^ j % 4294967296 : Nat) : Int) := by simp [digsN, h]
theorem digsN_zero (L : Nat) : u32s (digsN L 0) = List.replicate L (.int .u32 0) := by
  apply List.ext_getElem?
  intro k
  by_cases hk : k < L <;> simp [u32s, digsN, hk]
theorem digsN_u32 (L t : Nat) : U32 (digsN L t) := by
  intro x hx
  simp only [digsN, List.mem_map] at hx
  obtain ⟨j, _, rfl⟩ := hx
  omega
theorem digsN_natv (L t : Nat) (h : t < 4294967296 ^ L) : natv (digsN L t) = t := by
  induction L generalizing t with
  | zero => have : t = 0 := by simpa using h
            subst this; rfl
  | succ L ih =>
    have e : digsN (L + 1) t = ((t % 4294967296 : Nat) : Int) :: digsN L (t / 4294967296) := by
      simp only [digsN, List.range_succ_eq_map, List.map_cons, List.map_map, Nat.pow_zero, Nat.div_one, List.cons.injEq, true_and]
      apply List.map_congr_left
      intro j _
      simp only [Function.comp, Nat.succ_eq_add_one, Nat.pow_succ, Nat.div_div_eq_div_mul]
      rw [Nat.mul_comm]
    rw [e, natv, ih _ (by rw [Nat.pow_succ] at h; exact (Nat.div_lt_iff_lt_mul (by decide)).2 h)]
    have : ((t % 4294967296 : Nat) : Int).toNat = t % 4294967296 := by omega
    rw [this]; omega
/-- One byte more, in front. -/
theorem digsN_step (L t c i : Nat) (hc : c < 256) (ht : t < 256 ^ i) (hi : i / 4 < L) :
    digsN L (t + c * 256 ^ i) = (digsN L t).set (i / 4) (((t / 4294967296 ^ (i / 4) % 4294967296 + c * 256 ^ (i % 4) : Nat)) : Int) ∧
    t / 4294967296 ^ (i / 4) % 4294967296 < 256 ^ (i % 4) ∧ t / 4294967296 ^ (i / 4) % 4294967296 + c * 256 ^ (i % 4) < 4294967296 := by
  have hp : 256 ^ i = 4294967296 ^ (i / 4) * 256 ^ (i % 4) := by
    conv => lhs; rw [← Nat.div_add_mod i 4, Nat.pow_add, Nat.pow_mul]
  have hP : 0 < 4294967296 ^ (i / 4) := Nat.pow_pos (by decide)
  have hq : t / 4294967296 ^ (i / 4) < 256 ^ (i % 4) := by
    rw [Nat.div_lt_iff_lt_mul hP, Nat.mul_comm, ← hp]; exact ht
  have h4 : i % 4 = 0 ∨ i % 4 = 1 ∨ i % 4 = 2 ∨ i % 4 = 3 := by omega
  have hsmall : t / 4294967296 ^ (i / 4) + c * 256 ^ (i % 4) < 4294967296 ∧ 256 ^ (i % 4) ≤ 16777216 := by
    rcases h4 with h | h | h | h <;> rw [h] at hq ⊢ <;> omega
  have hm : t / 4294967296 ^ (i / 4) % 4294967296 = t / 4294967296 ^ (i / 4) := Nat.mod_eq_of_lt (by omega)
  refine ⟨?_, by rw [hm]; exact hq, by rw [hm]; exact hsmall.1⟩
  rw [hm]
  have hsum : t + c * 256 ^ i = t + 4294967296 ^ (i / 4) * (c * 256 ^ (i % 4)) := by rw [hp, ← Nat.mul_assoc, ← Nat.mul_assoc, Nat.mul_comm c]
  apply List.ext_getElem?
  intro k
  rw [List.getElem?_set]
  by_cases hk : k < L
  · rw [digsN_get _ _ _ hk, digsN_get _ _ _ hk, digsN_len]
    by_cases e : i / 4 = k
    · rw [if_pos e, if_pos hi, ← e, hsum, Nat.add_mul_div_left _ _ hP, Nat.mod_eq_of_lt hsmall.1]
    · rw [if_neg e]
      congr 2
      rcases Nat.lt_or_gt_of_ne e with hlt | hgt
      · -- above: nothing is there
        have h1 : 4294967296 ^ (i / 4) * 4294967296 ≤ 4294967296 ^ k := by
          rw [← Nat.pow_succ]; exact Nat.pow_le_pow_right (by decide) hlt
        have h2 : t + c * 256 ^ i < 4294967296 ^ k := by
          rw [hsum]
          have : t < 4294967296 ^ (i / 4) * (t / 4294967296 ^ (i / 4) + 1) := Nat.lt_mul_div_succ t hP
          have h3 : t / 4294967296 ^ (i / 4) + 1 + c * 256 ^ (i % 4) ≤ 4294967296 := by omega
          have h4 := Nat.mul_le_mul_left (4294967296 ^ (i / 4)) h3
          rw [Nat.mul_add] at h4
          omega
        rw [Nat.div_eq_of_lt h2, Nat.div_eq_of_lt (by omega)]
      · -- below: a multiple of 2^32 more
        have e1 : 4294967296 ^ (i / 4) = 4294967296 ^ k * (4294967296 * 4294967296 ^ (i / 4 - k - 1)) := by
          rw [← Nat.pow_succ', ← Nat.pow_add]; congr 1; omega
        rw [hsum, e1, Nat.mul_assoc, Nat.add_mul_div_left _ _ (Nat.pow_pos (by decide)), Nat.mul_assoc, Nat.add_mul_mod_self_left]
  · simp [digsN, hk]; omega

/-- The value of the last i bytes. -/
def lastV (l : List UInt8) (i : Nat) : Nat := valBE (l.drop (l.length - i))
theorem valBE_cons (b : UInt8) (l : List UInt8) : valBE (b :: l) = b.toNat * 256 ^ l.length + valBE l := by
  have key : ∀ (l : List UInt8) (a : Nat), l.foldl (fun a b => 256 * a + b.toNat) a = a * 256 ^ l.length + valBE l := by
    intro l
    induction l with
    | nil => intro a; simp [valBE]
    | cons x l ih =>
      intro a
      simp only [List.foldl_cons, valBE, List.length_cons]
      rw [ih, ih, Nat.pow_succ, Nat.mul_zero, Nat.zero_add, Nat.add_mul, Nat.mul_comm 256 a, Nat.mul_assoc, Nat.mul_comm 256]
      omega
  simp only [valBE, List.foldl_cons]
  rw [key]
  simp [valBE]
theorem lastV_succ {l : List UInt8} {i : Nat} {b : UInt8} (h : i < l.length) (hb : l[l.length - 1 - i]? = some b) : lastV l (i + 1) = lastV l i + b.toNat * 256 ^ i := by
  unfold lastV
  have e : l.drop (l.length - (i + 1)) = b :: l.drop (l.length - i) := by
    rw [show l.length - (i + 1) = l.length - 1 - i by omega, drop_cons hb]
    congr 2; omega
  rw [e, valBE_cons, List.length_drop, show l.length - (l.length - i) = i by omega]
  omega
theorem lastV_lt (l : List UInt8) (i : Nat) (h : i ≤ l.length) : lastV l i < 256 ^ i := by
  induction i with
  | zero => simp [lastV, valBE]
  | succ i ih =>
    obtain ⟨b, hb⟩ := some_of_lt (l := l) (k := l.length - 1 - i) (by omega)
    rw [lastV_succ (by omega) hb, Nat.pow_succ]
    have h1 := ih (by omega)
    have h2 : b.toNat ≤ 255 := by have := b.toNat_lt; omega
    have h3 := Nat.mul_le_mul_right (256 ^ i) h2
    omega
theorem lastV_zero (l : List UInt8) : lastV l 0 = 0 := by simp [lastV, valBE]
theorem lastV_all (l : List UInt8) : lastV l l.length = valBE l := by simp [lastV]

theorem wraps_u32 : ∀ n : Int, 0 ≤ n → n < 2 ^ 32 → IntKind.u32.wrap n = n := by intro n h1 h2; rw [IntKind.wrap_u32]; omega
theorem shl_byte (c k : Nat) (hc : c < 256) : (c : Int) * 2 ^ (8 * (k % 4)) % 4294967296 = ((c * 256 ^ (k % 4) : Nat) : Int) := by
  have h4 : k % 4 = 0 ∨ k % 4 = 1 ∨ k % 4 = 2 ∨ k % 4 = 3 := by omega
  rcases h4 with h | h | h | h <;> rw [h] <;> simp <;> omega
theorem or_byte (d c i : Nat) (hd : d < 256 ^ (i % 4)) (hc : c < 256) : bits .or .u32 (d : Int) ((c * 256 ^ (i % 4) : Nat) : Int) = ((c * 256 ^ (i % 4) : Nat) : Int) + (d : Int) := by
  have hcm : bits .or .u32 (d : Int) ((c * 256 ^ (i % 4) : Nat) : Int) = bits .or .u32 ((c * 256 ^ (i % 4) : Nat) : Int) (d : Int) := by simp only [bits, BitVec.or_comm]
  have h4 : i % 4 = 0 ∨ i % 4 = 1 ∨ i % 4 = 2 ∨ i % 4 = 3 := by omega
  rw [hcm]
  have key : ∀ j : Nat, 256 ^ (i % 4) = 2 ^ j → j ≤ 24 → bits .or .u32 ((c * 256 ^ (i % 4) : Nat) : Int) (d : Int) = ((c * 256 ^ (i % 4) : Nat) : Int) + (d : Int) := by
    intro j hj hj24
    have hb : c * 256 ^ (i % 4) < 4294967296 := by
      rcases h4 with h | h | h | h <;> rw [h] <;> omega
    have hp : 2 ^ j ≤ 16777216 := Nat.pow_le_pow_right (n := 2) (by decide) hj24
    rw [hj] at hd hb ⊢
    refine bits_join .u32 32 (by decide) wraps_u32 j _ _ (by omega) ?_ (by omega) (by omega) (by exact_mod_cast hd) (by omega)
    exact_mod_cast Nat.mul_mod_left c (2 ^ j)
  rcases h4 with h | h | h | h
  · rw [key 0 (by rw [h]) (by decide)]
  · rw [key 8 (by rw [h]) (by decide)]
  · rw [key 16 (by rw [h]) (by decide)]
  · rw [key 24 (by rw [h]) (by decide)]

def DigRel (w : World) (s : ByteArray) (i : Value) (wr : World) : Prop := ∃ k : Nat, k ≤ s.size ∧ i = .int .i64 k ∧
  wr.ownsRow (w.heap.size + 1) 86 1 (.slice (some ⟨w.heap.size + 1, 0, none⟩) ((s.size + 3) / 4) ((s.size + 3) / 4)) ((s.size + 3) / 4) (u32s (digsN ((s.size + 3) / 4) (lastV s.data.toList k))) ∧
  wr.cell? ⟨w.heap.size, 1, none⟩ = some (.string s) ∧ Below w.heap.size w wr ∧ w.heap.size < wr.heap.size

set_option maxRecDepth 100000 in
set_option maxHeartbeats 4000000 in
theorem digits_any (b : Bool) (s : ByteArray) (w : World) (hs : s.size ≤ 1000000) :
    Calls Try.prog 67 #[.agg #[.bool b, .string s]] w fun e w' => (∃ v', e = .returned v' ∧ Nt w' v' (valBE s.data.toList)) ∧ Below w.heap.size w w' := by
  go_enter Try.func67, Try.ntmps67
  go_wp2_with (at_make; refine wpList_zeros _ rfl _ _ 89 rfl (w.heap.size + 1) 86 (.int .u32 0) 4 Try.underlying89 Try.info86 rfl _ _ _ _ ((s.size + 3) / 4) rfl rfl (by omega) (by omega) (by omega) (by unfold maxLen; omega) (by simp) ?_; intro w1 hown1 hb1; rw [World.size_alloc] at hown1 hb1; have k1 := cell_laid hb1 1 (v := .string s) rfl)
  have hb0 := below_laid hb1
  have hs1 := hb1.size
  rw [World.size_alloc] at hs1
  rw [← digsN_zero] at hown1
  go_loopw [15] (fun i wr => DigRel w s i wr) (fun i _ => s.size - (intOf i).toNat)
  case atStart => exact ⟨0, Nat.zero_le _, rfl, by rw [lastV_zero]; exact hown1, k1, hb0, by omega⟩
  case round =>
    obtain ⟨k, hk, rfl, hown, k1', hbel, hsz⟩ := hrel
    clear hown1 hb1 k1 hb0 hs1
    by_cases hlt : k < s.size
    · have hk' : s.size - 1 - k < s.size := by omega
      obtain ⟨c, hc⟩ : ∃ c, c = s[s.size - 1 - k]'hk' := ⟨_, rfl⟩
      have hlen : s.data.toList.length = s.size := by simp
      have hget : s.data.toList[s.data.toList.length - 1 - k]? = some c := by
        rw [hlen, List.getElem?_eq_getElem (by omega), hc]
        simp [ByteArray.getElem_eq_getElem_data]
      have hst := digsN_step ((s.size + 3) / 4) (lastV s.data.toList k) c.toNat k c.toNat_lt (lastV_lt _ _ (by omega)) (by omega)
      rw [← lastV_succ (by omega) hget] at hst
      obtain ⟨d, hd⟩ : ∃ d, d = lastV s.data.toList k / 4294967296 ^ (k / 4) % 4294967296 := ⟨_, rfl⟩
      rw [← hd] at hst
      have c2 := hown.cellAt (k / 4) (by omega)
      have f2 := hown.frozenAt (k / 4)
      rw [u32s_get (digsN_get _ _ _ (by omega)), ← hd] at c2
      have HST := hid hst
      have HC := hid hc
      have hcn : (s[s.size - 1 - k]'hk').toNat = c.toNat := by rw [hc]
      have hc256 : c.toNat < 256 := c.toNat_lt
      have hk4 : (k : Int) / 4 < ((s.size + 3) / 4 : Nat) := by omega
      have hk40 : 0 ≤ (k : Int) / 4 := by omega
      have hk4n : ((k : Int) / 4).toNat = k / 4 := by omega
      obtain ⟨E, hE⟩ : ∃ E, E = c.toNat * 256 ^ (k % 4) := ⟨_, rfl⟩
      have hsh : (c.toNat : Int) * 2 ^ (8 * (k % 4)) % 4294967296 = (E : Int) := by rw [hE]; exact shl_byte _ _ hc256
      have hor : bits .or .u32 (d : Int) (E : Int) = (d : Int) + (E : Int) := by rw [hE, or_byte _ _ _ hst.2.1 (by omega), Int.add_comm]
      have HE := hid hE
      clear hst hget hc hd hE
      go_wp2
      go_region
      go_wp2
      go_roundw
      case rel =>
        refine ⟨k + 1, by omega, by go_num, ?_, ?_, (hbel.setCell (p := ⟨w.heap.size + 1, k / 4, none⟩) (by simp) _).drew, by simpa using hsz⟩
        · have s1 := (hown.stored (k / 4) (.int .u32 ((d : Int) + (E : Int)))).1
          rw [HST.out.1, ← HE.out, Int.natCast_add]
          have e1 : u32s ((digsN ((s.size + 3) / 4) (lastV s.data.toList k)).set (k / 4) ((d : Int) + (E : Int))) = (u32s (digsN ((s.size + 3) / 4) (lastV s.data.toList k))).set (k / 4) (.int .u32 ((d : Int) + (E : Int))) := by simp [u32s, List.map_set]
          rw [e1]
          exact s1
        · exact (World.cell?_of_block (Below.heap_setCell _ _ _ _ (by simp))).trans k1'
      case measure => simp [intOf]; omega
    · have e : k = s.size := by omega
      subst e
      have hl : s.data.toList.length = s.size := by simp
      have hval : lastV s.data.toList s.size = valBE s.data.toList := by rw [← hl]; exact lastV_all _
      have hlt2 : valBE s.data.toList < 4294967296 ^ ((s.size + 3) / 4) := by
        have h1 := lastV_lt s.data.toList s.size (by omega)
        have h2 : 256 ^ s.size ≤ 256 ^ (4 * ((s.size + 3) / 4)) := Nat.pow_le_pow_right (by decide) (by omega)
        rw [Nat.pow_mul] at h2
        rw [hval] at h1
        exact Nat.lt_of_lt_of_le h1 h2
      have HN := hid (digsN_natv _ _ hlt2)
      rw [hval] at hown
      have hSl := Sl.of_owns hown
      have HU := hid (digsN_u32 ((s.size + 3) / 4) (valBE s.data.toList))
      clear hval hlt2 hl
      go_wp2_with fail
      refine (trim_any _ (digsN ((s.size + 3) / 4) (valBE s.data.toList)) _ (by rw [digsN_len]; exact hSl) HU.out).mono ?_
      rw [HN.out]
      rintro e w2 ⟨⟨v', rfl, hN⟩, rfl⟩
      go_wp2
      go_ret
      exact ⟨⟨_, rfl, hN⟩, hbel⟩
end Go.Proofs.Ytppflnkadjddiaa
