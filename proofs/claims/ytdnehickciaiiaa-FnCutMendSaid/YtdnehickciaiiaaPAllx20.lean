/- Proved here: contracts of functions of the given program, or lemmas on them, for the laws of this seat. Written by xprint.py, a program of this session, on the ground of the kit's print; parts by hand: wip/x/ext. -/
import Derived.Test.YtdnehickciaiiaaPAllx0
import Derived.Test.YtdnehickciaiiaaPAllx1
import Derived.Test.YtdnehickciaiiaaPAllx2
namespace Go.Proofs.Ytdnehickciaiiaa.PAll
open Go.RowKit Go.Proofs.YtdnehickciaiiaaW.PrintWords Go.Proofs.YtdnehickciaiiaaW.PrintLast Go.Proofs.YtdnehickciaiiaaW.PrintMore
attribute [local go_sem] max2_int min2_int max_two min_two max_three min_three max_four min_four   -- for this text's walks alone
set_option linter.unusedVariables false
set_option linter.unusedSimpArgs false

-- LIB pdraw
/-- What a draw reads: at most 2000 bytes. -/
def Bytes (b : List Int) : Prop := b.length ≤ 2000 ∧ ∀ x ∈ b, 0 ≤ x ∧ x ≤ 255
theorem bits_xor_nonneg (a b : Int) (h1 : 0 ≤ a) (h2 : a < 4611686018427387904) (h3 : 0 ≤ b) (h4 : b < 4611686018427387904) : 0 ≤ Go.bits .xor .i64 a b := by
  obtain ⟨A, rfl⟩ := Int.eq_ofNat_of_zero_le h1
  obtain ⟨B, rfl⟩ := Int.eq_ofNat_of_zero_le h3
  have hx : A ^^^ B < 2 ^ 62 := Nat.xor_lt_two_pow (by omega) (by omega)
  have eA : (BitVec.ofInt 64 (A : Int)).toNat = A := by rw [BitVec.ofInt_natCast, BitVec.toNat_ofNat]; exact Nat.mod_eq_of_lt (by omega)
  have eB : (BitVec.ofInt 64 (B : Int)).toNat = B := by rw [BitVec.ofInt_natCast, BitVec.toNat_ofNat]; exact Nat.mod_eq_of_lt (by omega)
  show 0 ≤ IntKind.i64.wrap ((BitVec.ofInt 64 (A : Int) ^^^ BitVec.ofInt 64 (B : Int)).toNat : Int)
  rw [BitVec.toNat_xor, eA, eB, IntKind.wrap_i64]
  omega
theorem open_ok (l : List Int) (h : ∀ x ∈ l, (Lit.int .u8 x).wf = true) : ∃ b, spec_l21Open.f l = some (b, 0) ∧ Bytes b := by
  have hb : ∀ x ∈ l, 0 ≤ x ∧ x ≤ 255 := by
    intro x hx
    have h' := h x hx
    simp [Lit.wf, IntKind.min, IntKind.max, IntKind.signed, IntKind.bits] at h'
    omega
  unfold spec_l21Open.f
  by_cases hl : (l.length : Int) > 2000
  · rw [if_pos hl, if_pos (by omega)]
    exact ⟨_, rfl, by rw [List.length_take]; omega, fun x hx => hb x (List.mem_of_mem_take hx)⟩
  · rw [if_neg hl]
    exact ⟨_, rfl, by omega, hb⟩
theorem rd_mem {b : List Int} {i : Int} (h0 : 0 ≤ i) (h1 : i < b.length) : rd b i ∈ b := by
  obtain ⟨j, rfl⟩ := Int.eq_ofNat_of_zero_le h0
  rw [rd_get b j (by omega)]
  exact List.getElem_mem _
theorem tmod_range {a n : Int} (h0 : 0 ≤ a) (h1 : 1 ≤ n) : 0 ≤ Int.tmod a n ∧ Int.tmod a n < n := by
  rw [Int.tmod_eq_emod_of_nonneg h0]
  exact ⟨Int.emod_nonneg _ (by omega), Int.emod_lt_of_pos _ (by omega)⟩
/-- A draw of a number below n. -/
theorem pick_ok {b : List Int} (hb : Bytes b) {p : Int} (n : Int) (h0 : 0 ≤ p) (h1 : p ≤ 1099511627776) :
    ∃ r, 0 ≤ r ∧ (1 ≤ n → r < n) ∧ (n < 1 → r = 0) ∧ ∀ k, 1 ≤ k → spec_l21Rd_pick.f k b p n = some (r, p + 1) := by
  have e1 : wrap64 (p + 1) = p + 1 := wrap_eq (by omega) (by omega)
  have e2 : wrap64 (p + 1 - 1) = p := by rw [wrap_eq (by omega) (by omega)]; omega
  by_cases hn : n < 1
  · refine ⟨0, by omega, fun h => by omega, fun _ => rfl, fun k hk => ?_⟩
    obtain ⟨k, rfl⟩ : ∃ m, k = m + 1 := ⟨k - 1, by omega⟩
    unfold spec_l21Rd_pick.f
    simp only [spec_l21Rd_pick.j0]
    rw [if_pos hn, if_pos trivial, e1]
  by_cases hl : b.length = 0
  · refine ⟨0, by omega, fun h => by omega, fun _ => rfl, fun k hk => ?_⟩
    obtain ⟨k, rfl⟩ : ∃ m, k = m + 1 := ⟨k - 1, by omega⟩
    unfold spec_l21Rd_pick.f
    simp only [spec_l21Rd_pick.j0]
    rw [if_neg hn, if_pos (by simp [hl]), e1]
  obtain ⟨hb1, hb2⟩ := hb
  have hl0 : ((b.length : Int) == 0) = false := beq_eq_false_iff_ne.2 (by omega)
  by_cases hp : p < b.length
  · have hv := hb2 _ (rd_mem h0 hp)
    have ht := tmod_range hv.1 (show 1 ≤ n by omega)
    refine ⟨Int.tmod (rd b p) n, ht.1, fun _ => ht.2, fun h => by omega, fun k hk => ?_⟩
    obtain ⟨k, rfl⟩ : ∃ m, k = m + 1 := ⟨k - 1, by omega⟩
    unfold spec_l21Rd_pick.f
    simp only [spec_l21Rd_pick.j0]
    rw [if_neg hn, hl0, if_neg (by decide), e1, e2, if_pos hp, if_pos h0, if_neg (by omega), wrap_eq (by omega) (by omega)]
  · have hi1 := tmod_range h0 (show (1 : Int) ≤ b.length by omega)
    have hi2 := tmod_range (show 0 ≤ p * 7 + 3 by omega) (show (1 : Int) ≤ b.length by omega)
    have e3 : wrap64 (wrap64 (p * 7) + 3) = p * 7 + 3 := by rw [wrap_eq (x := p * 7) (by omega) (by omega), wrap_eq (by omega) (by omega)]
    have hv1 := hb2 _ (rd_mem hi1.1 hi1.2)
    have hv2 := hb2 _ (rd_mem hi2.1 hi2.2)
    have hd : Int.tdiv p b.length = p / b.length := Int.tdiv_eq_ediv_of_nonneg h0
    have hd0 : 0 ≤ p / (b.length : Int) := Int.ediv_nonneg h0 (by omega)
    have hd1 : p / (b.length : Int) ≤ p := Int.ediv_le_self _ h0
    generalize hx1 : rd b (Int.tmod p b.length) = v1 at hv1
    generalize hx2 : rd b (Int.tmod (p * 7 + 3) b.length) = v2 at hv2
    generalize hx3 : p / (b.length : Int) = q at hd hd0 hd1
    have e4 : wrap64 (wrap64 (wrap64 (wrap64 (wrap64 v1 * 131) + wrap64 (wrap64 v2 * 1117)) + wrap64 (p * 29)) + wrap64 (wrap64 q * 53)) = v1 * 131 + v2 * 1117 + p * 29 + q * 53 := by
      rw [wrap_eq (x := v1) (by omega) (by omega), wrap_eq (x := v2) (by omega) (by omega), wrap_eq (x := q) (by omega) (by omega), wrap_eq (x := v1 * 131) (by omega) (by omega), wrap_eq (x := v2 * 1117) (by omega) (by omega), wrap_eq (x := p * 29) (by omega) (by omega), wrap_eq (x := q * 53) (by omega) (by omega), wrap_eq (x := v1 * 131 + v2 * 1117) (by omega) (by omega), wrap_eq (x := v1 * 131 + v2 * 1117 + p * 29) (by omega) (by omega), wrap_eq (by omega) (by omega)]
    have hX : 0 ≤ v1 * 131 + v2 * 1117 + p * 29 + q * 53 ∧ v1 * 131 + v2 * 1117 + p * 29 + q * 53 ≤ 4000000000000000 := by omega
    generalize v1 * 131 + v2 * 1117 + p * 29 + q * 53 = X at e4 hX
    have hY : Int.tdiv X 64 = X / 64 := Int.tdiv_eq_ediv_of_nonneg hX.1
    have e5 : wrap64 (X / 64) = X / 64 := wrap_eq (by omega) (by omega)
    have hZ := bits_xor_nonneg X (X / 64) hX.1 (by omega) (by omega) (by omega)
    have ht := tmod_range hZ (show 1 ≤ n by omega)
    refine ⟨Int.tmod (Go.bits .xor .i64 X (X / 64)) n, ht.1, fun _ => ht.2, fun h => by omega, fun k hk => ?_⟩
    obtain ⟨k, rfl⟩ : ∃ m, k = m + 1 := ⟨k - 1, by omega⟩
    unfold spec_l21Rd_pick.f
    simp only [spec_l21Rd_pick.j0]
    rw [if_neg hn, hl0, if_neg (by decide), e1, e2, e3, if_neg hp, if_neg (by omega), if_pos hi1.1, if_pos hi1.2, if_pos hi2.1, if_pos hi2.2, if_neg (by omega), hx1, hx2, hd, e4, hY, e5]
/-- A draw of one of a list's numbers. -/
theorem num_ok {b : List Int} (hb : Bytes b) {p : Int} (l : List Int) (h0 : 0 ≤ p) (h1 : p ≤ 1099511627776) (hl : 0 < l.length) :
    ∃ x, x ∈ l ∧ ∀ k, 1 ≤ k → spec_l21Rd_num.f k b p l = some (x, p + 1) := by
  obtain ⟨r, hr0, hr1, _, hr⟩ := pick_ok hb (l.length : Int) h0 h1
  have hr2 := hr1 (by omega)
  refine ⟨rd l r, rd_mem hr0 hr2, fun k hk => ?_⟩
  unfold spec_l21Rd_num.f
  rw [hr k hk, Option.bind_some]
  simp only []
  rw [if_pos hr0, if_pos hr2]

-- LIB pdraw17
theorem l17_at {b : List Int} (hb : Bytes b) (n h : Int) (hn : n ≤ 10) (d : Nat) : ∀ (i p : Int) (c : List Int), 0 ≤ i → i + d = n → 0 ≤ p → p + d ≤ 100000 → c.length + d ≤ 20 →
    ∃ n' h' c' p', c'.length ≤ c.length + d + 1 ∧ -1 ≤ n' ∧ n' ≤ 11 ∧ p ≤ p' ∧ p' ≤ p + d + 2 ∧ ∀ k, d + 1 < k → spec_l17Draw.l0 k i b p n h c = some (n', h', c', p') := by
  induction d with
  | zero =>
    intro i p c h0 hi hp0 hp1 hx
    obtain ⟨r, hr0, _, _, hr⟩ := pick_ok hb 80 hp0 (by omega)
    obtain ⟨n1, hn1, hnum⟩ := num_ok hb [2, 11] (show 0 ≤ p + 1 by omega) (by omega) (by simp)
    have hn2 : -1 ≤ n1 ∧ n1 ≤ 11 := by simp at hn1; omega
    by_cases c0 : r = 0
    · refine ⟨n1, h, c, p + 1 + 1, by omega, hn2.1, hn2.2, by omega, by omega, fun k hk => ?_⟩
      obtain ⟨k, rfl⟩ : ∃ m, k = m + 1 := ⟨k - 1, by omega⟩
      simp only [spec_l17Draw.l0]
      rw [if_neg (by omega), hr k (by omega), Option.bind_some, if_pos c0, hnum k (by omega), Option.bind_some]
    by_cases c1 : r = 1
    · refine ⟨n, n, c, p + 1, by omega, by omega, by omega, by omega, by omega, fun k hk => ?_⟩
      obtain ⟨k, rfl⟩ : ∃ m, k = m + 1 := ⟨k - 1, by omega⟩
      simp only [spec_l17Draw.l0]
      rw [if_neg (by omega), hr k (by omega), Option.bind_some, if_neg c0, if_pos c1]
    by_cases c2 : r = 2
    · refine ⟨n, h, c ++ [0], p + 1, by simp, by omega, by omega, by omega, by omega, fun k hk => ?_⟩
      obtain ⟨k, rfl⟩ : ∃ m, k = m + 1 := ⟨k - 1, by omega⟩
      simp only [spec_l17Draw.l0]
      rw [if_neg (by omega), hr k (by omega), Option.bind_some, if_neg c0, if_neg c1, if_pos c2, if_pos (by omega)]
    by_cases c3 : r = 3
    · refine ⟨n, h, c ++ [n], p + 1, by simp, by omega, by omega, by omega, by omega, fun k hk => ?_⟩
      obtain ⟨k, rfl⟩ : ∃ m, k = m + 1 := ⟨k - 1, by omega⟩
      simp only [spec_l17Draw.l0]
      rw [if_neg (by omega), hr k (by omega), Option.bind_some, if_neg c0, if_neg c1, if_neg c2, if_pos c3, if_pos (by omega)]
    · refine ⟨n, h, c, p + 1, by omega, by omega, by omega, by omega, by omega, fun k hk => ?_⟩
      obtain ⟨k, rfl⟩ : ∃ m, k = m + 1 := ⟨k - 1, by omega⟩
      simp only [spec_l17Draw.l0]
      rw [if_neg (by omega), hr k (by omega), Option.bind_some, if_neg c0, if_neg c1, if_neg c2, if_neg c3]
  | succ d ih =>
    intro i p c h0 hi hp0 hp1 hx
    obtain ⟨r, hr0, _, _, hr⟩ := pick_ok hb 6 hp0 (by omega)
    have ws : wrap64 (i + 1) = i + 1 := wrap_eq (by omega) (by omega)
    by_cases c0 : r = 0
    · obtain ⟨n', h', c', p', q1, q2, q3, q4, q5, q6⟩ := ih (i + 1) (p + 1) (c ++ [i]) (by omega) (by omega) (by omega) (by omega) (by simp; omega)
      simp only [List.length_append, List.length_singleton] at q1
      refine ⟨n', h', c', p', by omega, q2, q3, by omega, by omega, fun k hk => ?_⟩
      obtain ⟨k, rfl⟩ : ∃ m, k = m + 1 := ⟨k - 1, by omega⟩
      simp only [spec_l17Draw.l0]
      rw [if_pos (by omega), hr k (by omega), Option.bind_some, if_pos c0, if_pos (by omega), ws, q6 k (by omega)]
    · obtain ⟨n', h', c', p', q1, q2, q3, q4, q5, q6⟩ := ih (i + 1) (p + 1) c (by omega) (by omega) (by omega) (by omega) (by omega)
      refine ⟨n', h', c', p', by omega, q2, q3, by omega, by omega, fun k hk => ?_⟩
      obtain ⟨k, rfl⟩ : ∃ m, k = m + 1 := ⟨k - 1, by omega⟩
      simp only [spec_l17Draw.l0]
      rw [if_pos (by omega), hr k (by omega), Option.bind_some, if_neg c0, ws, q6 k (by omega)]
theorem l17_ok {b : List Int} (hb : Bytes b) {p : Int} (h0 : 0 ≤ p) (h1 : p ≤ 1000) : ∃ n h c p', c.length ≤ 11 ∧ -1 ≤ n ∧ n ≤ 11 ∧ p ≤ p' ∧ p' ≤ p + 20 ∧ ∀ k, 20 < k → spec_l17Draw.f k b p = some (n, h, c, p') := by
  obtain ⟨n, hn, hnum⟩ := num_ok hb [4, 3, 6, 10, 5] h0 (by omega) (by simp)
  have hn2 : 3 ≤ n ∧ n ≤ 10 := by simp at hn; omega
  obtain ⟨r, hr0, _, _, hr⟩ := pick_ok hb n (show 0 ≤ p + 1 by omega) (by omega)
  obtain ⟨n', h', c', p', q1, q2, q3, q4, q5, q6⟩ := l17_at hb n r hn2.2 n.toNat 0 (p + 1 + 1) [] (by omega) (by omega) (by omega) (by omega) (by simp; omega)
  refine ⟨n', h', c', p', by simp at q1; omega, q2, q3, by omega, by omega, fun k hk => ?_⟩
  unfold spec_l17Draw.f
  rw [hnum k (by omega), Option.bind_some]
  simp only []
  rw [hr k (by omega), Option.bind_some]
  exact q6 k (by omega)
theorem drawOpen_ok {l0 : List Int} (h : ∀ x ∈ l0, (Lit.int .u8 x).wf = true) : ∃ n h c, c.length ≤ 11 ∧ ∀ k, 20 < k → spec_DrawOpenLinks.f k l0 = some (n, h, c) := by
  obtain ⟨b, hb, hB⟩ := open_ok l0 h
  obtain ⟨n, h', c, p', q1, _, _, q2, q3, q4⟩ := l17_ok hB (show (0 : Int) ≤ 0 by omega) (by omega)
  refine ⟨n, h', c, q1, fun k hk => ?_⟩
  unfold spec_DrawOpenLinks.f
  rw [hb, Option.bind_some]
  simp only []
  rw [q4 k hk, Option.bind_some]
theorem l17Two_ok {b : List Int} (hb : Bytes b) {p : Int} (h0 : 0 ≤ p) (h1 : p ≤ 1000) : ∃ n h c x y p', c.length ≤ 11 ∧ p ≤ p' ∧ p' ≤ p + 30 ∧ ∀ k, 20 < k → spec_l17Two.f k b p = some (n, h, c, x, y, p') := by
  obtain ⟨n, h', c, p', q1, _, _, q2, q3, q4⟩ := l17_ok hb h0 h1
  obtain ⟨r1, _, _, _, hr1⟩ := pick_ok hb (wrap64 (n + 1)) (show 0 ≤ p' by omega) (by omega)
  obtain ⟨r2, _, _, _, hr2⟩ := pick_ok hb 9 (show 0 ≤ p' + 1 by omega) (by omega)
  obtain ⟨r3, _, _, _, hr3⟩ := pick_ok hb (wrap64 (n + 2)) (show 0 ≤ p' + 1 + 1 by omega) (by omega)
  obtain ⟨r4, _, _, _, hr4⟩ := pick_ok hb 9 (show 0 ≤ p' + 1 + 1 + 1 by omega) (by omega)
  refine ⟨n, h', c, wrap64 (r1 - (wrap64 (Int.tdiv r2 8))), wrap64 (r3 - (wrap64 (Int.tdiv r4 8))), p' + 1 + 1 + 1 + 1, q1, by omega, by omega, fun k hk => ?_⟩
  unfold spec_l17Two.f
  rw [q4 k hk, Option.bind_some]
  simp only []
  rw [hr1 k (by omega), Option.bind_some]
  simp only []
  rw [hr2 k (by omega), Option.bind_some]
  simp only []
  rw [hr3 k (by omega), Option.bind_some]
  simp only []
  rw [hr4 k (by omega), Option.bind_some]
theorem drawPath_ok {l0 : List Int} (h : ∀ x ∈ l0, (Lit.int .u8 x).wf = true) : ∃ n h c x y, c.length ≤ 11 ∧ ∀ k, 20 < k → spec_DrawPathIn.f k l0 = some (n, h, c, x, y) := by
  obtain ⟨b, hb, hB⟩ := open_ok l0 h
  obtain ⟨n, h', c, x, y, p', q1, q2, q3, q4⟩ := l17Two_ok hB (show (0 : Int) ≤ 0 by omega) (by omega)
  refine ⟨n, h', c, x, y, q1, fun k hk => ?_⟩
  unfold spec_DrawPathIn.f
  rw [hb, Option.bind_some]
  simp only []
  rw [q4 k hk, Option.bind_some]
theorem drawReach_ok {l0 : List Int} (h : ∀ x ∈ l0, (Lit.int .u8 x).wf = true) : ∃ n h c x, c.length ≤ 11 ∧ ∀ k, 20 < k → spec_DrawReachIn.f k l0 = some (n, h, c, x) := by
  obtain ⟨b, hb, hB⟩ := open_ok l0 h
  obtain ⟨n, h', c, x, y, p', q1, q2, q3, q4⟩ := l17Two_ok hB (show (0 : Int) ≤ 0 by omega) (by omega)
  refine ⟨n, h', c, x, q1, fun k hk => ?_⟩
  unfold spec_DrawReachIn.f
  rw [hb, Option.bind_some]
  simp only []
  rw [q4 k hk, Option.bind_some]

end Go.Proofs.Ytdnehickciaiiaa.PAll
