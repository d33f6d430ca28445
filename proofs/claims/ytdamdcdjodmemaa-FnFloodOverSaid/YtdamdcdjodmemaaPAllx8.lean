/- Proved here: contracts of functions of the given program, or lemmas on them, for the laws of this seat. Written by xprint.py, a program of this session, on the ground of the kit's print; parts by hand: wip/x/ext. -/
import Derived.Test.YtdamdcdjodmemaaPAllx0
import Derived.Test.YtdamdcdjodmemaaPAllx1
import Derived.Test.YtdamdcdjodmemaaPAllx3
import Derived.Test.YtdamdcdjodmemaaPAllx4
import Derived.Test.YtdamdcdjodmemaaPAllx7
namespace Go.Proofs.Ytdamdcdjodmemaa.PAll
open Go.RowKit Go.Proofs.YtdamdcdjodmemaaW.PrintWords Go.Proofs.YtdamdcdjodmemaaW.PrintLast Go.Proofs.YtdamdcdjodmemaaW.PrintMore
attribute [local go_sem] max2_int min2_int max_two min_two max_three min_three max_four min_four   -- for this text's walks alone
set_option linter.unusedVariables false
set_option linter.unusedSimpArgs false

-- LIB pdraw19
theorem l7c_at {b : List Int} (hb : Bytes b) (n : Int) (h1 : 1 ≤ n) (h8 : n ≤ 8) (d : Nat) : ∀ (p : Int) (c : List S51), 0 ≤ p → p + 3 * d ≤ 100000 → c.length + d ≤ 1000 →
    ∃ c' p', c'.length ≤ c.length + d ∧ p ≤ p' ∧ p' ≤ p + 3 * d ∧ ∀ k, 2 * d + 2 < k → spec_l7Cables.l0 k n c (d : Int) b p = some (n, c', p') := by
  induction d with
  | zero =>
    intro p c hp0 hp1 hx
    refine ⟨c, p, by omega, by omega, by omega, fun k hk => ?_⟩
    obtain ⟨k, rfl⟩ : ∃ m, k = m + 1 + 1 := ⟨k - 2, by omega⟩
    simp only [spec_l7Cables.l0, spec_l7Cables.j1]
    rw [if_neg (by omega), if_neg (by decide)]
  | succ d ih =>
    intro p c hp0 hp1 hx
    by_cases hn : n > 1
    · obtain ⟨r1, _, _, _, e1⟩ := pick_ok hb n hp0 (by omega)
      obtain ⟨r2, _, _, _, e2⟩ := pick_ok hb (wrap64 (n - 1)) (show 0 ≤ p + 1 by omega) (by omega)
      obtain ⟨r3, _, e3⟩ := num_ok hb [1, 1, 2, 5, 10, 99] (show 0 ≤ p + 1 + 1 by omega) (by omega) (by simp)
      obtain ⟨c', p', q1, q2, q3, q4⟩ := ih (p + 1 + 1 + 1) (c ++ [⟨r1, Int.tmod (wrap64 ((wrap64 (r1 + 1)) + r2)) n, r3⟩]) (by omega) (by omega) (by simp; omega)
      simp only [List.length_append, List.length_singleton] at q1
      refine ⟨c', p', by omega, by omega, by omega, fun k hk => ?_⟩
      obtain ⟨k, rfl⟩ : ∃ m, k = m + 1 + 1 := ⟨k - 2, by omega⟩
      simp only [spec_l7Cables.l0, spec_l7Cables.j1]
      rw [if_pos (by omega), if_pos (decide_eq_true hn), e1 k (by omega), Option.bind_some]
      simp only []
      rw [e2 k (by omega), Option.bind_some, if_neg (by omega)]
      simp only []
      rw [e3 k (by omega), Option.bind_some, if_pos (by omega), wrap_eq (x := ((d + 1 : Nat) : Int) - 1) (by omega) (by omega), show ((d + 1 : Nat) : Int) - 1 = (d : Int) by omega]
      exact q4 k (by omega)
    · refine ⟨c, p, by omega, by omega, by omega, fun k hk => ?_⟩
      obtain ⟨k, rfl⟩ : ∃ m, k = m + 1 + 1 := ⟨k - 2, by omega⟩
      simp only [spec_l7Cables.l0, spec_l7Cables.j1]
      rw [if_pos (by omega), decide_eq_false hn, if_neg (by decide)]
theorem l7c_ok {b : List Int} (hb : Bytes b) {p : Int} (h0 : 0 ≤ p) (h1 : p ≤ 10000) : ∃ n c p', c.length ≤ 20 ∧ 1 ≤ n ∧ n ≤ 8 ∧ p ≤ p' ∧ p' ≤ p + 62 ∧ ∀ k, 50 < k → spec_l7Cables.f k b p = some (n, c, p') := by
  obtain ⟨n, hn, e1⟩ := num_ok hb [4, 6, 3, 8, 2, 1, 5] h0 (by omega) (by simp)
  have hn2 : 1 ≤ n ∧ n ≤ 8 := by simp at hn; omega
  obtain ⟨i, hi, e2⟩ := num_ok hb [5, 8, 12, 3, 0, 20] (show 0 ≤ p + 1 by omega) (by omega) (by simp)
  have hi2 : 0 ≤ i ∧ i ≤ 20 := by simp at hi; omega
  obtain ⟨I, rfl⟩ := Int.eq_ofNat_of_zero_le hi2.1
  obtain ⟨c', p', q1, q2, q3, q4⟩ := l7c_at hb n hn2.1 hn2.2 I (p + 1 + 1) [] (by omega) (by omega) (by simp; omega)
  refine ⟨n, c', p', by simp at q1; omega, hn2.1, hn2.2, by omega, by omega, fun k hk => ?_⟩
  unfold spec_l7Cables.f
  rw [e1 k (by omega), Option.bind_some]
  simp only []
  rw [e2 k (by omega), Option.bind_some]
  exact q4 k (by omega)
theorem l19_at {b : List Int} (hb : Bytes b) (m n : Int) (cs : List S51) (hn1 : 1 ≤ n) (hn : n ≤ 8) (d : Nat) : ∀ (p : Int) (hs vs : List Int), 0 ≤ p → p + 3 * d ≤ 100000 → 1 ≤ hs.length + d → hs.length = vs.length → hs.length + d ≤ 15 →
    ∃ n' hs' vs' p', hs'.length ≤ 15 ∧ vs'.length ≤ 15 ∧ 1 ≤ n' ∧ n' ≤ 9 ∧ p ≤ p' ∧ p' ≤ p + 3 * d + 1 ∧ ∀ k, d + 3 < k → spec_l19Net.l0 k m (d : Int) b p n cs hs vs = some (n', cs, hs', vs', p') := by
  induction d with
  | zero =>
    intro p hs vs hp0 hp1 hx hy hz
    obtain ⟨r, _, _, _, hr⟩ := pick_ok hb 80 hp0 (by omega)
    have key : ∃ n' hs' vs', hs'.length ≤ 15 ∧ vs'.length ≤ 15 ∧ 1 ≤ n' ∧ n' ≤ 9 ∧ ∀ k, 3 < k → spec_l19Net.l0 k m ((0 : Nat) : Int) b p n cs hs vs = some (n', cs, hs', vs', p + 1) := by
      by_cases c0 : r = 0
      · refine ⟨n, hs.set 0 m, vs, by rw [List.length_set]; omega, by omega, hn1, by omega, fun k hk => ?_⟩
        obtain ⟨k, rfl⟩ : ∃ m, k = m + 1 := ⟨k - 1, by omega⟩
        simp only [spec_l19Net.l0]
        rw [if_neg (by omega), hr k (by omega), Option.bind_some, if_pos c0, if_pos (by omega)]
        rfl
      by_cases c1 : r = 1
      · refine ⟨n, hs, vs.set 0 0, by omega, by rw [List.length_set]; omega, hn1, by omega, fun k hk => ?_⟩
        obtain ⟨k, rfl⟩ : ∃ m, k = m + 1 := ⟨k - 1, by omega⟩
        simp only [spec_l19Net.l0]
        rw [if_neg (by omega), hr k (by omega), Option.bind_some, if_neg c0, if_pos c1, if_pos (by omega)]
        rfl
      by_cases c2 : r = 2
      · refine ⟨n, hs, vs.drop 1, by omega, by rw [List.length_drop]; omega, hn1, by omega, fun k hk => ?_⟩
        obtain ⟨k, rfl⟩ : ∃ m, k = m + 1 := ⟨k - 1, by omega⟩
        simp only [spec_l19Net.l0]
        rw [if_neg (by omega), hr k (by omega), Option.bind_some, if_neg c0, if_neg c1, if_pos c2, if_pos (by omega)]
        rfl
      by_cases c3 : r = 3
      · refine ⟨9, hs, vs, by omega, by omega, by omega, by omega, fun k hk => ?_⟩
        obtain ⟨k, rfl⟩ : ∃ m, k = m + 1 := ⟨k - 1, by omega⟩
        simp only [spec_l19Net.l0]
        rw [if_neg (by omega), hr k (by omega), Option.bind_some, if_neg c0, if_neg c1, if_neg c2, if_pos c3]
      · refine ⟨n, hs, vs, by omega, by omega, hn1, by omega, fun k hk => ?_⟩
        obtain ⟨k, rfl⟩ : ∃ m, k = m + 1 := ⟨k - 1, by omega⟩
        simp only [spec_l19Net.l0]
        rw [if_neg (by omega), hr k (by omega), Option.bind_some, if_neg c0, if_neg c1, if_neg c2, if_neg c3]
    obtain ⟨n', hs', vs', g1, g2, g3, g4, g5⟩ := key
    exact ⟨n', hs', vs', p + 1, g1, g2, g3, g4, by omega, by omega, fun k hk => g5 k (by omega)⟩
  | succ d ih =>
    intro p hs vs hp0 hp1 hx hy hz
    obtain ⟨r1, _, _, _, e1⟩ := pick_ok hb m hp0 (by omega)
    obtain ⟨r2, _, e2⟩ := num_ok hb [1, 2, 3] (show 0 ≤ p + 1 by omega) (by omega) (by simp)
    obtain ⟨r3, _, _, _, e3⟩ := pick_ok hb r2 (show 0 ≤ p + 1 + 1 by omega) (by omega)
    obtain ⟨n', hs', vs', p', q1, q2, q3, q4, q5, q6, q7⟩ := ih (p + 1 + 1 + 1) (hs ++ [r1]) (vs ++ [wrap64 (1 + r3)]) (by omega) (by omega) (by simp; omega) (by simp [hy]) (by simp; omega)
    refine ⟨n', hs', vs', p', q1, q2, q3, q4, by omega, by omega, fun k hk => ?_⟩
    obtain ⟨k, rfl⟩ : ∃ m, k = m + 1 := ⟨k - 1, by omega⟩
    simp only [spec_l19Net.l0]
    rw [if_pos (by omega), e1 k (by omega), Option.bind_some, if_pos (by omega)]
    simp only []
    rw [e2 k (by omega), Option.bind_some]
    simp only []
    rw [e3 k (by omega), Option.bind_some, if_pos (by omega), wrap_eq (x := ((d + 1 : Nat) : Int) - 1) (by omega) (by omega), show ((d + 1 : Nat) : Int) - 1 = (d : Int) by omega]
    exact q7 k (by omega)
theorem l19_ok {b : List Int} (hb : Bytes b) {p : Int} (h0 : 0 ≤ p) (h1 : p ≤ 1000) : ∃ n cs hs vs p', cs.length ≤ 20 ∧ hs.length ≤ 15 ∧ vs.length ≤ 15 ∧ 1 ≤ n ∧ n ≤ 9 ∧ p ≤ p' ∧ p' ≤ p + 200 ∧ ∀ k, 100 < k → spec_l19Net.f k b p = some (n, cs, hs, vs, p') := by
  obtain ⟨n, c, p1, q1, q2, q3, q4, q5, q6⟩ := l7c_ok hb h0 (by omega)
  obtain ⟨i, hi, e2⟩ := num_ok hb [4, 6, 3, 10, 2, 1, 15] (show 0 ≤ p1 by omega) (by omega) (by simp)
  have hi2 : 1 ≤ i ∧ i ≤ 15 := by simp at hi; omega
  obtain ⟨I, rfl⟩ := Int.eq_ofNat_of_zero_le (show 0 ≤ i by omega)
  obtain ⟨n', hs', vs', p', g1, g2, g3, g4, g5, g6, g7⟩ := l19_at hb n n c q2 q3 I (p1 + 1) [] [] (by omega) (by omega) (by simp; omega) rfl (by simp; omega)
  refine ⟨n', c, hs', vs', p', q1, g1, g2, g3, g4, by omega, by omega, fun k hk => ?_⟩
  unfold spec_l19Net.f
  rw [q6 k (by omega), Option.bind_some]
  simp only []
  rw [e2 k (by omega), Option.bind_some]
  exact g7 k (by omega)

-- LIB pdraw19m
theorem drawMates_ok {l : List Int} (h : ∀ x ∈ l, (Lit.int .u8 x).wf = true) : ∃ n cs hs vs s, cs.length ≤ 20 ∧ hs.length ≤ 15 ∧ vs.length ≤ 15 ∧ ∀ k, 100 < k → spec_DrawMatesOf.f k l = some (n, cs, hs, vs, s) := by
  obtain ⟨b, hbo, hb⟩ := open_ok l h
  obtain ⟨n, cs, hs, vs, p, q1, q2, q3, q4, q5, q6, q7, q8⟩ := l19_ok hb (p := 0) (by omega) (by omega)
  obtain ⟨r1, _, _, _, e1⟩ := pick_ok hb (wrap64 ((hs.length : Int) + 2)) (show 0 ≤ p by omega) (by omega)
  obtain ⟨r2, _, _, _, e2⟩ := pick_ok hb 9 (show 0 ≤ p + 1 by omega) (by omega)
  refine ⟨n, cs, hs, vs, wrap64 (r1 - (wrap64 (Int.tdiv r2 8))), q1, q2, q3, fun k hk => ?_⟩
  unfold spec_DrawMatesOf.f
  rw [hbo, Option.bind_some]
  simp only []
  rw [q8 k (by omega), Option.bind_some]
  simp only []
  rw [e1 k (by omega), Option.bind_some]
  simp only []
  rw [e2 k (by omega), Option.bind_some]

-- LIB hasl
/-- A number is in a list. -/
def hasL (l : List Int) (x : Int) : Bool := l.any fun y => decide (y = x)
theorem hasL_cons (y : Int) (l : List Int) (x : Int) : hasL (y :: l) x = (decide (y = x) || hasL l x) := rfl
theorem hasL_iff (l : List Int) (x : Int) : hasL l x = true ↔ x ∈ l := by
  unfold hasL
  rw [List.any_eq_true]
  constructor
  · rintro ⟨y, h, e⟩
    rw [← of_decide_eq_true e]; exact h
  · intro h
    exact ⟨x, h, decide_eq_true rfl⟩

-- LIB pwnhasl
theorem wnHas_at (l : List Int) (x : Int) (hl : l.length ≤ 9223372036854775807) (d : Nat) : ∀ (k i : Nat), i + d = l.length → d < k → laws_wnHas.l0 k x l l.length (i : Int) = some (hasL (l.drop i) x) := by
  induction d with
  | zero =>
    intro k i h1 hk
    obtain ⟨k, rfl⟩ : ∃ m, k = m + 1 := ⟨k - 1, by omega⟩
    simp only [laws_wnHas.l0]
    rw [if_neg (by omega), List.drop_of_length_le (by omega)]
    rfl
  | succ d ih =>
    intro k i h1 hk
    obtain ⟨k, rfl⟩ : ∃ m, k = m + 1 := ⟨k - 1, by omega⟩
    simp only [laws_wnHas.l0]
    rw [if_pos (by omega), if_pos (by omega), if_pos (by omega), rd_get l i (by omega), wrap_succ (show i < l.length by omega) (by omega), ih k (i + 1) (by omega) (by omega), List.drop_eq_getElem_cons (show i < l.length by omega), hasL_cons]
    by_cases c : l[i] = x
    · rw [if_pos c, decide_eq_true c, Bool.true_or]
    · rw [if_neg c, decide_eq_false c, Bool.false_or]
theorem wnHas_eq (l : List Int) (x : Int) (hl : l.length ≤ 9223372036854775807) (k : Nat) (hk : l.length < k) : laws_wnHas.f k l x = some (hasL l x) := wnHas_at l x hl l.length k 0 (by omega) hk

-- LIB pwnints
theorem wnInts_at (a b : List Int) (hl : a.length = b.length) (hm : a.length ≤ 9223372036854775807) (d : Nat) : ∀ (k i : Nat), i + d = a.length → d < k → laws_wnInts.l0 k b a a.length (i : Int) = some (decide (a.drop i = b.drop i)) := by
  induction d with
  | zero =>
    intro k i h1 hk
    obtain ⟨k, rfl⟩ : ∃ m, k = m + 1 := ⟨k - 1, by omega⟩
    simp only [laws_wnInts.l0]
    rw [if_neg (by omega), List.drop_of_length_le (by omega), List.drop_of_length_le (by omega)]
    simp
  | succ d ih =>
    intro k i h1 hk
    obtain ⟨k, rfl⟩ : ∃ m, k = m + 1 := ⟨k - 1, by omega⟩
    simp only [laws_wnInts.l0]
    rw [if_pos (by omega), if_pos (by omega), if_pos (by omega), if_pos (by omega), rd_get a i (by omega), rd_get b i (by omega), List.drop_eq_getElem_cons (show i < a.length by omega), List.drop_eq_getElem_cons (show i < b.length by omega), wrap_succ (show i < a.length by omega) (by omega), ih k (i + 1) (by omega) (by omega)]
    by_cases c : b[i] = a[i]
    · rw [if_pos c, c]; congr 1; rw [decide_eq_decide]; exact ⟨fun h => by rw [h], fun h => (List.cons.inj h).2⟩
    · rw [if_neg c, decide_eq_false (fun h => c (List.cons.inj h).1.symm)]
theorem wnInts_eq (a b : List Int) (hm : a.length ≤ 9223372036854775807) (k : Nat) (hk : a.length < k) : laws_wnInts.f k a b = some (decide (a = b)) := by
  unfold laws_wnInts.f
  by_cases c : a.length = b.length
  · rw [if_pos (by omega)]
    exact wnInts_at a b c hm a.length k 0 (by omega) hk
  · rw [if_neg (by omega), decide_eq_false (fun h => c (by rw [h]))]

end Go.Proofs.Ytdamdcdjodmemaa.PAll
