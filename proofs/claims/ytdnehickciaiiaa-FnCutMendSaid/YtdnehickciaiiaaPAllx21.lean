/- Proved here: contracts of functions of the given program, or lemmas on them, for the laws of this seat. Written by xprint.py, a program of this session, on the ground of the kit's print; parts by hand: wip/x/ext. -/
import Derived.Test.YtdnehickciaiiaaPAllx0
import Derived.Test.YtdnehickciaiiaaPAllx2
import Derived.Test.YtdnehickciaiiaaPAllx5
import Derived.Test.YtdnehickciaiiaaPAllx9
import Derived.Test.YtdnehickciaiiaaPAllx17
namespace Go.Proofs.Ytdnehickciaiiaa.PAll
open Go.RowKit Go.Proofs.YtdnehickciaiiaaW.PrintWords Go.Proofs.YtdnehickciaiiaaW.PrintLast Go.Proofs.YtdnehickciaiiaaW.PrintMore
attribute [local go_sem] max2_int min2_int max_two min_two max_three min_three max_four min_four   -- for this text's walks alone
set_option linter.unusedVariables false
set_option linter.unusedSimpArgs false

-- LIB inssort
def gL (x : List Int) (p : Nat) : Int := x.getD p 0
theorem rd_gL (x : List Int) (p : Nat) : rd x (p : Int) = gL x p := by simp [rd, rdOf, gL]
theorem gL_get (x : List Int) (p : Nat) (h : p < x.length) : gL x p = x[p] := by simp [gL, List.getD_eq_getElem?_getD, h]
theorem gL_set (x : List Int) (a p : Nat) (v : Int) (h : a < x.length) : gL (x.set a v) p = if p = a then v else gL x p := by
  unfold gL
  rw [List.getD_eq_getElem?_getD, List.getD_eq_getElem?_getD, List.getElem?_set]
  by_cases e : a = p
  · subst e; rw [if_pos rfl, if_pos h, if_pos rfl]; rfl
  · rw [if_neg e, if_neg (fun h => e h.symm)]
theorem less_eq (a b : Int) : cmp_Less_int.f a b = some (decide (a < b)) := by
  unfold cmp_Less_int.f cmp_isNaN_int.f
  rw [Option.bind_some, if_neg (by simp)]
/-- The first i are in their order. -/
def UpTo (x : List Int) (i : Nat) : Prop := ∀ p q, p < q → q < i → gL x p ≤ gL x q
/-- Of the first i + 1 all but the one at j are in their order, and those behind it are not below it. -/
def UpBut (x : List Int) (i j : Nat) : Prop := (∀ p q, p < q → q ≤ i → p ≠ j → q ≠ j → gL x p ≤ gL x q) ∧ ∀ q, j < q → q ≤ i → gL x j ≤ gL x q
theorem ins_l1 (n i : Nat) (hi : i < n) (hn : n ≤ 1000000) (j : Nat) : ∀ x : List Int, x.length = n → j ≤ i → UpBut x i j →
    ∃ x' : List Int, x'.Perm x ∧ UpTo x' (i + 1) ∧ ∀ (k K : Nat) (R : Option (List Int)), (∀ k', K < k' → slices_insertionSortOrdered_int.l0 k' x' 0 (n : Int) ((i + 1 : Nat) : Int) = R) → K + j + 1 < k → slices_insertionSortOrdered_int.l1 k x 0 (n : Int) (i : Int) (j : Int) = R := by
  have ws : wrap64 ((i : Int) + 1) = ((i + 1 : Nat) : Int) := by rw [wrap_eq (by omega) (by omega)]; rfl
  have exit : ∀ (x : List Int) (j : Nat), x.length = n → j ≤ i → UpBut x i j → (j = 0 ∨ gL x (j - 1) ≤ gL x j) → UpTo x (i + 1) := by
    intro x j hx hj hU hc p q hpq hq
    by_cases e1 : p = j
    · subst e1; exact hU.2 q hpq (by omega)
    · by_cases e2 : q = j
      · subst e2
        rcases hc with hc | hc
        · omega
        · by_cases e3 : p = q - 1
          · subst e3; exact hc
          · exact Int.le_trans (hU.1 p (q - 1) (by omega) (by omega) e1 (by omega)) hc
      · exact hU.1 p q hpq (by omega) e1 e2
  induction j with
  | zero =>
    intro x hx hj hU
    refine ⟨x, List.Perm.refl x, exit x 0 hx hj hU (Or.inl rfl), fun k K R hR hk => ?_⟩
    obtain ⟨k, rfl⟩ : ∃ m, k = m + 1 := ⟨k - 1, by omega⟩
    simp only [slices_insertionSortOrdered_int.l1]
    rw [if_neg (by omega), ws]
    exact hR k (by omega)
  | succ j ih =>
    intro x hx hj hU
    have wp : wrap64 (((j + 1 : Nat) : Int) - 1) = (j : Int) := by rw [wrap_eq (by omega) (by omega)]; omega
    by_cases c : gL x (j + 1) < gL x j
    · have hl1 : j + 1 < x.length := by omega
      have hl0 : j < x.length := by omega
      have e : ∀ p, gL ((x.set (j + 1) (gL x j)).set j (gL x (j + 1))) p = if p = j then gL x (j + 1) else if p = j + 1 then gL x j else gL x p := by
        intro p
        rw [gL_set _ _ _ _ (by rw [List.length_set]; exact hl0), gL_set _ _ _ _ hl1]
      have hp : ((x.set (j + 1) (gL x j)).set j (gL x (j + 1))).Perm x := by
        rw [gL_get x j hl0, gL_get x (j + 1) hl1]
        exact List.set_set_perm hl1 hl0
      have hU' : UpBut ((x.set (j + 1) (gL x j)).set j (gL x (j + 1))) i j := by
        constructor
        · intro p q h1 h2 h3 h4
          rw [e, e, if_neg h3, if_neg h4]
          by_cases f1 : p = j + 1
          · rw [if_pos f1, if_neg (by omega)]
            exact hU.1 j q (by omega) h2 (by omega) (by omega)
          · rw [if_neg f1]
            by_cases f2 : q = j + 1
            · rw [if_pos f2]; exact hU.1 p j (by omega) (by omega) f1 (by omega)
            · rw [if_neg f2]; exact hU.1 p q h1 h2 f1 f2
        · intro q h1 h2
          rw [e, e, if_pos rfl, if_neg (by omega)]
          by_cases f2 : q = j + 1
          · rw [if_pos f2]; omega
          · rw [if_neg f2]; exact hU.2 q (by omega) h2
      obtain ⟨x', h1, h2, h3⟩ := ih _ (by simp only [List.length_set]; exact hx) (by omega) hU'
      refine ⟨x', h1.trans hp, h2, fun k K R hR hk => ?_⟩
      obtain ⟨k, rfl⟩ : ∃ m, k = m + 1 := ⟨k - 1, by omega⟩
      simp only [slices_insertionSortOrdered_int.l1]
      rw [if_pos (by omega), if_pos (by omega), if_pos (by omega), wp, if_pos (by omega), if_pos (by omega), rd_gL, rd_gL, less_eq, Option.bind_some, if_pos (decide_eq_true c), Int.toNat_natCast, Int.toNat_natCast]
      exact h3 k K R hR (by omega)
    · refine ⟨x, List.Perm.refl x, exit x (j + 1) hx hj hU (Or.inr (by rw [Nat.add_sub_cancel]; omega)), fun k K R hR hk => ?_⟩
      obtain ⟨k, rfl⟩ : ∃ m, k = m + 1 := ⟨k - 1, by omega⟩
      simp only [slices_insertionSortOrdered_int.l1]
      rw [if_pos (by omega), if_pos (by omega), if_pos (by omega), wp, if_pos (by omega), if_pos (by omega), rd_gL, rd_gL, less_eq, Option.bind_some, decide_eq_false c, if_neg (by decide), ws]
      exact hR k (by omega)
theorem ins_l0 (n : Nat) (hn : n ≤ 1000000) (d : Nat) : ∀ (i : Nat) (x : List Int), 1 ≤ i → i + d = n → x.length = n → UpTo x i → ∃ r : List Int, r.Perm x ∧ UpTo r n ∧ ∀ k, d * (n + 2) + 1 < k → slices_insertionSortOrdered_int.l0 k x 0 (n : Int) (i : Int) = some r := by
  induction d with
  | zero =>
    intro i x h1 h2 hx hU
    obtain rfl : i = n := by omega
    refine ⟨x, List.Perm.refl x, hU, fun k hk => ?_⟩
    obtain ⟨k, rfl⟩ : ∃ m, k = m + 1 := ⟨k - 1, by omega⟩
    simp only [slices_insertionSortOrdered_int.l0]
    rw [if_neg (by omega)]
  | succ d ih =>
    intro i x h1 h2 hx hU
    obtain ⟨x', p1, p2, p3⟩ := ins_l1 n i (by omega) hn i x hx (Nat.le_refl i) ⟨fun p q a b c e => hU p q a (by omega), fun q a b => by omega⟩
    obtain ⟨r, r1, r2, r3⟩ := ih (i + 1) x' (by omega) (by omega) (by rw [p1.length_eq]; exact hx) p2
    refine ⟨r, r1.trans p1, r2, fun k hk => ?_⟩
    rw [Nat.succ_mul] at hk
    obtain ⟨k, rfl⟩ : ∃ m, k = m + 1 := ⟨k - 1, by omega⟩
    simp only [slices_insertionSortOrdered_int.l0]
    rw [if_pos (by omega)]
    exact p3 k _ _ (fun k' hk' => r3 k' hk') (by omega)
theorem upTo_pairwise {x : List Int} (h : UpTo x x.length) : x.Pairwise (· ≤ ·) := by
  rw [List.pairwise_iff_getElem]
  intro i j hi hj hij
  have := h i j hij hj
  rw [gL_get x i hi, gL_get x j hj] at this
  exact this
/-- A short row is put in its order. -/
theorem sort_ok (l : List Int) (hl : l.length ≤ 12) : ∃ r : List Int, r.Perm l ∧ r.Pairwise (· ≤ ·) ∧ ∀ k, 200 < k → slices_Sort_int_int.f k l = some r := by
  have key : ∃ r : List Int, r.Perm l ∧ UpTo r l.length ∧ ∀ k, 200 < k → slices_insertionSortOrdered_int.f k l 0 (l.length : Int) = some r := by
    by_cases h0 : l.length = 0
    · refine ⟨l, List.Perm.refl l, fun p q _ hq => by omega, fun k hk => ?_⟩
      obtain ⟨k, rfl⟩ : ∃ m, k = m + 1 := ⟨k - 1, by omega⟩
      unfold slices_insertionSortOrdered_int.f
      simp only [slices_insertionSortOrdered_int.l0]
      rw [if_neg (by rw [wrap_eq (by omega) (by omega)]; omega)]
    · obtain ⟨r, r1, r2, r3⟩ := ins_l0 l.length (by omega) (l.length - 1) 1 l (Nat.le_refl 1) (by omega) rfl (fun p q _ hq => by omega)
      refine ⟨r, r1, r2, fun k hk => ?_⟩
      have hb : (l.length - 1) * (l.length + 2) ≤ 11 * 14 := Nat.mul_le_mul (by omega) (by omega)
      have := r3 k (by omega)
      unfold slices_insertionSortOrdered_int.f
      rw [show wrap64 (0 + 1) = ((1 : Nat) : Int) by rw [wrap_eq (by omega) (by omega)]; rfl]
      exact this
  obtain ⟨r, r1, r2, r3⟩ := key
  refine ⟨r, r1, upTo_pairwise (by rw [r1.length_eq]; exact r2), fun k hk => ?_⟩
  have hw : IntKind.u64.wrap (l.length : Int) = (l.length : Int) := by
    have : IntKind.u64.wrap (l.length : Int) = (l.length : Int) % 18446744073709551616 := by simp [IntKind.wrap, IntKind.bits, IntKind.signed]
    rw [this]; omega
  unfold slices_Sort_int_int.f bits_Len.f bits_Len64.f slices_pdqsortOrdered_int.f
  rw [hw, if_pos ⟨by omega, by omega⟩, Option.bind_some, Option.bind_some, if_pos (by rw [wrap_eq (by omega) (by omega)]; omega), r3 k hk, Option.bind_some]
/-- What is in its order and has the same numbers is the same. -/
theorem sort_uniq {r s : List Int} (hr : r.Pairwise (· ≤ ·)) (hs : s.Pairwise (· ≤ ·)) (hp : r.Perm s) : r = s :=
  List.Perm.eq_of_pairwise (fun a b _ _ h1 h2 => Int.le_antisymm h1 h2) hr hs hp

-- LIB p17cut
/-- The ring one more link of which is cut. -/
def cutX (n h : Int) (c : List Int) (a : Int) : Int × Int × List Int × Bool := if (ringB n h c && (inB n a && !hasL c a)) = true then (n, h, filI (fun x => decide (x = a) || hasL c x) n.toNat 0, true) else (0, 0, [], false)
theorem asc_pairwise (l : List Int) : ascL l = true → l.Pairwise (· < ·) := by
  induction l with
  | nil => exact fun _ => List.Pairwise.nil
  | cons x t ih =>
    intro h
    cases t with
    | nil => exact List.Pairwise.cons (fun y hy => by cases hy) List.Pairwise.nil
    | cons y t =>
      simp only [ascL, Bool.and_eq_true, decide_eq_true_eq] at h
      have h2 := ih h.2
      refine List.Pairwise.cons (fun z hz => ?_) h2
      rcases List.mem_cons.1 hz with e | hz
      · subst e; exact h.1
      · have := List.rel_of_pairwise_cons h2 hz
        omega
theorem filI_pairwise (p : Int → Bool) (d : Nat) : ∀ b, (filI p d b).Pairwise (· < ·) := by
  induction d with
  | zero => exact fun _ => List.Pairwise.nil
  | succ d ih =>
    intro b
    rw [filI]
    split
    · refine List.Pairwise.cons (fun x hx => ?_) (ih (b + 1))
      have := (filI_mem p d (b + 1) x).1 hx
      omega
    · exact ih (b + 1)
theorem lt_nodup {l : List Int} (h : l.Pairwise (· < ·)) : l.Nodup := h.imp (fun hab => by omega)
theorem lt_le {l : List Int} (h : l.Pairwise (· < ·)) : l.Pairwise (· ≤ ·) := h.imp (fun hab => by omega)
theorem cut_sort {n h : Int} {c : List Int} {a : Int} (hv : ringB n h c = true) (ha : inB n a = true) (hc : hasL c a = false) (k : Nat) (hk : 200 < k) : slices_Sort_int_int.f k (c ++ [a]) = some (filI (fun x => decide (x = a) || hasL c x) n.toNat 0) := by
  have V := ringV_of hv
  have hn := V.n3
  have hl := V.len
  obtain ⟨r, r1, r2, r3⟩ := sort_ok (c ++ [a]) (by simp; omega)
  have hp := filI_pairwise (fun x => decide (x = a) || hasL c x) n.toNat 0
  have ha' := (inB_iff V a).1 ha
  have hca : a ∉ c := fun hm => by rw [(hasL_iff c a).2 hm] at hc; cases hc
  have hnd : (c ++ [a]).Nodup := by
    rw [List.nodup_append]
    refine ⟨lt_nodup (asc_pairwise c V.asc), by simp, fun x hx y hy => ?_⟩
    rw [List.mem_singleton] at hy
    subst hy
    exact fun e => hca (e ▸ hx)
  have hperm : (c ++ [a]).Perm (filI (fun x => decide (x = a) || hasL c x) n.toNat 0) := by
    refine (List.perm_ext_iff_of_nodup hnd (lt_nodup hp)).2 (fun x => ?_)
    rw [filI_mem, List.mem_append, List.mem_singleton, Bool.or_eq_true, decide_eq_true_eq, hasL_iff]
    constructor
    · rintro (hx | hx)
      · have := V.cut x hx
        exact ⟨by omega, by omega, Or.inr hx⟩
      · subst hx; exact ⟨by omega, by omega, Or.inl rfl⟩
    · rintro ⟨_, _, hx | hx⟩
      · exact Or.inr hx
      · exact Or.inl hx
  rw [r3 k hk, sort_uniq r2 (lt_le hp) (r1.trans hperm)]
theorem icut_eq (n h : Int) (c : List Int) (a : Int) (hc : c.length ≤ 1048576) (k : Nat) (hk : c.length + 300 < k) : impl_CutLink.f k n h c a = some (cutX n h c a) := by
  obtain ⟨k, rfl⟩ : ∃ m, k = m + 1 := ⟨k - 1, by omega⟩
  unfold impl_CutLink.f cutX
  rw [ilink_eq, Option.bind_some]
  cases hv : ringB n h c with
  | false => rw [if_neg (by simp), if_neg (by simp)]; simp only [impl_CutLink.j0]; rw [if_pos trivial]
  | true =>
    cases ha : inB n a with
    | false => rw [if_neg (by decide), if_neg (by simp)]; simp only [impl_CutLink.j0]; rw [if_pos trivial]
    | true =>
      rw [if_pos (by decide), contains_eq c a (by omega) _ (by omega), Option.bind_some]
      simp only [impl_CutLink.j0]
      cases hh : hasL c a with
      | true => rw [if_pos rfl, if_neg (by decide)]
      | false =>
        have ec : slices_Clone_int_int.f c = some c := by unfold slices_Clone_int_int.f; rw [if_pos (by omega)]
        rw [if_neg (by decide), ec, Option.bind_some, if_pos (by omega), cut_sort hv ha hh k (by omega), Option.bind_some, if_pos (by decide)]
theorem scut_at (n h : Int) (c : List Int) (a : Int) (hn : n ≤ 10) (hc : c.length ≤ 1048576) (d : Nat) : ∀ (k : Nat) (i : Int) (acc : List Int), 0 ≤ i → i + d = n → acc.length + d ≤ 1000 → d + c.length < k → spec_CutLink.l0 k a i n h c n h acc = some (n, h, acc ++ filI (fun x => decide (x = a) || hasL c x) d i, true) := by
  induction d with
  | zero =>
    intro k i acc h0 h1 h2 hk
    obtain ⟨k, rfl⟩ : ∃ m, k = m + 1 := ⟨k - 1, by omega⟩
    simp only [spec_CutLink.l0]
    rw [if_neg (by omega), filI, List.append_nil]
  | succ d ih =>
    intro k i acc h0 h1 h2 hk
    obtain ⟨k, rfl⟩ : ∃ m, k = m + 1 := ⟨k - 1, by omega⟩
    have ws : wrap64 (i + 1) = i + 1 := wrap_eq (by omega) (by omega)
    simp only [spec_CutLink.l0]
    rw [if_pos (by omega), ws, filI]
    by_cases e : i = a
    · rw [if_pos e, if_pos (by omega), ih k (i + 1) _ (by omega) (by omega) (by simp; omega) (by omega), if_pos (by simp [e]), List.append_assoc]; rfl
    · rw [if_neg e, l10_eq c i (by omega) k (by omega), Option.bind_some]
      cases hh : hasL c i with
      | true => rw [if_pos rfl, if_pos (by omega), ih k (i + 1) _ (by omega) (by omega) (by simp; omega) (by omega), if_pos (by simp), List.append_assoc]; rfl
      | false => rw [if_neg (by decide), ih k (i + 1) _ (by omega) (by omega) (by omega) (by omega), if_neg (by simp [e])]
theorem scut_eq (n h : Int) (c : List Int) (a : Int) (hc : c.length ≤ 1048576) (k : Nat) (hk : c.length + 30 < k) : spec_CutLink.f k n h c a = some (cutX n h c a) := by
  obtain ⟨k, rfl⟩ : ∃ m, k = m + 1 := ⟨k - 1, by omega⟩
  unfold spec_CutLink.f cutX
  rw [sring_eq n h c (by omega) _ (by omega), Option.bind_some]
  cases hv : ringB n h c with
  | false => rw [if_neg (by decide), if_neg (by simp)]; simp only [spec_CutLink.j0]; rw [if_pos trivial]
  | true =>
    have V := ringV_of hv
    have hn3 := V.n3
    have hn10 := V.n10
    rw [if_pos rfl, l1In_is, Option.bind_some]
    have e : (decide (0 ≤ a) && decide (a ≤ wrap64 (n - 1))) = inB n a := rfl
    rw [e]
    cases ha : inB n a with
    | false => rw [if_neg (by decide), if_neg (by simp)]; simp only [spec_CutLink.j0]; rw [if_pos trivial]
    | true =>
      rw [if_pos rfl, l10_eq c a (by omega) _ (by omega), Option.bind_some]
      simp only [spec_CutLink.j0]
      cases hh : hasL c a with
      | true => rw [if_pos rfl, if_neg (by decide)]
      | false =>
        rw [if_neg (by decide), if_pos (by decide)]
        have := scut_at n h c a hn10 hc n.toNat k 0 [] (by omega) (by omega) (by simp; omega) (by omega)
        exact this
theorem cutX_len (n h : Int) (c : List Int) (a : Int) : (cutX n h c a).2.2.1.length ≤ 10 := by
  unfold cutX
  split
  · rename_i hh
    simp only [Bool.and_eq_true] at hh
    have := (ringV_of hh.1).n10
    have := filI_len (fun x => decide (x = a) || hasL c x) n.toNat 0
    show (filI _ _ _).length ≤ 10
    omega
  · simp

end Go.Proofs.Ytdnehickciaiiaa.PAll
