/- Proved here: contracts of functions of the given program, or lemmas on them, for the laws of this seat. Written by xprint.py, a program of this session, on the ground of the kit's print; parts by hand: wip/x/ext. -/
import Derived.Test.YtfbicfnokibobaaPAllx0
import Derived.Test.YtfbicfnokibobaaPAllx2
namespace Go.Proofs.Ytfbicfnokibobaa.PAll
open Go.RowKit Go.Proofs.YtfbicfnokibobaaW.PrintWords Go.Proofs.YtfbicfnokibobaaW.PrintLast Go.Proofs.YtfbicfnokibobaaW.PrintMore
attribute [local go_sem] max2_int min2_int max_two min_two max_three min_three max_four min_four   -- for this text's walks alone
set_option linter.unusedVariables false
set_option linter.unusedSimpArgs false

-- LIB p14
theorem l1InP_eq (n a b : Int) : spec_l1In.f n a b = some (decide (a ≤ n) && decide (n ≤ b)) := by
  unfold spec_l1In.f
  by_cases h : n ≥ a
  · rw [if_pos h, decide_eq_true (show a ≤ n from h), Bool.true_and]
  · rw [if_neg h, decide_eq_false (show ¬ a ≤ n from h), Bool.false_and]
theorem spulses_at (l : List S35) (hl : l.length ≤ 9223372036854775807) (d : Nat) : ∀ (k i : Nat), 1 ≤ i → i + d = l.length → d < k → spec_PulsesValid.l0 k l (i : Int) = some ((l.drop i).all pulseB && nondec (l.drop (i - 1)) && decide (l.length ≤ 60)) := by
  induction d with
  | zero =>
    intro k i h1 h2 hk
    obtain ⟨k, rfl⟩ : ∃ m, k = m + 1 := ⟨k - 1, by omega⟩
    simp only [spec_PulsesValid.l0]
    have e1 : l.drop i = [] := by rw [show i = l.length by omega, List.drop_length]
    have e2 : l.drop (i - 1 + 1) = [] := by rw [show i - 1 + 1 = l.length by omega, List.drop_length]
    have e3 : ((l.length : Int) ≤ 60) = (l.length ≤ 60) := by apply propext; omega
    rw [if_neg (by omega), e1, List.drop_eq_getElem_cons (show i - 1 < l.length by omega), e2]
    simp [nondec, e3]
  | succ d ih =>
    intro k i h1 h2 hk
    obtain ⟨k, rfl⟩ : ∃ m, k = m + 1 := ⟨k - 1, by omega⟩
    have e1 : wrap64 ((i : Int) - 1) = ((i - 1 : Nat) : Int) := by unfold wrap64; omega
    have ih' := ih k (i + 1) (by omega) (by omega) (by omega)
    simp only [spec_PulsesValid.l0]
    rw [e1, wrap_succ (show i < l.length by omega) (by omega), if_pos (by omega), if_pos (by omega), if_pos (show (i : Int) > 0 by omega), if_pos (by omega), if_pos (by omega), ih', l1InP_eq, l1InP_eq]
    rw [rdP_get l i (by omega), rdP_get l (i - 1) (by omega), List.drop_eq_getElem_cons (show i - 1 < l.length by omega), show i - 1 + 1 = i by omega, List.drop_eq_getElem_cons (show i < l.length by omega), nondec, show i + 1 - 1 = i by omega, List.drop_eq_getElem_cons (show i < l.length by omega)]
    simp only [Option.bind_some, List.all_cons]
    have hp : pulseB l[i] = ((decide (0 ≤ l[i].f0) && decide (l[i].f0 ≤ 2000)) && (decide (1 ≤ l[i].f1) && decide (l[i].f1 ≤ 50))) := rfl
    rw [hp]
    cases c1 : (decide (0 ≤ l[i].f0) && decide (l[i].f0 ≤ 2000)) with
    | false => rw [if_neg (by decide)]; simp
    | true =>
      rw [if_pos rfl]
      cases c2 : (decide (1 ≤ l[i].f1) && decide (l[i].f1 ≤ 50)) with
      | false => rw [if_neg (by decide)]; simp
      | true =>
        rw [if_pos rfl]
        by_cases c : l[i - 1].f0 > l[i].f0
        · rw [if_pos c, decide_eq_false (show ¬ l[i - 1].f0 ≤ l[i].f0 by omega)]; simp
        · rw [if_neg c, decide_eq_true (show l[i - 1].f0 ≤ l[i].f0 by omega)]; simp
theorem spulses_eq (l : List S35) (hl : l.length ≤ 9223372036854775807) (k : Nat) (hk : l.length < k) : spec_PulsesValid.f k l = some (pvB l) := by
  unfold spec_PulsesValid.f pvB
  obtain ⟨k, rfl⟩ : ∃ m, k = m + 1 := ⟨k - 1, by omega⟩
  simp only [spec_PulsesValid.l0]
  match l, hl, hk with
  | [], _, _ => rfl
  | x :: t, hl, hk =>
    have h1 := spulses_at (x :: t) hl t.length k 1 (by omega) (by simp; omega) (by simp at hk; omega)
    have hx : rd_T35 (x :: t) 0 = x := rfl
    rw [if_pos (by simp only [List.length_cons]; omega), if_pos (by omega), l1InP_eq, l1InP_eq, hx]
    simp only [Option.bind_some, List.all_cons]
    have hp : pulseB x = ((decide (0 ≤ x.f0) && decide (x.f0 ≤ 2000)) && (decide (1 ≤ x.f1) && decide (x.f1 ≤ 50))) := rfl
    rw [hp]
    cases c1 : (decide (0 ≤ x.f0) && decide (x.f0 ≤ 2000)) with
    | false => rw [if_neg (by decide)]; simp
    | true =>
      rw [if_pos rfl]
      cases c2 : (decide (1 ≤ x.f1) && decide (x.f1 ≤ 50)) with
      | false => rw [if_neg (by decide)]; simp
      | true =>
        rw [if_pos rfl, if_neg (by decide), wrap_eq (by decide) (by decide)]
        refine Eq.trans h1 ?_
        simp only [List.drop_succ_cons, List.drop_zero, Nat.sub_self, Bool.true_and]
theorem sfits_eq (r b : Int) (l : List S35) (hl : l.length ≤ 9223372036854775807) (k : Nat) (hk : l.length < k) : spec_l14Fits.f k r b l = some (fitsB r b l) := by
  unfold spec_l14Fits.f fitsB
  rw [l1InP_eq, l1InP_eq, spulses_eq l hl k hk]
  simp only [Option.bind_some]
  cases (decide (1 ≤ r) && decide (r ≤ 20)) <;> cases (decide (1 ≤ b) && decide (b ≤ 100)) <;> cases pvB l <;> rfl
theorem spol_at (r b : Int) (l : List S35) (hl : l.length ≤ 100000) (d : Nat) : ∀ (k i : Nat) (out : List Bool) (T a : Int), i + d = l.length → d < k → out.length ≤ i → spec_PolicePulses.l0 k r b l out T a (i : Int) = some (out ++ polL r b T a (l.drop i)) := by
  induction d with
  | zero =>
    intro k i out T a h2 hk ho
    obtain ⟨k, rfl⟩ : ∃ m, k = m + 1 := ⟨k - 1, by omega⟩
    simp only [spec_PolicePulses.l0]
    rw [if_neg (by omega), show i = l.length by omega, List.drop_length]
    simp [polL]
  | succ d ih =>
    intro k i out T a h2 hk ho
    obtain ⟨k, rfl⟩ : ∃ m, k = m + 1 := ⟨k - 1, by omega⟩
    simp only [spec_PolicePulses.l0]
    have hu : mn b (wrap64 (T + wrap64 (r * wrap64 (l[i].f0 - a)))) = untilT r b T a l[i].f0 := rfl
    rw [if_pos (by omega), if_pos (by omega), rdP_get l i (by omega), wrap_succ (show i < l.length by omega) (by omega), List.drop_eq_getElem_cons (show i < l.length by omega), polL, hu]
    have hok : takeOk r b T a l[i].f0 l[i].f1 = decide (l[i].f1 ≤ untilT r b T a l[i].f0) := rfl
    have hT : takeT r b T a l[i].f0 l[i].f1 = if l[i].f1 ≤ untilT r b T a l[i].f0 then wrap64 (untilT r b T a l[i].f0 - l[i].f1) else untilT r b T a l[i].f0 := rfl
    rw [hok, hT]
    by_cases c : l[i].f1 ≤ untilT r b T a l[i].f0
    · rw [if_pos c, if_pos (by omega), ih k (i + 1) _ _ _ (by omega) (by omega) (by simp; omega), if_pos c]
      simp
    · rw [if_neg c, if_pos (by omega), ih k (i + 1) _ _ _ (by omega) (by omega) (by simp; omega), if_neg c]
      simp
theorem spol_eq (r b : Int) (l : List S35) (hl : l.length ≤ 9223372036854775807) (k : Nat) (hk : l.length < k) : spec_PolicePulses.f k r b l = some (polF r b l) := by
  unfold spec_PolicePulses.f polF
  rw [Option.bind_some, sfits_eq r b l (by omega) k hk, Option.bind_some]
  cases hf : fitsB r b l with
  | false => rw [if_neg (by decide), if_neg (by decide)]
  | true =>
    obtain ⟨_, f2, _⟩ := fitsB_facts hf
    rw [if_pos rfl, if_pos rfl]
    exact (spol_at r b l (by omega) l.length k 0 [] b 0 (by omega) (by omega) (by simp)).trans (by rw [List.drop_zero, List.nil_append])
theorem polL_len (r b : Int) (l : List S35) : ∀ T a, (polL r b T a l).length = l.length := by
  induction l with
  | nil => intro T a; rfl
  | cons p l ih => intro T a; simp [polL, ih]
theorem sconf_at (r b : Int) (l : List S35) (hl : l.length ≤ 100000) (k0 : Nat) (hk0 : l.length < k0) (o : List Bool) (ho : o.length ≤ 100000) (d : Nat) : ∀ (k i : Nat), i + d = o.length → l.length + d + 1 < k → spec_Conforms.l0 k r b l o (i : Int) = some ((o.drop i).all id && fitsB r b l) := by
  induction d with
  | zero =>
    intro k i h2 hk
    obtain ⟨k, rfl⟩ : ∃ m, k = m + 1 := ⟨k - 1, by omega⟩
    simp only [spec_Conforms.l0]
    rw [if_neg (by omega), show i = o.length by omega, List.drop_length, sfits_eq r b l (by omega) k (by omega)]
    simp
  | succ d ih =>
    intro k i h2 hk
    obtain ⟨k, rfl⟩ : ∃ m, k = m + 1 := ⟨k - 1, by omega⟩
    have r1 : rdOf false o (i : Int) = o[i] := by simp [rdOf, List.getD_eq_getElem?_getD, show i < o.length by omega]
    simp only [spec_Conforms.l0]
    rw [if_pos (by omega), if_pos (by omega), r1, wrap_succ (show i < o.length by omega) (by omega), List.drop_eq_getElem_cons (show i < o.length by omega), List.all_cons]
    cases hc : o[i] with
    | false => rw [if_neg (by decide)]; simp
    | true => rw [if_pos rfl, ih k (i + 1) (by omega) (by omega)]; simp
theorem sconf_eq (r b : Int) (l : List S35) (hl : l.length ≤ 9223372036854775807) (k : Nat) (hk : 2 * l.length + 1 < k) : spec_Conforms.f k r b l = some (confF r b l) := by
  unfold spec_Conforms.f confF
  rw [spol_eq r b l (by omega) k (by omega), Option.bind_some]
  have hlen : (polF r b l).length ≤ l.length := by unfold polF; split <;> simp [polL_len]
  cases hf : fitsB r b l with
  | false =>
    have e : polF r b l = [] := by unfold polF; rw [hf, if_neg (by decide)]
    obtain ⟨k, rfl⟩ : ∃ m, k = m + 1 := ⟨k - 1, by omega⟩
    rw [e]
    simp only [spec_Conforms.l0]
    rw [if_neg (by simp), sfits_eq r b l (by omega) k (by omega), Option.bind_some, hf]
    rfl
  | true =>
  obtain ⟨_, f2, _⟩ := fitsB_facts hf
  rw [← hf]
  exact (sconf_at r b l (by omega) k (by omega) (polF r b l) (by omega) (polF r b l).length k 0 (by omega) (by omega)).trans (by rw [List.drop_zero, Bool.and_comm])
theorem iconf_eq (r b : Int) (l : List S35) : impl_Conforms.f r b l = some (confF r b l) := rfl
theorem ipol_eq (r b : Int) (l : List S35) : impl_PolicePulses.f r b l = some (polF r b l) := rfl

end Go.Proofs.Ytfbicfnokibobaa.PAll
