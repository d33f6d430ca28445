/- FnConforms: at every draw the program's Conforms and PulsesValid answer as the reference's; frames conform where from no frame to a later one they are more than the burst and the rate times the time between. No condition. -/
import Derived.Test.YtfbicfnokibobaaPAllx1
import Derived.Test.YtfbicfnokibobaaPAllx2
import Derived.Test.YtfbicfnokibobaaPAllx3
namespace Go.Proofs.Ytfbicfnokibobaa.Pure
open Go.RowKit Go.Proofs.Ytfbicfnokibobaa.PAll Go.Proofs.YtfbicfnokibobaaW.PrintWords Go.Proofs.YtfbicfnokibobaaW.PrintLast Go.Proofs.YtfbicfnokibobaaW.PrintMore

theorem cf_l1 (r b : Int) (hr : 1 ≤ r ∧ r ≤ 20) (hb : 1 ≤ b ∧ b ≤ 100) (l : List S35) (is : Bool) (i : Nat) (hi : i < l.length) (X X1 : Int) (y : List S35) (hy : y.length ≤ 60) (hall : ∀ p ∈ l, 0 ≤ p.f0 ∧ p.f0 ≤ 2000 ∧ 1 ≤ p.f1 ∧ p.f1 ≤ 50) (hally : ∀ p ∈ y, p ∈ l) (d : Nat) : ∀ (k j : Nat) (s : Int) (kp : Bool), j + d = y.length → 0 ≤ s → s ≤ 50 * j → d < k →
    laws_FnConforms.l1 k r b l is kp (i : Int) s X X1 y y.length (j : Int) = laws_FnConforms.l0 (k - d - 1) r b l is (kp && ivF r b l[i].f0 s (y.drop j)) X (wrap64 (X1 + 1)) := by
  have ha := hall _ (List.getElem_mem hi)
  induction d with
  | zero =>
    intro k j s kp h1 h2 h3 hk
    obtain ⟨k, rfl⟩ : ∃ m, k = m + 1 := ⟨k - 1, by omega⟩
    simp only [laws_FnConforms.l1]
    rw [if_neg (by omega), List.drop_of_length_le (by omega), ivF, Bool.and_true]
    rfl
  | succ d ih =>
    intro k j s kp h1 h2 h3 hk
    obtain ⟨k, rfl⟩ : ∃ m, k = m + 1 := ⟨k - 1, by omega⟩
    have hj : j < y.length := by omega
    have hp := hall _ (hally _ (List.getElem_mem hj))
    have e1 : wrap64 (s + y[j].f1) = s + y[j].f1 := wrap_eq (by omega) (by omega)
    have e2 : wrap64 (y[j].f0 - l[i].f0) = y[j].f0 - l[i].f0 := wrap_eq (by omega) (by omega)
    have g1 : r * (y[j].f0 - l[i].f0) ≤ 20 * 2000 := by
      rcases Int.le_total 0 (y[j].f0 - l[i].f0) with q | q
      · exact Int.mul_le_mul (by omega) (by omega) q (by omega)
      · have := Int.mul_nonpos_of_nonneg_of_nonpos (show 0 ≤ r by omega) q; omega
    have g2 : -(20 * 2000) ≤ r * (y[j].f0 - l[i].f0) := by
      rcases Int.le_total 0 (y[j].f0 - l[i].f0) with q | q
      · have := Int.mul_nonneg (show 0 ≤ r by omega) q; omega
      · have := Int.mul_le_mul (show r ≤ 20 by omega) (show -(y[j].f0 - l[i].f0) ≤ 2000 by omega) (by omega) (by omega)
        rw [Int.mul_neg] at this; omega
    have e3 : wrap64 (r * (y[j].f0 - l[i].f0)) = r * (y[j].f0 - l[i].f0) := wrap_eq (by omega) (by omega)
    have e4 : wrap64 (b + r * (y[j].f0 - l[i].f0)) = b + r * (y[j].f0 - l[i].f0) := wrap_eq (by omega) (by omega)
    simp only [laws_FnConforms.l1]
    rw [if_pos (by omega), if_pos (by omega), if_pos (by omega), rdP_get y j hj, rdP_get l i hi, e1, e2, e3, e4, wrap_succ hj (by omega), List.drop_eq_getElem_cons hj, ivF, show k + 1 - (d + 1) - 1 = k - d - 1 by omega]
    cases kp with
    | true =>
      rw [if_pos rfl, if_pos (by omega), if_pos (by omega), ih k (j + 1) _ _ (by omega) (by omega) (by omega) (by omega), Bool.true_and]
    | false => rw [if_neg (by decide), ih k (j + 1) _ _ (by omega) (by omega) (by omega) (by omega), Bool.false_and, Bool.false_and]
theorem cf_l0 (r b : Int) (hr : 1 ≤ r ∧ r ≤ 20) (hb : 1 ≤ b ∧ b ≤ 100) (l : List S35) (is : Bool) (hl : l.length ≤ 60) (hall : ∀ p ∈ l, 0 ≤ p.f0 ∧ p.f0 ≤ 2000 ∧ 1 ≤ p.f1 ∧ p.f1 ≤ 50) (d : Nat) : ∀ (k i : Nat) (kp : Bool), i + d = l.length → d * 100 < k →
    laws_FnConforms.l0 k r b l is kp l.length (i : Int) = some (is == (kp && kpF r b (l.drop i))) := by
  induction d with
  | zero =>
    intro k i kp h1 hk
    obtain ⟨k, rfl⟩ : ∃ m, k = m + 1 := ⟨k - 1, by omega⟩
    simp only [laws_FnConforms.l0]
    rw [if_neg (by omega), List.drop_of_length_le (by omega), kpF, Bool.and_true]
  | succ d ih =>
    intro k i kp h1 hk
    obtain ⟨k, rfl⟩ : ∃ m, k = m + 1 := ⟨k - 1, by omega⟩
    have hi : i < l.length := by omega
    simp only [laws_FnConforms.l0]
    rw [if_pos (by omega), if_pos (by omega), if_pos (by omega), Option.bind_some, Int.toNat_natCast]
    have h := cf_l1 r b hr hb l is i hi l.length (i : Int) (l.drop i) (by rw [List.length_drop]; omega) hall (fun p hp => List.mem_of_mem_drop hp) (l.drop i).length k 0 0 kp (by omega) (by omega) (by omega) (by rw [List.length_drop]; omega)
    rw [List.drop_zero] at h
    refine h.trans ?_
    rw [wrap_succ hi (by omega), ih _ (i + 1) _ (by omega) (by rw [List.length_drop]; omega)]
    have e : kpF r b (l.drop i) = (ivF r b l[i].f0 0 (l.drop i) && kpF r b (l.drop (i + 1))) := by
      conv => lhs; rw [List.drop_eq_getElem_cons hi, kpF, ← List.drop_eq_getElem_cons hi]
    rw [e, Bool.and_assoc]
theorem FnConforms : laws_FnConforms.Pure := by
  intro l0 _ _ hw
  obtain ⟨r, b, l, hl, hd⟩ := drawConf_ok hw
  refine ⟨30000, ?_⟩
  unfold laws_FnConforms.f
  by_cases c : (l0.length : Int) > 1048576
  · rw [if_pos c]
  rw [if_neg c, hd _ (by omega), Option.bind_some]
  simp only []
  rw [iconf_eq, Option.bind_some, sconf_eq r b l (by omega) _ (by omega), Option.bind_some, if_neg (by simp), pulses_eq l (by omega) _ (by omega), Option.bind_some, spulses_eq l (by omega) _ (by omega), Option.bind_some]
  simp only [laws_FnConforms.j0]
  rw [if_neg (by simp), pulses_eq l (by omega) _ (by omega), Option.bind_some]
  by_cases hf : fitsB r b l = true
  · obtain ⟨f1, f2, f3, f4, f5, f6⟩ := fitsB_facts hf
    rw [f1, if_pos rfl, if_neg (by omega), if_neg (by omega), if_neg (by omega), decide_eq_false (by omega)]
    simp only [laws_FnConforms.j1]
    have hall : ∀ p ∈ l, 0 ≤ p.f0 ∧ p.f0 ≤ 2000 ∧ 1 ≤ p.f1 ∧ p.f1 ≤ 50 := by
      intro p hp
      have h := f1
      unfold pvB at h
      rw [Bool.and_eq_true, Bool.and_eq_true] at h
      have := List.all_eq_true.1 h.1.1 p hp
      unfold pulseB at this
      simp at this
      omega
    rw [if_neg (by decide)]
    have h := cf_l0 r b ⟨f3, f4⟩ ⟨f5, f6⟩ l (confF r b l) f2 hall l.length 29998 0 true (by omega) (by omega)
    refine h.trans ?_
    rw [List.drop_zero, Bool.true_and, conf_iv r b l hf]
    simp
  · have hc : confF r b l = false := by unfold confF; rw [Bool.eq_false_iff.2 hf, Bool.false_and]
    rw [hc]
    have hn : pvB l = true → ¬ (1 ≤ r ∧ r ≤ 20 ∧ 1 ≤ b ∧ b ≤ 100) := by
      intro h1 h2
      apply hf
      unfold fitsB
      rw [h1, decide_eq_true h2.1, decide_eq_true h2.2.1, decide_eq_true h2.2.2.1, decide_eq_true h2.2.2.2]
      rfl
    cases hp : pvB l with
    | false =>
      rw [if_neg (by decide)]
      simp only [laws_FnConforms.j1]
      rw [if_pos trivial]; rfl
    | true =>
      have hn := hn hp
      rw [if_pos rfl]
      by_cases c1 : r < 1
      · rw [if_pos c1]; simp only [laws_FnConforms.j1]; rw [if_pos trivial]; rfl
      · rw [if_neg c1]
        by_cases c2 : r > 20
        · rw [if_pos c2]; simp only [laws_FnConforms.j1]; rw [if_pos trivial]; rfl
        · rw [if_neg c2]
          by_cases c3 : b < 1
          · rw [if_pos c3]; simp only [laws_FnConforms.j1]; rw [if_pos trivial]; rfl
          · rw [if_neg c3, decide_eq_true (show b > 100 by omega)]
            simp only [laws_FnConforms.j1]; rw [if_pos trivial]; rfl

end Go.Proofs.Ytfbicfnokibobaa.Pure
