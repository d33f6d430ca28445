/- FnShapeFirst: at every draw the program's ShapePulses returns what the reference's returns, and a frame that goes on later than it comes and not with the one ahead of it would not conform a step sooner. No condition. -/
import Derived.Test.YtfbicfnokibobaaPAllx2
import Derived.Test.YtfbicfnokibobaaPAllx5
import Derived.Test.YtfbicfnokibobaaPAllx12
import Derived.Test.YtfbicfnokibobaaPAllx15
import Derived.Test.YtfbicfnokibobaaPAllx16
import Derived.Test.YtfbicfnokibobaaPAllx17
namespace Go.Proofs.Ytfbicfnokibobaa.Pure
open Go.RowKit Go.Proofs.Ytfbicfnokibobaa.PAll Go.Proofs.YtfbicfnokibobaaW.PrintWords Go.Proofs.YtfbicfnokibobaaW.PrintLast Go.Proofs.YtfbicfnokibobaaW.PrintMore

theorem first_not {r b : Int} {l : List S35} {o : List Int} (hf : fitsB r b l = true) (h : ShP r b b 0 l o) (i : Nat) (h1 : i < l.length) (h2 : i < o.length) (h4 : o[i] ≠ l[i].f0) (h6 : ∀ j (hj : j < o.length), i = j + 1 → o[j] ≠ o[i]) : confF r b (atT (l.take (i + 1)) (o.take i ++ [o[i] - 1])) = false := by
  obtain ⟨f1, f2, f3, f4, f5, f6⟩ := fitsB_facts hf
  have hp : 0 ≤ l[i].f0 := by
    unfold pvB at f1
    simp only [Bool.and_eq_true] at f1
    have := List.all_eq_true.1 f1.1.1 l[i] (List.getElem_mem _)
    unfold pulseB at this
    simp at this
    omega
  have ha := h.at i h1 h2
  have hn := h.sooner ⟨f3, f4⟩ ⟨f5, f6⟩ i h1 h2 h4 (fun _ => by omega) h6
  unfold confF polF
  cases hfit : fitsB r b (atT (l.take (i + 1)) (o.take i ++ [o[i] - 1])) with
  | false => rfl
  | true => rw [if_pos rfl, hn]; rfl
theorem first_loop (r b : Int) (l : List S35) (o : List Int) (hl : l.length ≤ 1000) (hf : fitsB r b l = true) (h : ShP r b b 0 l o) (d : Nat) : ∀ (k i : Nat), i + d = o.length → 2 * d + l.length + 1 < k → laws_FnShapeFirst.l0 k r b l o o o.length (i : Int) = some true := by
  have hlen := h.len
  induction d with
  | zero =>
    intro k i h1 hk
    obtain ⟨k, rfl⟩ : ∃ m, k = m + 1 := ⟨k - 1, by omega⟩
    simp only [laws_FnShapeFirst.l0]
    rw [if_neg (by omega)]
  | succ d ih =>
    intro k i h1 hk
    obtain ⟨k, rfl⟩ : ∃ m, k = m + 1 + 1 := ⟨k - 2, by omega⟩
    have hi : i < l.length := by omega
    have ho : i < o.length := by omega
    have ih' := ih k (i + 1) (by omega) (by omega)
    have ws := wrap_succ (show i < o.length by omega) (by omega)
    simp only [laws_FnShapeFirst.l0]
    rw [if_pos (by omega), if_pos (by omega), if_pos (by omega), rd_get o i (by omega), rdP_get l i (by omega)]
    by_cases c2 : o[i] > 2000
    · rw [if_pos c2]
    rw [if_neg c2, if_pos (by omega)]
    have go : ∀ q : Bool, (q = false → o[i] ≠ l[i].f0 ∧ ∀ j (hj : j < o.length), i = j + 1 → o[j] ≠ o[i]) → laws_FnShapeFirst.j1 (k + 1) r b l o (i : Int) o[i] o o.length (i : Int) q = some true := by
      intro q hq
      simp only [laws_FnShapeFirst.j1]
      rw [ws]
      cases q with
      | true => rw [if_pos rfl]; exact ih'
      | false =>
        obtain ⟨q1, q2⟩ := hq rfl
        have hc := first_not hf h i hi ho q1 q2
        have ha := h.at i hi ho
        have hp : 0 ≤ l[i].f0 := by
          obtain ⟨f1, _⟩ := fitsB_facts hf
          unfold pvB at f1
          simp only [Bool.and_eq_true] at f1
          have := List.all_eq_true.1 f1.1.1 l[i] (List.getElem_mem _)
          unfold pulseB at this
          simp at this
          omega
        have e1 : (((i : Nat) : Int)).toNat = i := by omega
        have e2 : (((i + 1 : Nat) : Int)).toNat = i + 1 := by omega
        rw [if_neg (by decide), Option.bind_some, if_pos (by omega), if_pos (by omega), Option.bind_some, if_pos (by simp; omega), Option.bind_some, if_pos (by simp; omega), if_pos (by omega), if_pos (by omega), wrap_eq (x := o[i] - 1) (by omega) (by omega), e1, e2, List.nil_append]
        rw [wnAt_eq _ _ (by simp; omega) (by simp; omega) k (by simp; omega), Option.bind_some, iconf_eq, Option.bind_some, hc, if_neg (by decide)]
        exact ih'
    by_cases c : o[i] = l[i].f0
    · rw [if_pos c]; exact go true (fun h => by cases h)
    rw [if_neg c]
    by_cases c3 : (i : Int) > 0
    · obtain ⟨j, rfl⟩ : ∃ j, i = j + 1 := ⟨i - 1, by omega⟩
      have e1 : wrap64 (((j + 1 : Nat) : Int) - 1) = (j : Int) := by rw [wrap_eq (by omega) (by omega)]; omega
      rw [if_pos c3, e1, if_pos (by omega), if_pos (by omega), rd_get o j (by omega)]
      refine go _ (fun hq => ⟨c, fun j2 hj2 e => ?_⟩)
      obtain rfl : j2 = j := by omega
      simpa using hq
    · rw [if_neg c3]
      exact go false (fun _ => ⟨c, fun j2 hj2 e => by omega⟩)
theorem FnShapeFirst : laws_FnShapeFirst.Pure := by
  intro l0 _ _ hw
  obtain ⟨r, b, l, hl, hd⟩ := drawShape_ok hw
  refine ⟨300000, ?_⟩
  unfold laws_FnShapeFirst.f
  by_cases hs : (l0.length : Int) > 1048576
  · rw [if_pos hs]
  rw [if_neg hs, hd _ (by omega), Option.bind_some]
  simp only []
  have hlen : (shF r b l).length ≤ 61 := by
    rcases shF_cases r b l with e | ⟨_, e⟩
    · rw [e]; simp
    · rw [e.len]; exact hl
  rw [ish_eq, Option.bind_some, ssh_eq r b l (by omega) _ (by omega), Option.bind_some, wnInts_eq _ _ (by omega) _ (by omega), Option.bind_some, if_pos (by simp)]
  rcases shF_cases r b l with e | ⟨hf, e⟩
  · rw [e]; rfl
  · exact first_loop r b l _ (by omega) hf e (shF r b l).length 300000 0 (by omega) (by omega)

end Go.Proofs.Ytfbicfnokibobaa.Pure
