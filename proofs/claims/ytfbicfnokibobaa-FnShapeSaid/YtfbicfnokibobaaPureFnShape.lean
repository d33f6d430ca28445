/- FnShape: at every draw the program's ShapePulses returns what the reference's returns; frames go on no sooner than they come, in their order, and conform at the times at which they go on (where these are times). No condition. -/
import Derived.Test.YtfbicfnokibobaaPAllx2
import Derived.Test.YtfbicfnokibobaaPAllx5
import Derived.Test.YtfbicfnokibobaaPAllx12
import Derived.Test.YtfbicfnokibobaaPAllx14
import Derived.Test.YtfbicfnokibobaaPAllx16
import Derived.Test.YtfbicfnokibobaaPAllx17
namespace Go.Proofs.Ytfbicfnokibobaa.Pure
open Go.RowKit Go.Proofs.Ytfbicfnokibobaa.PAll Go.Proofs.YtfbicfnokibobaaW.PrintWords Go.Proofs.YtfbicfnokibobaaW.PrintLast Go.Proofs.YtfbicfnokibobaaW.PrintMore

theorem shape_loop (r b : Int) (l : List S35) (o : List Int) (hl : l.length ≤ 1000) (hf : fitsB r b l = true) (h : ShP r b b 0 l o) (d : Nat) : ∀ (k i : Nat), i + d = o.length → 2 * d + l.length + 1 < k → (∀ j (hj : j < o.length), j < i → o[j] ≤ 2000) → laws_FnShape.l0 k r b l o o o.length (i : Int) = some true := by
  have hlen := h.len
  induction d with
  | zero =>
    intro k i h1 hk h3
    obtain ⟨k, rfl⟩ : ∃ m, k = m + 1 := ⟨k - 1, by omega⟩
    simp only [laws_FnShape.l0]
    have h4 : ∀ t ∈ o, t ≤ 2000 := by
      intro t ht
      obtain ⟨j, hj, rfl⟩ := List.getElem_of_mem ht
      exact h3 j hj (by omega)
    rw [if_neg (by omega), wnAt_eq l o hl hlen k (by omega), Option.bind_some, iconf_eq, Option.bind_some, shape_conf hf h h4]
  | succ d ih =>
    intro k i h1 hk h3
    obtain ⟨k, rfl⟩ : ∃ m, k = m + 1 + 1 := ⟨k - 2, by omega⟩
    have ha := h.at i (by omega) (by omega)
    simp only [laws_FnShape.l0]
    rw [if_pos (by omega), if_pos (by omega), if_pos (by omega), if_pos (by omega), rd_get o i (by omega), rdP_get l i (by omega), if_neg (by omega)]
    have fin : laws_FnShape.j2 (k + 1) r b l o o[i] o o.length (i : Int) false = some true := by
      simp only [laws_FnShape.j2]
      rw [if_neg (by decide)]
      by_cases c : o[i] > 2000
      · rw [if_pos c]
      · rw [if_neg c, wrap_succ (show i < o.length by omega) (by omega)]
        exact ih k (i + 1) (by omega) (by omega) (fun j hj hji => by
          by_cases e : j = i
          · subst e; omega
          · exact h3 j hj (by omega))
    by_cases c : (i : Int) > 0
    · obtain ⟨j, rfl⟩ : ∃ j, i = j + 1 := ⟨i - 1, by omega⟩
      have hu := h.up j (by omega)
      have e1 : wrap64 (((j + 1 : Nat) : Int) - 1) = (j : Int) := by rw [wrap_eq (by omega) (by omega)]; omega
      rw [if_pos c, e1, if_pos (by omega), if_pos (by omega), rd_get o j (by omega), decide_eq_false (by omega)]
      exact fin
    · rw [if_neg c]
      exact fin
theorem FnShape : laws_FnShape.Pure := by
  intro l0 _ _ hw
  obtain ⟨r, b, l, hl, hd⟩ := drawShape_ok hw
  refine ⟨300000, ?_⟩
  unfold laws_FnShape.f
  by_cases hs : (l0.length : Int) > 1048576
  · rw [if_pos hs]
  rw [if_neg hs, hd _ (by omega), Option.bind_some]
  simp only []
  have hlen : (shF r b l).length ≤ 61 := by
    rcases shF_cases r b l with e | ⟨_, e⟩
    · rw [e]; simp
    · rw [e.len]; exact hl
  obtain ⟨k, hk⟩ : ∃ k : Nat, 300000 = k + 1 := ⟨299999, rfl⟩
  rw [ish_eq, Option.bind_some, ssh_eq r b l (by omega) _ (by omega), Option.bind_some, wnInts_eq _ _ (by omega) _ (by omega), Option.bind_some, if_pos (by simp), hk]
  simp only [laws_FnShape.j0]
  rcases shF_cases r b l with e | ⟨hf, e⟩
  · rw [e, if_pos (by decide), ssh_eq r b l (by omega) _ (by omega), Option.bind_some, e, wnInts_eq _ _ (by simp) _ (by simp; omega), Option.bind_some]
    rfl
  · by_cases c : (shF r b l).length = 0
    · have e0 := List.length_eq_zero_iff.1 c
      rw [e0, if_pos (by decide), ssh_eq r b l (by omega) _ (by omega), Option.bind_some, e0, wnInts_eq _ _ (by simp) _ (by simp; omega), Option.bind_some]
      rfl
    · have hne : ((((shF r b l).length : Int)) == 0) = false   := beq_eq_false_iff_ne.2 (fun h => c (by omega))
      rw [hne, if_neg (by decide)]
      exact shape_loop r b l _ (by omega) hf e (shF r b l).length k 0 (by omega) (by omega) (fun j hj h => by omega)

end Go.Proofs.Ytfbicfnokibobaa.Pure
