/- FnShapeAgain: at every draw the program's ShapePulses returns what the reference's returns; frames conform just if all go on as they come, and shaped frames go on at their times. No condition. -/
import Derived.Test.YtfbicfnokibobaaPAllx2
import Derived.Test.YtfbicfnokibobaaPAllx8
import Derived.Test.YtfbicfnokibobaaPAllx12
import Derived.Test.YtfbicfnokibobaaPAllx13
import Derived.Test.YtfbicfnokibobaaPAllx16
import Derived.Test.YtfbicfnokibobaaPAllx17
namespace Go.Proofs.Ytfbicfnokibobaa.Pure
open Go.RowKit Go.Proofs.Ytfbicfnokibobaa.PAll Go.Proofs.YtfbicfnokibobaaW.PrintWords Go.Proofs.YtfbicfnokibobaaW.PrintLast Go.Proofs.YtfbicfnokibobaaW.PrintMore

theorem again_loop (r b : Int) (l : List S35) (o : List Int) (hl : l.length ≤ 1000) (hf : fitsB r b l = true) (h : ShP r b b 0 l o) (d : Nat) : ∀ (k i : Nat) (late : Bool), i + d = l.length → d + l.length + 1 < k → late = (o.take i).any (fun t => decide (t > 2000)) → laws_FnShapeAgain.l0 k r b l o ((l.take i).map (·.f0)) late l l.length (i : Int) = some true := by
  have hlen := h.len
  obtain ⟨f1, f2, f3, f4, f5, f6⟩ := fitsB_facts hf
  induction d with
  | zero =>
    intro k i late h1 hk h3
    obtain ⟨k, rfl⟩ : ∃ m, k = m + 1 := ⟨k - 1, by omega⟩
    have hown := h.own ⟨f3, f4⟩ ⟨f5, f6⟩ (pv_from f1)
    have hc : confF r b l = decide (o = l.map (·.f0)) := by
      unfold confF polF
      rw [hf, if_pos rfl, hown]; rfl
    simp only [laws_FnShapeAgain.l0]
    rw [if_neg (by omega), iconf_eq, Option.bind_some, wnInts_eq _ _ (by omega) k (by omega), Option.bind_some, hc, List.take_of_length_le (show l.length ≤ i by omega), if_neg (by simp)]
    cases late with
    | true => rw [if_pos rfl]
    | false =>
      rw [if_neg (by decide), wnAt_eq l o hl hlen k (by omega), Option.bind_some, ish_eq, Option.bind_some]
      rw [List.take_of_length_le (show o.length ≤ i by omega)] at h3
      have h4 : ∀ t ∈ o, t ≤ 2000 := by
        intro t ht
        have := List.any_eq_false.1 h3.symm t ht
        simpa using this
      have e : shF r b (atT l o) = o := by
        unfold shF
        rw [h.fits hf h4, if_pos rfl, h.again ⟨f3, f4⟩ ⟨f5, f6⟩]; rfl
      rw [e, wnInts_eq _ _ (by omega) k (by omega), Option.bind_some]
      simp
  | succ d ih =>
    intro k i late h1 hk h3
    obtain ⟨k, rfl⟩ : ∃ m, k = m + 1 := ⟨k - 1, by omega⟩
    have hi : i < l.length := by omega
    have ho : i < o.length := by omega
    have e1 : (l.take i).map (·.f0) ++ [l[i].f0] = (l.take (i + 1)).map (·.f0) := by rw [List.take_succ_eq_append_getElem hi, List.map_append]; rfl
    have e2 : (o.take (i + 1)).any (fun t => decide (t > 2000)) = ((o.take i).any (fun t => decide (t > 2000)) || decide (o[i] > 2000)) := by rw [List.take_succ_eq_append_getElem ho, List.any_append]; simp
    simp only [laws_FnShapeAgain.l0]
    rw [if_pos (by omega), if_pos (by omega), if_pos (by omega), if_pos (by simp; omega), Option.bind_some, rdP_get l i hi, rd_get o i ho, wrap_succ hi (by omega), e1]
    cases late with
    | true => rw [if_pos rfl]; exact ih k (i + 1) true (by omega) (by omega) (by rw [e2, ← h3]; rfl)
    | false => rw [if_neg (by decide), if_pos (by omega)]; exact ih k (i + 1) _ (by omega) (by omega) (by rw [e2, ← h3, Bool.false_or])
theorem FnShapeAgain : laws_FnShapeAgain.Pure := by
  intro l0 _ _ hw
  obtain ⟨r, b, l, hl, hd⟩ := drawConf_ok hw
  refine ⟨300000, ?_⟩
  unfold laws_FnShapeAgain.f
  by_cases hs : (l0.length : Int) > 1048576
  · rw [if_pos hs]
  rw [if_neg hs, hd _ (by omega), Option.bind_some]
  simp only []
  have hlen : (shF r b l).length ≤ 61 := by
    rcases shF_cases r b l with e | ⟨_, e⟩
    · rw [e]; simp
    · rw [e.len]; exact hl
  obtain ⟨k, hk⟩ : ∃ k : Nat, 300000 = k + 1 := ⟨299999, rfl⟩
  rw [ish_eq, Option.bind_some, ssh_eq r b l (by omega) _ (by omega), Option.bind_some, wnInts_eq _ _ (by omega) _ (by omega), Option.bind_some, if_pos (by simp), hk]
  simp only [laws_FnShapeAgain.j0]
  rcases shF_cases r b l with e | ⟨hf, e⟩
  · rw [e, if_pos (by decide), ssh_eq r b l (by omega) _ (by omega), Option.bind_some, e, wnInts_eq _ _ (by simp) _ (by simp; omega), Option.bind_some]
    rfl
  · by_cases c : (shF r b l).length = 0
    · have e0 := List.length_eq_zero_iff.1 c
      rw [e0, if_pos (by decide), ssh_eq r b l (by omega) _ (by omega), Option.bind_some, e0, wnInts_eq _ _ (by simp) _ (by simp; omega), Option.bind_some]
      rfl
    · have hne : ((((shF r b l).length : Int)) == 0) = false := beq_eq_false_iff_ne.2 (fun h => c (by omega))
      rw [hne, if_neg (by decide)]
      exact again_loop r b l _ (by omega) hf e l.length k 0 false (by omega) (by omega) (by simp)

end Go.Proofs.Ytfbicfnokibobaa.Pure
