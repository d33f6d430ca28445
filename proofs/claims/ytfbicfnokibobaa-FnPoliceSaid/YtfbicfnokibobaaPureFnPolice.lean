/- FnPolice: at every draw the program's PolicePulses returns what the reference's returns; a frame is let through where it conforms with those ahead of it that were, and all that were let through conform. No condition. -/
import Derived.Test.YtfbicfnokibobaaPAllx1
import Derived.Test.YtfbicfnokibobaaPAllx2
import Derived.Test.YtfbicfnokibobaaPAllx3
namespace Go.Proofs.Ytfbicfnokibobaa.Pure
open Go.RowKit Go.Proofs.Ytfbicfnokibobaa.PAll Go.Proofs.YtfbicfnokibobaaW.PrintWords Go.Proofs.YtfbicfnokibobaaW.PrintLast Go.Proofs.YtfbicfnokibobaaW.PrintMore

theorem police_l0 {r b : Int} {l : List S35} (hf : fitsB r b l = true) (t : List Bool) (ht : t = polL r b b 0 l) (d : Nat) : ∀ (k i : Nat) (s : List S35) (T a T' a' : Int), i + d = l.length → Pol r b l s i T a T' a' → d * 2 < k →
    laws_FnPolice.l0 k r b l t t s t t.length (i : Int) = some true := by
  obtain ⟨f1, f2, f3, f4, f5, f6⟩ := fitsB_facts hf
  have htl : t.length = l.length := by rw [ht, polL_len]
  have hfit : ∀ s : List S35, pvB s = true → fitsB r b s = true := by
    intro s hs
    unfold fitsB
    rw [hs, decide_eq_true f3, decide_eq_true f4, decide_eq_true f5, decide_eq_true f6]
    rfl
  induction d with
  | zero =>
    intro k i s T a T' a' h1 hp hk
    obtain ⟨k, rfl⟩ : ∃ m, k = m + 1 := ⟨k - 1, by omega⟩
    simp only [laws_FnPolice.l0]
    rw [if_neg (by omega)]
    by_cases c : (t.length : Int) = 0
    · rw [if_pos c]
    · have hs := hfit s (pvB_sub (hp.sub.trans (List.take_sublist _ _)) f1)
      rw [if_neg c, iconf_eq, Option.bind_some]
      unfold confF polF
      rw [hs, if_pos rfl, hp.all]
      rfl
  | succ d ih =>
    intro k i s T a T' a' h1 hp hk
    obtain ⟨k, rfl⟩ : ∃ m, k = m + 1 + 1 := ⟨k - 2, by omega⟩
    have hi : i < l.length := by omega
    have hit : i < t.length := by omega
    have hsl : s.length ≤ 60 := by
      have h2 := hp.sub.length_le
      rw [List.length_take] at h2
      omega
    obtain ⟨h2, T2, a2, T2', a2', h3⟩ := hp.step ⟨f3, f4⟩ ⟨f5, f6⟩ hi
    have hti : t[i] = takeOk r b T a l[i].f0 l[i].f1 := by
      have h4 := hp.rest t ht
      rw [List.drop_eq_getElem_cons hit, List.drop_eq_getElem_cons hi, polL] at h4
      exact (List.cons.inj h4).1
    have hpv : pvB (s ++ [l[i]]) = true := by
      refine pvB_sub ?_ f1
      have h5 : (s ++ [l[i]]).Sublist (l.take (i + 1)) := by rw [List.take_succ_eq_append_getElem hi]; exact hp.sub.append (List.Sublist.refl _)
      exact h5.trans (List.take_sublist _ _)
    have hconf : confF r b (s ++ [l[i]]) = t[i] := by
      unfold confF polF
      rw [hfit _ hpv, if_pos rfl, polL_app, List.all_append, hp.all, hp.st, Bool.true_and, Bool.true_and]
      simp only [polL, List.all_cons, List.all_nil, Bool.and_true, id]
      rw [h2, hti]
    have hrd : rdOf false t (i : Int) = t[i] := by simp [rdOf, List.getD_eq_getElem?_getD, hit]
    simp only [laws_FnPolice.l0, laws_FnPolice.j1]
    rw [if_pos (by omega), if_pos (by omega), if_pos (by omega), Option.bind_some, if_pos (by simp; omega), Option.bind_some, if_pos (by omega), Option.bind_some, if_pos (by simp; omega), Option.bind_some, if_pos (by omega), hrd, if_neg (by simp), List.nil_append, rdP_get l i hi, iconf_eq, Option.bind_some]
    have he : (⟨l[i].f0, l[i].f1⟩ : S35) = l[i] := rfl
    rw [he, hconf, if_neg (by simp), wrap_succ hi (by omega), hti]
    by_cases c : takeOk r b T a l[i].f0 l[i].f1 = true
    · rw [if_pos c] at h3 ⊢
      exact ih k (i + 1) _ _ _ _ _ (by omega) h3 (by omega)
    · rw [if_neg c] at h3 ⊢
      exact ih k (i + 1) _ _ _ _ _ (by omega) h3 (by omega)
theorem FnPolice : laws_FnPolice.Pure := by
  intro l0 _ _ hw
  obtain ⟨r, b, l, hl, hd⟩ := drawPol_ok hw
  refine ⟨1000, ?_⟩
  unfold laws_FnPolice.f
  by_cases c : (l0.length : Int) > 1048576
  · rw [if_pos c]
  rw [if_neg c, hd _ (by omega), Option.bind_some]
  simp only []
  rw [ipol_eq, Option.bind_some, spol_eq r b l (by omega) _ (by omega), Option.bind_some, if_pos rfl]
  by_cases hf : fitsB r b l = true
  · obtain ⟨f1, f2, f3, f4, f5, f6⟩ := fitsB_facts hf
    have e : polF r b l = polL r b b 0 l := by unfold polF; rw [if_pos hf]
    rw [e]
    exact police_l0 hf _ rfl l.length 1000 0 [] b 0 b 0 (by omega) (Pol.start f5 f1) (by omega)
  · have e : polF r b l = [] := by unfold polF; rw [if_neg hf]
    rw [e]
    rfl

end Go.Proofs.Ytfbicfnokibobaa.Pure
