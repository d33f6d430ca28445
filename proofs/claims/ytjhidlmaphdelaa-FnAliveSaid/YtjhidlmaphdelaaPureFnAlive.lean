/- FnAlive: a neighbour is told to be heard just if its hellos, its patience and the time are such and its last hello by then is not too old; and the program's AliveAt and HellosValid return what the reference's return, at every draw. No condition. -/
import Derived.Test.YtjhidlmaphdelaaPAllx2
import Derived.Test.YtjhidlmaphdelaaPAllx5
import Derived.Test.YtjhidlmaphdelaaPAllx6
import Derived.Test.YtjhidlmaphdelaaPAllx7
import Derived.Test.YtjhidlmaphdelaaPAllx8
namespace Go.Proofs.Ytjhidlmaphdelaa.Pure
open Go.RowKit Go.Proofs.Ytjhidlmaphdelaa.PAll Go.Proofs.YtjhidlmaphdelaaW.PrintWords Go.Proofs.YtjhidlmaphdelaaW.PrintLast Go.Proofs.YtjhidlmaphdelaaW.PrintMore

theorem FnAlive : laws_FnAlive.Pure := by
  intro l0 _ _ hw
  obtain ⟨b, ho, hb⟩ := open_ok l0 hw
  obtain ⟨l, dead, t, p', hl, _, _, _, _, hd⟩ := l18Draw_ok hb (Int.le_refl 0) (by omega)
  have hdraw : ∀ k, 40 < k → spec_DrawAliveAt.f k l0 = some (l, dead, t) := fun k hk => by
    unfold spec_DrawAliveAt.f
    rw [ho, Option.bind_some]
    simp only []
    rw [hd k hk, Option.bind_some]
  suffices h : ∀ k, 1000 < k → laws_FnAlive.f k l0 = some true from ⟨1001, h 1001 (by omega)⟩
  intro k hk
  obtain ⟨k, rfl⟩ : ∃ m, k = m + 1 := ⟨k - 1, by omega⟩
  obtain ⟨k, rfl⟩ : ∃ m, k = m + 1 := ⟨k - 1, by omega⟩
  unfold laws_FnAlive.f
  by_cases hs : (l0.length : Int) > 1048576
  · rw [if_pos hs]
  rw [if_neg hs, hdraw _ (by omega), Option.bind_some]
  simp only []
  rw [ialive_eq, Option.bind_some, salive_eq l dead t (by omega) _ (by omega), Option.bind_some, if_neg (by simp), show impl_HellosValid.f l = some (hvB l) from rfl, Option.bind_some, hellos_eq l (by omega) _ (by omega), Option.bind_some]
  simp only [laws_FnAlive.j0]
  rw [if_neg (by simp), show impl_HellosValid.f l = some (hvB l) from rfl, Option.bind_some]
  have hout : ∀ is : Bool, is = false → laws_FnAlive.j1 (k + 1) l dead t is true = some true := fun is h => by
    simp only [laws_FnAlive.j1]
    rw [if_pos trivial, h]
    rfl
  cases hv : hvB l with
  | false =>
    rw [if_neg (by decide)]
    exact hout _ (by simp [watchB, hv])
  | true =>
    rw [if_pos rfl]
    by_cases c1 : dead < 1
    · rw [if_pos c1]
      exact hout _ (by simp [watchB]; intros; omega)
    rw [if_neg c1]
    by_cases c2 : dead > 50
    · rw [if_pos c2]
      exact hout _ (by simp [watchB]; intros; omega)
    rw [if_neg c2]
    by_cases c3 : t < 0
    · rw [if_pos c3]
      exact hout _ (by simp [watchB, clockB]; intros; omega)
    rw [if_neg c3]
    by_cases c4 : t > 2000
    · rw [decide_eq_true c4]
      exact hout _ (by simp [watchB, clockB]; intros; omega)
    rw [decide_eq_false c4]
    have hwt : watchB l dead t = true := by unfold watchB clockB; rw [hv]; simp; omega
    rw [hwt, Bool.true_and]
    simp only [laws_FnAlive.j1]
    rw [if_neg (by decide)]
    have h := alive_loop l (by omega) dead t (heardB l dead t) l.length k 0 (-1) (by omega) (by omega)
    rw [List.drop_zero, heardB_last hv (by omega) (by omega) (by omega) (by omega)] at h
    exact h

end Go.Proofs.Ytjhidlmaphdelaa.Pure
