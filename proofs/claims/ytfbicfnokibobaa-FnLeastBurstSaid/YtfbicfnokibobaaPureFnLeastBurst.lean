/- FnLeastBurst: at every draw the program's LeastBurst returns what the reference's returns, frames conform at the bursts from it on and at no smaller one; where it returns -1 they conform at none. No condition. -/
import Derived.Test.YtfbicfnokibobaaPAllx1
import Derived.Test.YtfbicfnokibobaaPAllx4
import Derived.Test.YtfbicfnokibobaaPAllx6
namespace Go.Proofs.Ytfbicfnokibobaa.Pure
open Go.RowKit Go.Proofs.Ytfbicfnokibobaa.PAll Go.Proofs.YtfbicfnokibobaaW.PrintWords Go.Proofs.YtfbicfnokibobaaW.PrintLast Go.Proofs.YtfbicfnokibobaaW.PrintMore

theorem lb_loop (r : Int) (l : List S35) (n : Int) (hn : n = -1 ∧ (∀ c, 1 ≤ c → c ≤ 100 → confF r c l = false) ∨ 1 ≤ n ∧ n ≤ 100 ∧ confF r n l = true ∧ ∀ c, 1 ≤ c → c < n → confF r c l = false) (d : Nat) : ∀ (k : Nat) (b : Int), b + 9 * d = 109 → 1 ≤ b → d < k → laws_FnLeastBurst.l0 k r l n b = some true := by
  induction d with
  | zero =>
    intro k b h1 h2 hk
    obtain ⟨k, rfl⟩ : ∃ m, k = m + 1 := ⟨k - 1, by omega⟩
    simp only [laws_FnLeastBurst.l0]
    rw [if_neg (by omega)]
    by_cases c : n < 2
    · rw [if_pos c]
    · rw [if_neg c, wrap_eq (by omega) (by omega), iconf_eq, Option.bind_some]
      rcases hn with ⟨e, _⟩ | ⟨_, _, _, e⟩
      · omega
      · rw [e (n - 1) (by omega) (by omega)]; rfl
  | succ d ih =>
    intro k b h1 h2 hk
    obtain ⟨k, rfl⟩ : ∃ m, k = m + 1 := ⟨k - 1, by omega⟩
    simp only [laws_FnLeastBurst.l0]
    rw [if_pos (by omega), iconf_eq, Option.bind_some, wrap_eq (by omega) (by omega), ih k (b + 9) (by omega) (by omega) (by omega)]
    rcases hn with ⟨e, h⟩ | ⟨e1, e2, e3, e4⟩
    · rw [if_neg (by omega), h b (by omega) (by omega)]; rfl
    · rw [if_pos (by omega)]
      by_cases c : n ≤ b
      · rw [conf_mono e3 c (by omega), decide_eq_true (show b ≥ n from c)]; rfl
      · rw [e4 b h2 (by omega), decide_eq_false (show ¬ b ≥ n from c)]; rfl
theorem FnLeastBurst : laws_FnLeastBurst.Pure := by
  intro l0 _ _ hw
  obtain ⟨r, l, hl, hd⟩ := drawLB_ok hw
  refine ⟨4000, ?_⟩
  unfold laws_FnLeastBurst.f
  by_cases hs : (l0.length : Int) > 1048576
  · rw [if_pos hs]
  rw [if_neg hs, hd _ (by omega), Option.bind_some]
  simp only []
  have e1 : impl_LeastBurst.f 4000 r l = some (lbN r l 100 1) := ilb_at r l 100 4000 1 (by omega) (by omega) (by omega)
  have e2 : spec_LeastBurst.f 4000 r l = some (lbN r l 100 1) := slb_at r l (by omega) 100 4000 1 (by omega) (by omega) (by omega)
  rw [e1, Option.bind_some, e2, Option.bind_some, if_pos rfl]
  exact lb_loop r l _ (lbN_is r l 100 1 (by omega) (by omega)) 12 4000 1 (by omega) (by omega) (by omega)

end Go.Proofs.Ytfbicfnokibobaa.Pure
