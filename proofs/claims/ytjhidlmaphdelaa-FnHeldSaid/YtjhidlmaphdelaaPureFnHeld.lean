/- FnHeld: at every draw the program's HeldAt returns what the reference's returns, and a neighbour is held back just if its penalty is above high, or it was held back one step before and its penalty is above low. No condition. -/
import Derived.Test.YtjhidlmaphdelaaPAllx2
import Derived.Test.YtjhidlmaphdelaaPAllx9
import Derived.Test.YtjhidlmaphdelaaPAllx16
import Derived.Test.YtjhidlmaphdelaaPAllx23
namespace Go.Proofs.Ytjhidlmaphdelaa.Pure
open Go.RowKit Go.Proofs.Ytjhidlmaphdelaa.PAll Go.Proofs.YtjhidlmaphdelaaW.PrintWords Go.Proofs.YtjhidlmaphdelaaW.PrintLast Go.Proofs.YtjhidlmaphdelaaW.PrintMore

theorem FnHeld : laws_FnHeld.Pure := by
  intro l0 _ _ hw
  obtain ⟨l, cost, fade, hi, lo, t, hl, hd⟩ := drawHeld_ok hw
  suffices h : ∀ k, 4000 < k → laws_FnHeld.f k l0 = some true from ⟨4001, h 4001 (by omega)⟩
  intro k hk
  obtain ⟨k, rfl⟩ : ∃ m, k = m + 1 := ⟨k - 1, by omega⟩
  unfold laws_FnHeld.f
  by_cases hs : (l0.length : Int) > 1048576
  · rw [if_pos hs]
  have ih : ∀ t, impl_HeldAt.f l cost fade hi lo t = some (heldF l cost fade hi lo t) := fun _ => rfl
  rw [if_neg hs, hd _ (by omega), Option.bind_some]
  simp only []
  rw [ih, Option.bind_some, sheld_eq l cost fade hi lo t (by omega) _ (by omega) (by omega), Option.bind_some, if_neg (by simp), ipen_eq, Option.bind_some]
  have hout : heldF l cost fade hi lo t = false → laws_FnHeld.j0 (k + 1) l cost fade hi lo t (heldF l cost fade hi lo t) (penF l cost fade t) true = some true := fun h => by
    simp only [laws_FnHeld.j0]
    rw [if_pos trivial, h]
    rfl
  cases ho : penOk l cost fade t with
  | false =>
    have e : penF l cost fade t = -1 := by unfold penF; rw [ho]; rfl
    rw [if_pos (by rw [e]; decide)]
    exact hout (by unfold heldF; rw [ho]; simp)
  | true =>
    obtain ⟨h0, h1, h2, h3, h4, h5, h6, h7⟩ := penOk_facts ho
    have hr := penN_range (l := l) h2 h3 h4 h5 (t.toNat + 1) (by omega)
    have e : penF l cost fade t = penN l cost fade (t.toNat + 1) := by unfold penF; rw [ho, if_pos rfl]
    rw [if_neg (by omega)]
    by_cases c1 : hi < 0
    · rw [if_pos c1]
      exact hout (by unfold heldF; by_cases z : 0 ≤ lo <;> simp [z]; intros; omega)
    rw [if_neg c1]
    by_cases c2 : hi > 1000
    · rw [if_pos c2]
      exact hout (by unfold heldF; simp; intros; omega)
    rw [if_neg c2]
    by_cases c3 : lo < 0
    · rw [if_pos c3]
      exact hout (by unfold heldF; simp; intros; omega)
    rw [if_neg c3]
    by_cases c4 : lo > hi
    · rw [decide_eq_true c4]
      exact hout (by unfold heldF; simp; intros; omega)
    rw [decide_eq_false c4]
    have hF : ∀ u, penOk l cost fade u = true → heldF l cost fade hi lo u = seeN (heldS hi lo) false l cost fade (u.toNat + 1) := fun u hu => by
      unfold heldF penEnd
      rw [hu, if_pos rfl, decide_eq_true (show 0 ≤ lo by omega), decide_eq_true (show lo ≤ hi by omega), decide_eq_true (show hi ≤ 1000 by omega)]
      rfl
    simp only [laws_FnHeld.j0]
    rw [if_neg (by decide), e, hF t ho]
    obtain ⟨n, rfl⟩ := Int.eq_ofNat_of_zero_le h6
    rw [Int.toNat_natCast]
    have e2 : seeN (heldS hi lo) false l cost fade (n + 1) = heldS hi lo (seeN (heldS hi lo) false l cost fade n) (penN l cost fade (n + 1)) := rfl
    rw [e2]
    generalize hp : penN l cost fade (n + 1) = p
    by_cases c : (n : Int) > 0
    · have e3 : wrap64 ((n : Int) - 1) = ((n - 1 : Nat) : Int) := by rw [wrap_eq (by omega) (by omega)]; omega
      have ho' : penOk l cost fade ((n - 1 : Nat) : Int) = true := by
        unfold penOk clockB
        rw [h0]
        simp
        omega
      rw [if_pos c, e3, ih, hF _ ho', Int.toNat_natCast, show n - 1 + 1 = n by omega, Option.bind_some]
      generalize seeN (heldS hi lo) false l cost fade n = s
      unfold heldS
      by_cases c5 : p > hi
      · rw [if_pos c5, if_neg (by omega), if_pos c5]
      · rw [if_neg c5]
        cases s with
        | false =>
          rw [if_neg (by decide), if_neg (show ¬ hi < p by omega)]
          split <;> rfl
        | true =>
          rw [if_pos rfl]
          by_cases c6 : p ≤ lo
          · rw [if_pos c6, decide_eq_false (show ¬ p > lo by omega)]; rfl
          · rw [if_neg c6, if_neg (by omega), decide_eq_true (show p > lo by omega)]; rfl
    · obtain rfl : n = 0 := by omega
      rw [if_neg c]
      have e6 : seeN (heldS hi lo) false l cost fade 0 = false := rfl
      rw [e6]
      unfold heldS
      by_cases c5 : p > hi
      · rw [if_pos c5, if_neg (by omega), if_pos c5]
      · rw [if_neg c5]
        by_cases c6 : p ≤ lo
        · rw [if_pos c6]; rfl
        · rw [if_neg c6, if_neg (by omega)]; rfl

end Go.Proofs.Ytjhidlmaphdelaa.Pure
