/- FnPatience: at every draw the program's DownTime returns what the reference's returns; with a greater patience it is not greater, with the first or the last hello left out it is not less, and it is at most the number of times. No condition. -/
import Derived.Test.YtjhidlmaphdelaaPAllx2
import Derived.Test.YtjhidlmaphdelaaPAllx5
import Derived.Test.YtjhidlmaphdelaaPAllx6
import Derived.Test.YtjhidlmaphdelaaPAllx8
import Derived.Test.YtjhidlmaphdelaaPAllx13
import Derived.Test.YtjhidlmaphdelaaPAllx14
namespace Go.Proofs.Ytjhidlmaphdelaa.Pure
open Go.RowKit Go.Proofs.Ytjhidlmaphdelaa.PAll Go.Proofs.YtjhidlmaphdelaaW.PrintWords Go.Proofs.YtjhidlmaphdelaaW.PrintLast Go.Proofs.YtjhidlmaphdelaaW.PrintMore

theorem heardB_mono {l m : List Int} {d e t : Int} (hv : hvB l = true) (hw : hvB m = true) (h1 : 1 ≤ d) (h2 : d ≤ e) (h3 : e ≤ 100) (hs : ∀ a ∈ l, a ∈ m) (h : heardB l d t = true) : heardB m e t = true := by
  obtain ⟨a, ha, h4, h5⟩ := (heardB_iff hv h1 (by omega)).1 h
  exact (heardB_iff hw (by omega) h3).2 ⟨a, hs a ha, h4, by omega⟩
theorem downN_mono {l m : List Int} {d e : Int} (h : ∀ t, heardB l d t = true → heardB m e t = true) (n : Nat) : downN m e n ≤ downN l d n := by
  induction n with
  | zero => exact Nat.le_refl _
  | succ n ih =>
    have e1 : downN l d (n + 1) = if heardB l d n = true then downN l d n else downN l d n + 1 := rfl
    have e2 : downN m e (n + 1) = if heardB m e n = true then downN m e n else downN m e n + 1 := rfl
    rw [e1, e2]
    by_cases c : heardB l d n = true
    · rw [if_pos c, if_pos (h _ c)]; exact ih
    · rw [if_neg c]; split <;> omega
theorem ascB_tail {x : Int} {t : List Int} (h : ascB (x :: t) = true) : ascB t = true := by
  cases t with
  | nil => rfl
  | cons y r =>
    have h2 : (decide (x < y) && ascB (y :: r)) = true := h
    rw [Bool.and_eq_true] at h2
    exact h2.2
theorem hvB_drop {l : List Int} (h : hvB l = true) : hvB (l.drop 1) = true := by
  cases l with
  | nil => exact h
  | cons x t =>
    unfold hvB at h ⊢
    rw [Bool.and_eq_true, Bool.and_eq_true] at h
    have h1 := of_decide_eq_true h.1
    have h2 := h.2.1
    rw [List.all_cons, Bool.and_eq_true] at h2
    simp only [List.drop_succ_cons, List.drop_zero]
    rw [h2.2, ascB_tail h.2.2, decide_eq_true (by simp at h1; omega)]
    rfl
theorem ascB_take : ∀ (n : Nat) (l : List Int), ascB l = true → ascB (l.take n) = true
  | 0, _, _ => rfl
  | n + 1, [], _ => rfl
  | n + 1, [x], _ => by simp [ascB]
  | n + 1, x :: y :: t, h => by
    have h2 : (decide (x < y) && ascB (y :: t)) = true := h
    rw [Bool.and_eq_true] at h2
    have ih := ascB_take n (y :: t) h2.2
    cases n with
    | zero => rfl
    | succ n =>
      show (decide (x < y) && ascB (y :: t.take n)) = true
      rw [h2.1]
      exact ih
theorem hvB_take {l : List Int} (n : Nat) (h : hvB l = true) : hvB (l.take n) = true := by
  unfold hvB at h ⊢
  rw [Bool.and_eq_true, Bool.and_eq_true] at h
  have h1 := of_decide_eq_true h.1
  rw [ascB_take n l h.2.2, decide_eq_true (by rw [List.length_take]; omega), List.all_eq_true.2 fun a ha => List.all_eq_true.1 h.2.1 a (List.mem_of_mem_take ha)]
  rfl
theorem FnPatience : laws_FnPatience.Pure := by
  intro l0 _ _ hw
  obtain ⟨b, ho, hb⟩ := open_ok l0 hw
  obtain ⟨l, dead, t, p', hl, _, _, _, _, hd⟩ := l18Draw_ok hb (Int.le_refl 0) (by omega)
  have hdraw : ∀ k, 40 < k → spec_DrawDownTime.f k l0 = some (l, dead, t) := fun k hk => by
    unfold spec_DrawDownTime.f
    rw [ho, Option.bind_some]
    simp only []
    rw [hd k hk, Option.bind_some]
  suffices h : ∀ k, 4000 < k → laws_FnPatience.f k l0 = some true from ⟨4001, h 4001 (by omega)⟩
  intro k hk
  obtain ⟨k, rfl⟩ : ∃ m, k = m + 1 := ⟨k - 1, by omega⟩
  obtain ⟨k, rfl⟩ : ∃ m, k = m + 1 := ⟨k - 1, by omega⟩
  unfold laws_FnPatience.f
  by_cases hs : (l0.length : Int) > 1048576
  · rw [if_pos hs]
  rw [if_neg hs, hdraw _ (by omega), Option.bind_some]
  simp only []
  rw [idown_eq l dead t _ (by omega), Option.bind_some, sdown_eq l dead t (by omega) _ (by omega) (by omega), Option.bind_some, if_pos rfl]
  simp only [laws_FnPatience.j0]
  cases hwt : watchB l dead t with
  | false =>
    have e : downF l dead t = -1 := by unfold downF; rw [hwt]; rfl
    rw [e, if_pos (by decide), sdown_eq l dead t (by omega) _ (by omega) (by omega), Option.bind_some, e, if_pos rfl]
    rfl
  | true =>
    obtain ⟨g1, g2, g3, g4, g5⟩ := watchB_len hwt
    have hv : hvB l = true := by unfold watchB at hwt; simp at hwt; exact hwt.1
    have hF : ∀ m e, hvB m = true → 1 ≤ e → e ≤ 50 → downF m e t = (downN m e (t.toNat + 1) : Int) := fun m e hm h1 h2 => by
      unfold downF watchB clockB
      rw [hm, if_pos (by simp <;> omega)]
    have hn := downN_le l dead (t.toNat + 1)
    rw [hF l dead hv g2 g3, if_neg (by simp <;> omega)]
    have hj : laws_FnPatience.j1 (k + 1) l dead t (downN l dead (t.toNat + 1) : Int) false = some true := by
      simp only [laws_FnPatience.j1]
      have hlast : wrap64 (t + 1) = t + 1 := wrap_eq (by omega) (by omega)
      rw [if_neg (by decide), hlast, decide_eq_true (show (downN l dead (t.toNat + 1) : Int) ≤ t + 1 by omega)]
      by_cases c : (l.length : Int) > 0
      · have e1 : wrap64 ((l.length : Int) - 1) = ((l.length - 1 : Nat) : Int) := by rw [wrap_eq (by omega) (by omega)]; omega
        have hv1 := hvB_drop hv
        have hv2 := hvB_take (l.length - 1) hv
        have m1 := downN_mono (fun u => heardB_mono (t := u) hv1 hv g2 (Int.le_refl dead) (by omega) (fun a ha => List.mem_of_mem_drop ha)) (t.toNat + 1)
        have m2 := downN_mono (fun u => heardB_mono (t := u) hv2 hv g2 (Int.le_refl dead) (by omega) (fun a ha => List.mem_of_mem_take ha)) (t.toNat + 1)
        rw [if_pos c, if_pos (by omega), idown_eq _ dead t _ (by omega), Option.bind_some, hF _ dead hv1 g2 g3, if_neg (by omega), e1, if_pos (by omega), if_pos (by omega), Int.toNat_natCast, idown_eq _ dead t _ (by omega), Option.bind_some, hF _ dead hv2 g2 g3, if_neg (by omega)]
      · rw [if_neg c]
    by_cases c : dead < 50
    · have m := downN_mono (fun u => heardB_mono (t := u) hv hv g2 (show dead ≤ dead + 1 by omega) (by omega) (fun a ha => ha)) (t.toNat + 1)
      rw [if_pos c, wrap_eq (by omega) (by omega), idown_eq l (dead + 1) t _ (by omega), Option.bind_some, hF l (dead + 1) hv (by omega) (by omega), decide_eq_false (show ¬ ((downN l (dead + 1) (t.toNat + 1) : Int) > (downN l dead (t.toNat + 1) : Int)) by omega)]
      exact hj
    · rw [if_neg c]
      exact hj

end Go.Proofs.Ytjhidlmaphdelaa.Pure
