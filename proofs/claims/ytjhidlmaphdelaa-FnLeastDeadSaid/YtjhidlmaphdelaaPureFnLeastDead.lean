/- FnLeastDead: at every draw the program's LeastDead returns what the reference's returns, with that patience it is heard at all the times, with one less it is not, and hellos begin at 0; where it returns -1 no patience serves. No condition. -/
import Derived.Test.YtjhidlmaphdelaaPAllx2
import Derived.Test.YtjhidlmaphdelaaPAllx8
import Derived.Test.YtjhidlmaphdelaaPAllx11
import Derived.Test.YtjhidlmaphdelaaPAllx19
namespace Go.Proofs.Ytjhidlmaphdelaa.Pure
open Go.RowKit Go.Proofs.Ytjhidlmaphdelaa.PAll Go.Proofs.YtjhidlmaphdelaaW.PrintWords Go.Proofs.YtjhidlmaphdelaaW.PrintLast Go.Proofs.YtjhidlmaphdelaaW.PrintMore

theorem downF_zero {l : List Int} {dead t : Int} (h : downF l dead t = 0) : watchB l dead t = true ∧ heardB l dead 0 = true := by
  unfold downF at h
  cases hw : watchB l dead t with
  | false => rw [hw, if_neg (by decide)] at h; exact absurd h (by decide)
  | true =>
    refine ⟨rfl, ?_⟩
    rw [hw, if_pos rfl] at h
    have key : ∀ n : Nat, downN l dead (n + 1) = 0 → heardB l dead 0 = true := by
      intro n
      induction n with
      | zero =>
        intro h
        cases hh : heardB l dead 0 with
        | true => rfl
        | false =>
          have e : downN l dead 1 = 1 := if_neg (by show ¬ heardB l dead ((0 : Nat) : Int) = true; rw [show ((0 : Nat) : Int) = 0 from rfl, hh]; decide)
          rw [e] at h
          exact absurd h (by decide)
      | succ n ih =>
        intro h
        refine ih ?_
        have e : downN l dead (n + 1 + 1) = if heardB l dead ((n + 1 : Nat) : Int) = true then downN l dead (n + 1) else downN l dead (n + 1) + 1 := rfl
        rw [e] at h
        split at h <;> omega
    exact key t.toNat (by omega)
theorem FnLeastDead : laws_FnLeastDead.Pure := by
  intro l0 _ _ hw
  obtain ⟨l, t, hl, hd⟩ := drawLeast_ok hw
  refine ⟨4000, ?_⟩
  unfold laws_FnLeastDead.f
  by_cases hs : (l0.length : Int) > 1048576
  · rw [if_pos hs]
  rw [if_neg hs, hd _ (by omega), Option.bind_some]
  simp only []
  rw [ileast_eq l t _ (by omega), Option.bind_some, sleast_eq l t (by omega) _ (by omega) (by omega), Option.bind_some, if_pos rfl]
  rcases leastN_is l t 50 1 with ⟨h1, h2⟩ | ⟨e, h1, h2, h3, h4, h5⟩
  · rw [h1, if_pos (by decide), idown_eq l 50 t _ (by omega), Option.bind_some]
    have := h2 50 (by omega) (by omega)
    have e : (downF l 50 t != 0) = true := bne_iff_ne.2 this
    rw [e]
  · rw [h1, if_neg (by omega), idown_eq l e t _ (by omega), Option.bind_some, if_pos h4]
    obtain ⟨g1, g2⟩ := downF_zero h4
    have hv : hvB l = true := by unfold watchB at g1; simp at g1; exact g1.1
    obtain ⟨w1, w2, w3, w4, w5⟩ := watchB_len g1
    obtain ⟨v1, v2, v3⟩ := hvB_facts hv
    obtain ⟨a, ha, ha1, ha2⟩ := (heardB_iff hv w2 (show (e : Int) ≤ 100 by omega)).1 g2
    have hlen : 0 < l.length := List.length_pos_of_mem ha
    have hz : (rd l 0 == 0) = true := by
      rw [rd_get0 l hlen]
      have ha0 : a = 0 := by have := v2 a ha; omega
      subst ha0
      match l, hlen, ha, v2, v3 with
      | x :: r, _, ha, v2, v3 =>
        rw [List.getElem_cons_zero]
        rcases List.mem_cons.1 ha with h | h
        · rw [← h]; rfl
        · have := (List.pairwise_cons.1 v3).1 0 h
          have := v2 x List.mem_cons_self
          omega
    by_cases c : (e : Int) = 1
    · rw [if_pos c, if_pos (by omega), hz]
    · rw [if_neg c, wrap_eq (by omega) (by omega), show (e : Int) - 1 = ((e - 1 : Nat) : Int) by omega, idown_eq l _ t _ (by omega), Option.bind_some]
      have hne := h5 (e - 1) (by omega) (by omega)
      have hwt : watchB l ((e - 1 : Nat) : Int) t = true := by
        unfold watchB clockB
        rw [hv]
        simp
        omega
      have hpos : downF l ((e - 1 : Nat) : Int) t > 0 := by
        unfold downF at hne ⊢
        rw [hwt, if_pos rfl] at hne ⊢
        omega
      rw [if_pos hpos, if_pos (by omega), hz]

end Go.Proofs.Ytjhidlmaphdelaa.Pure
