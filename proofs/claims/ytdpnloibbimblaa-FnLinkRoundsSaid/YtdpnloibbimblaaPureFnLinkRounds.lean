/- FnLinkRounds: at every draw the program's LinkRounds returns what the reference's returns; a run of so many rounds is done and has all the data, and one of a round less is not done and has a beginning of it. No condition. -/
import Derived.Test.YtdpnloibbimblaaPAllx1
import Derived.Test.YtdpnloibbimblaaPAllx3
import Derived.Test.YtdpnloibbimblaaPAllx8
import Derived.Test.YtdpnloibbimblaaPAllx9
namespace Go.Proofs.Ytdpnloibbimblaa.Pure
open Go.RowKit Go.Proofs.Ytdpnloibbimblaa.PAll Go.Proofs.YtdpnloibbimblaaW.PrintWords Go.Proofs.YtdpnloibbimblaaW.PrintLast Go.Proofs.YtdpnloibbimblaaW.PrintMore

theorem run_mono {win : Nat} {list : List (List Int)} {there back : List Int} (f : Nat) : ∀ s, s.rounds ≤ (runL win list there back f s).rounds := by
  induction f with
  | zero => intro s; exact Nat.le_refl _
  | succ f ih =>
    intro s
    rw [runL]
    by_cases hk : s.known < list.length
    · rw [if_pos hk]
      have h := ih (roundL win list there back s)
      have hr : (roundL win list there back s).rounds = s.rounds + 1 := rfl
      omega
    · rw [if_neg hk]; exact Nat.le_refl _
/-- A run that is done is done after as many rounds as it counts. -/
theorem run_last {win : Nat} {list : List (List Int)} {there back : List Int} (f : Nat) (hd : list.length ≤ (runL win list there back f startL).known) : runL win list there back (runL win list there back f startL).rounds startL = runL win list there back f startL ∧
    (0 < (runL win list there back f startL).rounds → (runL win list there back ((runL win list there back f startL).rounds - 1) startL).known < list.length) := by
  obtain ⟨R, hR⟩ : ∃ R, (runL win list there back f startL).rounds = R := ⟨_, rfl⟩
  have hz : startL.rounds = 0 := rfl
  rw [hR]
  have hrf : R ≤ f := by
    have hle : ∀ (f : Nat) (s : LS), (runL win list there back f s).rounds ≤ s.rounds + f := by
      intro f
      induction f with
      | zero => intro s; exact Nat.le_refl _
      | succ f ih =>
        intro s
        rw [runL]
        by_cases hk : s.known < list.length
        · rw [if_pos hk]
          have h := ih (roundL win list there back s)
          have hr : (roundL win list there back s).rounds = s.rounds + 1 := rfl
          omega
        · rw [if_neg hk]; omega
    have := hle f startL
    omega
  have e : runL win list there back f startL = runL win list there back (f - R) (runL win list there back R startL) := by rw [← run_add]; congr 1; omega
  have hdR : list.length ≤ (runL win list there back R startL).known := by
    by_cases hk : (runL win list there back R startL).known < list.length
    · exfalso
      have h1 := run_rounds R startL hk
      by_cases hf : f = R
      · subst hf; omega
      · obtain ⟨q, hq⟩ : ∃ q, f - R = q + 1 := ⟨f - R - 1, by omega⟩
        rw [hq, runL, if_pos hk] at e
        have h2 := run_mono (win := win) (list := list) (there := there) (back := back) q (roundL win list there back (runL win list there back R startL))
        have hr : (roundL win list there back (runL win list there back R startL)).rounds = (runL win list there back R startL).rounds + 1 := rfl
        rw [← e] at h2
        omega
    · omega
  refine ⟨by rw [e, run_done hdR], fun h0 => ?_⟩
  by_cases hk : (runL win list there back (R - 1) startL).known < list.length
  · exact hk
  · exfalso
    have e2 : runL win list there back f startL = runL win list there back (f - (R - 1)) (runL win list there back (R - 1) startL) := by rw [← run_add]; congr 1; omega
    rw [run_done (s := runL win list there back (R - 1) startL) (by omega)] at e2
    have hle : ∀ (f : Nat) (s : LS), (runL win list there back f s).rounds ≤ s.rounds + f := by
      intro f
      induction f with
      | zero => intro s; exact Nat.le_refl _
      | succ f ih =>
        intro s
        rw [runL]
        by_cases hk : s.known < list.length
        · rw [if_pos hk]
          have h := ih (roundL win list there back s)
          have hr : (roundL win list there back s).rounds = s.rounds + 1 := rfl
          omega
        · rw [if_neg hk]; omega
    have := hle (R - 1) startL
    rw [← e2] at this
    omega
theorem FnLinkRounds : laws_FnLinkRounds.Pure := by
  intro l0 _ _ hw
  obtain ⟨w, x, f, g, hx, hxl, hfl, hgl, hd⟩ := drawRounds_ok l0 hw
  have hb := bytesB_of hx
  by_cases h0 : (l0.length : Int) > 1048576
  · exact ⟨0, by unfold laws_FnLinkRounds.f; rw [if_pos h0]⟩
  · refine ⟨3000, ?_⟩
    have e3 := lrI_eq (a0 := w) (l2 := f) (l3 := g) hb
    have e4 := lrS_eq (a0 := w) (l2 := f) (l3 := g) hb (by omega) (by omega) (by omega) 3000 (by omega)
    unfold laws_FnLinkRounds.f
    rw [if_neg h0, hd 3000 (by omega), Option.bind_some]
    simp only []
    rw [e3, Option.bind_some, e4, Option.bind_some, if_pos rfl]
    by_cases hn : lrL w x f g = -1
    · rw [if_pos hn]
    · rw [if_neg hn]
      have hok : linkB w x f g 400 = true := by
        by_cases c : linkB w x f g 400 = true
        · exact c
        · exact absurd (by unfold lrL; rw [if_neg c]) hn
      have hdone : x.length ≤ (resL w x f g 400).known := by
        by_cases c : x.length ≤ (resL w x f g 400).known
        · exact c
        · exact absurd (by unfold lrL; rw [if_pos hok, if_neg c]) hn
      have hlr : lrL w x f g = ((resL w x f g 400).rounds : Int) := by unfold lrL; rw [if_pos hok, if_pos hdone]
      obtain ⟨⟨hw1, hw8⟩, h60, _⟩ := linkB_facts hok
      obtain ⟨R, hR⟩ : ∃ R, (resL w x f g 400).rounds = R := ⟨_, rfl⟩
      have hlast := run_last (win := w.toNat) (list := x) (there := f) (back := g) 400 hdone
      obtain ⟨_, _, hR4⟩ := run_inv (there := f) (back := g) (win := w.toNat) (list := x) (by omega) 400 startL (inv_start _ _)
      have hz : startL.rounds = 0 := rfl
      have hres4 : resL w x f g 400 = runL w.toNat x f g 400 startL := rfl
      rw [← hres4, hR] at hlast hR4
      obtain ⟨q1, q2⟩ := hlast
      rw [hlr, hR]
      rw [if_pos (by omega)]
      have hok1 : ∀ m : Nat, m ≤ 400 → linkB w x f g (m : Int) = true := by
        intro m hm
        have h1 := linkB_split w 400 x f g
        rw [hok] at h1
        have h2 : linkB w x f g 0 = true := by
          cases hq : linkB w x f g 0 with
          | true => rfl
          | false => rw [hq, Bool.false_and] at h1; cases h1
        rw [linkB_split, h2, decide_eq_true (show (0 : Int) ≤ (m : Int) by omega), decide_eq_true (show (m : Int) ≤ 400 by omega)]
        rfl
      have hres : ∀ m : Nat, resL w x f g (m : Int) = runL w.toNat x f g m startL := fun m => by unfold resL; rw [Int.toNat_natCast]
      obtain ⟨i1, _, _⟩ := run_inv (there := f) (back := g) (win := w.toNat) (list := x) (by omega) R startL (inv_start _ _)
      rw [q1] at i1
      have hgot := done_got i1 hdone
      rw [runI_yes (hok1 R (by omega)) hb, hres R, q1, Option.bind_some]
      simp only []
      rw [hgot, wnT_refl x (by omega) 3000 (by omega), Option.bind_some, if_pos ⟨trivial, decide_eq_true hdone, by rw [hR], rfl⟩]
      by_cases hR0 : R = 0
      · rw [if_pos (by omega)]
      · rw [if_neg (by omega)]
        have hk := q2 (by omega)
        obtain ⟨i2, _, _⟩ := run_inv (there := f) (back := g) (win := w.toNat) (list := x) (by omega) (R - 1) startL (inv_start _ _)
        rw [show (R : Int) - 1 = ((R - 1 : Nat) : Int) from by omega, runI_yes (hok1 (R - 1) (by omega)) hb, hres (R - 1), Option.bind_some]
        simp only []
        rw [← i2.pre, wnT_refl _ (by have := i2.hi; omega) 3000 (by have := i2.hi; omega), Option.bind_some, if_pos ⟨trivial, decide_eq_false (by omega), i2.hi, rfl⟩]

end Go.Proofs.Ytdpnloibbimblaa.Pure
