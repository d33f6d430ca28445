/- FnLinkLive: at every draw the program's LinkBound and LinkRounds return what the reference's return, and a link whose bound lies within the rounds that are allowed is done within its bound; with data that is too long there is no number of rounds. No condition. -/
import Derived.Test.YtdpnloibbimblaaPAllx1
import Derived.Test.YtdpnloibbimblaaPAllx3
import Derived.Test.YtdpnloibbimblaaPAllx5
import Derived.Test.YtdpnloibbimblaaPAllx6
import Derived.Test.YtdpnloibbimblaaPAllx8
import Derived.Test.YtdpnloibbimblaaPAllx10
import Derived.Test.YtdpnloibbimblaaPAllx11
namespace Go.Proofs.Ytdpnloibbimblaa.Pure
open Go.RowKit Go.Proofs.Ytdpnloibbimblaa.PAll Go.Proofs.YtdpnloibbimblaaW.PrintWords Go.Proofs.YtdpnloibbimblaaW.PrintLast Go.Proofs.YtdpnloibbimblaaW.PrintMore

theorem lb_eq (a0 a1 : Int) (f g : List Int) (hf : f.length ≤ 1000) (hg : g.length ≤ 1000) : ∃ b, impl_LinkBound.f a0 a1 f g = some b ∧ ∀ k, 2000 < k → spec_LinkBound.f k a0 a1 f g = some b := by
  by_cases c1 : (decide (1 ≤ a0) && decide (a0 ≤ 8)) = true
  · by_cases c2 : (decide (0 ≤ a1) && decide (a1 ≤ 60)) = true
    · by_cases c3 : fatesB f = true
      · by_cases c4 : fatesB g = true
        · have h0 : ¬ a0 = 0 := by simp only [Bool.and_eq_true, decide_eq_true_eq] at c1; omega
          refine ⟨wrap64 ((mx (f.length : Int) (g.length : Int)) + (wrap64 (Int.tdiv (wrap64 ((wrap64 (a1 + a0)) - 1)) a0))), ?_, fun k hk => ?_⟩
          · unfold impl_LinkBound.f impl_within.f
            simp only [Bool.and_eq_true, decide_eq_true_eq] at c1 c2
            rw [if_pos c1.1, Option.bind_some, if_pos (decide_eq_true c1.2), if_pos c2.1, Option.bind_some, if_pos (decide_eq_true c2.2)]
            unfold impl_FatesValid.f
            rw [Option.bind_some, if_pos c3, Option.bind_some, if_pos c4, if_neg h0]
          · unfold spec_LinkBound.f
            rw [specIn, Option.bind_some, if_pos c1, specIn, Option.bind_some, if_pos c2, fvB_eq (by omega) k (by omega), Option.bind_some, if_pos c3, fvB_eq (by omega) k (by omega), Option.bind_some, if_pos c4, if_neg h0]
        · refine ⟨-1, ?_, fun k hk => ?_⟩
          · unfold impl_LinkBound.f impl_within.f
            simp only [Bool.and_eq_true, decide_eq_true_eq] at c1 c2
            rw [if_pos c1.1, Option.bind_some, if_pos (decide_eq_true c1.2), if_pos c2.1, Option.bind_some, if_pos (decide_eq_true c2.2)]
            unfold impl_FatesValid.f
            rw [Option.bind_some, if_pos c3, Option.bind_some, if_neg c4]
          · unfold spec_LinkBound.f
            rw [specIn, Option.bind_some, if_pos c1, specIn, Option.bind_some, if_pos c2, fvB_eq (by omega) k (by omega), Option.bind_some, if_pos c3, fvB_eq (by omega) k (by omega), Option.bind_some, if_neg c4]
      · refine ⟨-1, ?_, fun k hk => ?_⟩
        · unfold impl_LinkBound.f impl_within.f
          simp only [Bool.and_eq_true, decide_eq_true_eq] at c1 c2
          rw [if_pos c1.1, Option.bind_some, if_pos (decide_eq_true c1.2), if_pos c2.1, Option.bind_some, if_pos (decide_eq_true c2.2)]
          unfold impl_FatesValid.f
          rw [Option.bind_some, if_neg c3]
        · unfold spec_LinkBound.f
          rw [specIn, Option.bind_some, if_pos c1, specIn, Option.bind_some, if_pos c2, fvB_eq (by omega) k (by omega), Option.bind_some, if_neg c3]
    · refine ⟨-1, ?_, fun k hk => ?_⟩
      · unfold impl_LinkBound.f impl_within.f
        simp only [Bool.and_eq_true, decide_eq_true_eq] at c1 c2
        rw [if_pos c1.1, Option.bind_some, if_pos (decide_eq_true c1.2)]
        by_cases q : 0 ≤ a1
        · rw [if_pos q, Option.bind_some, if_neg (by rw [decide_eq_true_eq]; omega)]
        · rw [if_neg q, Option.bind_some, if_neg (by decide)]
      · unfold spec_LinkBound.f
        rw [specIn, Option.bind_some, if_pos c1, specIn, Option.bind_some, if_neg c2]
  · refine ⟨-1, ?_, fun k hk => ?_⟩
    · unfold impl_LinkBound.f impl_within.f
      simp only [Bool.and_eq_true, decide_eq_true_eq] at c1
      by_cases q : 1 ≤ a0
      · rw [if_pos q, Option.bind_some, if_neg (by rw [decide_eq_true_eq]; omega)]
      · rw [if_neg q, Option.bind_some, if_neg (by decide)]
    · unfold spec_LinkBound.f
      rw [specIn, Option.bind_some, if_neg c1]
theorem live_l0 (n b : Int) (x : List (List Int)) (hx : x.length ≤ 1000) (hfin : (∀ y ∈ x, y.length ≤ 597) → 400 < b ∨ (0 ≤ n ∧ n ≤ b)) (hbad : (∃ y ∈ x, ¬ y.length ≤ 597) → n = -1) (d : Nat) : ∀ i : Nat, i + d = x.length → (∀ y ∈ x.take i, y.length ≤ 597) → ∀ k, d < k → laws_FnLinkLive.l0 k n b x (x.length : Int) (i : Int) = some true := by
  induction d with
  | zero =>
    intro i hi hp k hk
    obtain ⟨k, rfl⟩ : ∃ m, k = m + 1 := ⟨k - 1, by omega⟩
    simp only [laws_FnLinkLive.l0]
    rw [List.take_of_length_le (by omega)] at hp
    rw [if_neg (by omega)]
    rcases hfin hp with h | ⟨h1, h2⟩
    · rw [if_pos (by omega)]
    · by_cases hb : b > 400
      · rw [if_pos hb]
      · rw [if_neg hb, if_pos h1, decide_eq_true h2]
  | succ d ih =>
    intro i hi hp k hk
    obtain ⟨k, rfl⟩ : ∃ m, k = m + 1 := ⟨k - 1, by omega⟩
    simp only [laws_FnLinkLive.l0]
    have hi2 : i < x.length := by omega
    have hr : rd_L4 x (i : Int) = x[i] := by simp [rd_L4, List.getD_eq_getElem?_getD, hi2]
    rw [if_pos (by omega), if_pos (by omega), if_pos (by omega), hr]
    by_cases c : x[i].length ≤ 597
    · rw [if_neg (by omega), wrap_eq (by omega) (by omega)]
      refine ih (i + 1) (by omega) ?_ k (by omega)
      intro y hy
      rw [List.take_succ_eq_append_getElem hi2] at hy
      rcases List.mem_append.1 hy with hy | hy
      · exact hp y hy
      · rw [List.mem_singleton.1 hy]; exact c
    · rw [if_pos (by omega), hbad ⟨x[i], List.getElem_mem hi2, c⟩]
      rfl
theorem FnLinkLive : laws_FnLinkLive.Pure := by
  intro l0 _ _ hw
  obtain ⟨w1, m1, f1, g1, hf1, hg1, hd1⟩ := drawBound_ok l0 hw
  obtain ⟨w, x, f, g, hx, hxl, hfl, hgl, hd⟩ := drawRounds_ok l0 hw
  have hb := bytesB_of hx
  obtain ⟨b1, e1, e2⟩ := lb_eq w1 m1 f1 g1 (by omega) (by omega)
  have e3 := lrI_eq (a0 := w) (l2 := f) (l3 := g) hb
  have e4 := fun k (hk : 1000 < k) => lrS_eq (a0 := w) (l2 := f) (l3 := g) hb (by omega) (by omega) (by omega) k (by omega)
  obtain ⟨b, e5, _⟩ := lb_eq w (x.length : Int) f g (by omega) (by omega)
  by_cases h0 : (l0.length : Int) > 1048576
  · exact ⟨0, by unfold laws_FnLinkLive.f; rw [if_pos h0]⟩
  · refine ⟨3000, ?_⟩
    unfold laws_FnLinkLive.f
    rw [if_neg h0, hd1 3000 (by omega), Option.bind_some, e1, Option.bind_some, e2 3000 (by omega), Option.bind_some, if_pos rfl, hd 3000 (by omega), Option.bind_some, e3, Option.bind_some, e4 3000 (by omega), Option.bind_some, if_pos rfl, e5, Option.bind_some]
    by_cases hbn : b < 0
    · rw [if_pos hbn]
    · rw [if_neg hbn]
      have hbb : (1 ≤ w ∧ w ≤ 8) ∧ fatesB f = true ∧ fatesB g = true ∧ b = wrap64 ((mx (f.length : Int) (g.length : Int)) + (wrap64 (Int.tdiv (wrap64 ((wrap64 ((x.length : Int) + w)) - 1)) w))) := by
        unfold impl_LinkBound.f impl_within.f at e5
        by_cases c1 : 1 ≤ w
        · rw [if_pos c1, Option.bind_some] at e5
          by_cases c2 : w ≤ 8
          · rw [if_pos (decide_eq_true c2), if_pos (by omega), Option.bind_some, if_pos (decide_eq_true (by omega))] at e5
            unfold impl_FatesValid.f at e5
            rw [Option.bind_some] at e5
            by_cases c3 : fatesB f = true
            · rw [if_pos c3, Option.bind_some] at e5
              by_cases c4 : fatesB g = true
              · rw [if_pos c4, if_neg (by omega)] at e5
                exact ⟨⟨c1, c2⟩, c3, c4, (Option.some.inj e5).symm⟩
              · rw [if_neg c4] at e5; have := Option.some.inj e5; omega
            · rw [if_neg c3] at e5; have := Option.some.inj e5; omega
          · rw [if_neg (by rw [decide_eq_true_eq]; exact c2)] at e5; have := Option.some.inj e5; omega
        · rw [if_neg c1, Option.bind_some, if_neg (by decide)] at e5; have := Option.some.inj e5; omega
      obtain ⟨⟨hw1, hw8⟩, hff, hfg, hbe⟩ := hbb
      have hbv : b = ((max f.length g.length : Nat) : Int) + ((ceilL x.length w.toNat : Nat) : Int) := by
        rw [hbe]
        have hm : mx (f.length : Int) (g.length : Int) = ((max f.length g.length : Nat) : Int) := by unfold mx; split <;> omega
        have hc : Int.tdiv (wrap64 ((wrap64 ((x.length : Int) + w)) - 1)) w = ((ceilL x.length w.toNat : Nat) : Int) := by
          rw [wrap_eq (x := (x.length : Int) + w) (by omega) (by omega), wrap_eq (by omega) (by omega), Int.tdiv_eq_ediv_of_nonneg (by omega)]
          unfold ceilL
          obtain ⟨W, rfl⟩ := Int.eq_ofNat_of_zero_le (show 0 ≤ w by omega)
          rw [Int.toNat_natCast, show (x.length : Int) + (W : Int) - 1 = ((x.length + W - 1 : Nat) : Int) from by omega]
          exact Int.natCast_ediv _ _
        have hcl : ceilL x.length w.toNat ≤ 1000 := by
          unfold ceilL
          exact Nat.le_trans (Nat.div_le_self _ _) (by omega)
        rw [hm, hc, wrap_eq (x := ((ceilL x.length w.toNat : Nat) : Int)) (by omega) (by omega), wrap_eq (by omega) (by omega)]
      refine live_l0 (lrL w x f g) b x (by omega) ?_ ?_ x.length 0 (by omega) (fun y hy => by simp at hy) 3000 (by omega)
      · intro hall
        have hok : linkB w x f g 400 = true := by
          unfold linkB
          simp only [Bool.and_eq_true, decide_eq_true_eq, List.all_eq_true]
          exact ⟨⟨hw1, hw8⟩, by omega, fun y hy => hall y hy, hff, hfg, by omega, by omega⟩
        by_cases hb4 : b ≤ 400
        · right
          have hlive := run_live (win := w.toNat) (list := x) (there := f) (back := g) (by omega) (by omega) (max f.length g.length) (by omega) (by omega) b.toNat startL (inv_start _ _) (Nat.le_refl _) rfl (by
            have : startL.rounds = 0 := rfl
            have h2 : startL.known = 0 := rfl
            rw [this, h2, Nat.sub_zero, Nat.sub_zero]
            omega)
          have hsame : runL w.toNat x f g 400 startL = runL w.toNat x f g b.toNat startL := by
            rw [show (400 : Nat) = b.toNat + (400 - b.toNat) from by omega, run_add, run_done hlive]
          have hres : resL w x f g 400 = runL w.toNat x f g b.toNat startL := hsame
          obtain ⟨_, _, hrr⟩ := run_inv (there := f) (back := g) (win := w.toNat) (list := x) (by omega) b.toNat startL (inv_start _ _)
          unfold lrL
          rw [if_pos hok, hres, if_pos hlive]
          have : startL.rounds = 0 := rfl
          omega
        · left; omega
      · rintro ⟨y, hy, hyl⟩
        unfold lrL
        rw [if_neg]
        intro h
        exact hyl ((linkB_facts h).2.2.1 y hy)

end Go.Proofs.Ytdpnloibbimblaa.Pure
