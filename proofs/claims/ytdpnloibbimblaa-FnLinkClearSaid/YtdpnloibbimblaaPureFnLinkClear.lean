/- FnLinkClear: over clear wires, at every draw, the program's RunLink returns what the reference's returns; a link that runs is done, each packet is sent once, and there is an answer for each window. No condition. -/
import Derived.Test.YtdpnloibbimblaaPAllx1
import Derived.Test.YtdpnloibbimblaaPAllx3
import Derived.Test.YtdpnloibbimblaaPAllx7
import Derived.Test.YtdpnloibbimblaaPAllx9
namespace Go.Proofs.Ytdpnloibbimblaa.Pure
open Go.RowKit Go.Proofs.Ytdpnloibbimblaa.PAll Go.Proofs.YtdpnloibbimblaaW.PrintWords Go.Proofs.YtdpnloibbimblaaW.PrintLast Go.Proofs.YtdpnloibbimblaaW.PrintMore

theorem FnLinkClear : laws_FnLinkClear.Pure := by
  intro l0 _ _ hw
  obtain ⟨w, x, f, g, hx, hxl, hfl, hgl, hd⟩ := drawRounds_ok l0 hw
  have hb := bytesB_of hx
  by_cases h0 : (l0.length : Int) > 1048576
  · exact ⟨0, by unfold laws_FnLinkClear.f; rw [if_pos h0]⟩
  · refine ⟨3000, ?_⟩
    unfold laws_FnLinkClear.f
    rw [if_neg h0, hd 3000 (by omega), Option.bind_some]
    simp only []
    rw [run_eq hb (by omega) (by simp) (by simp) 3000 (by simp; omega)]
    cases hl : linkB w x [] [] 100 with
    | false => rw [runI_no hl, Option.bind_some, Option.bind_some, if_pos ⟨rfl, Or.inl rfl⟩]
    | true =>
      obtain ⟨⟨hw1, hw8⟩, _⟩ := linkB_facts hl
      have hcl : ceilL x.length w.toNat ≤ 100 := by
        unfold ceilL
        refine Nat.le_trans (Nat.div_le_div_right (c := w.toNat) (b := 100 * w.toNat) (by omega)) ?_
        rw [Nat.mul_div_cancel _ (by omega)]
        exact Nat.le_refl _
      obtain ⟨c1, c2, c3, c4⟩ := run_clear (win := w.toNat) (list := x) (by omega) (by omega) 100 startL (inv_start _ _) (Nat.zero_le _) rfl rfl hcl
      have hc : Int.tdiv ((x.length : Int) + w - 1) w = ((ceilL x.length w.toNat : Nat) : Int) := by
        rw [Int.tdiv_eq_ediv_of_nonneg (by omega)]
        unfold ceilL
        obtain ⟨W, rfl⟩ := Int.eq_ofNat_of_zero_le (show 0 ≤ w by omega)
        rw [Int.toNat_natCast, show (x.length : Int) + (W : Int) - 1 = ((x.length + W - 1 : Nat) : Int) from by omega]
        exact Int.natCast_ediv _ _
      have hres : resL w x [] [] 100 = runL w.toNat x [] [] 100 startL := rfl
      have z1 : startL.rounds = 0 := rfl
      have z2 : startL.known = 0 := rfl
      rw [z1, z2, Nat.sub_zero, Nat.zero_add] at c4
      rw [runI_yes hl hb, Option.bind_some, Option.bind_some, hres]
      generalize runL w.toNat x [] [] 100 startL = s at c1 c2 c3 c4 ⊢
      rw [if_pos]
      refine ⟨rfl, Or.inr ⟨rfl, decide_eq_true (by omega), ?_, hw1, hw8, ?_, ?_, ?_, ?_⟩⟩
      · show (s.so : Int) + (s.si : Int) = (x.length : Int) + (s.rounds : Int); omega
      · show x.length ≤ 1000; omega
      · show (0 : Int) ≤ (s.rounds : Int); omega
      · show (s.rounds : Int) ≤ 2000; omega
      · show Int.tdiv ((x.length : Int) + w - 1) w = (s.rounds : Int); rw [hc, c4]

end Go.Proofs.Ytdpnloibbimblaa.Pure
