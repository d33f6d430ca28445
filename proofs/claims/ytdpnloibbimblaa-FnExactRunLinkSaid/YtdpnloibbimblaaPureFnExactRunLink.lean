/- FnExactRunLink: for all arguments the program's RunLink returns what the reference's returns, leaves its arguments as they were, and what it returns shares no memory with them, nor do its rows with each other. No condition. -/
import Derived.Test.YtdpnloibbimblaaPAllx1
import Derived.Test.YtdpnloibbimblaaPAllx3
import Derived.Test.YtdpnloibbimblaaPAllx6
import Derived.Test.YtdpnloibbimblaaPAllx7
namespace Go.Proofs.Ytdpnloibbimblaa.Pure
open Go.RowKit Go.Proofs.Ytdpnloibbimblaa.PAll Go.Proofs.YtdpnloibbimblaaW.PrintWords Go.Proofs.YtdpnloibbimblaaW.PrintLast Go.Proofs.YtdpnloibbimblaaW.PrintMore

theorem mkN_bound (l : List (List Int)) (h : ∀ y ∈ l, y.length ≤ 597) : ∀ a, mkN l a ≤ a + 597 * (l.length : Int) := by
  induction l with
  | nil => intro a; show a ≤ a + 597 * 0; omega
  | cons r l ih =>
    intro a
    have h1 := ih (fun y hy => h y (List.mem_cons_of_mem _ hy)) (a + (r.length : Int))
    have h2 := h r (List.mem_cons_self ..)
    show mkN l (a + (r.length : Int)) ≤ _
    rw [List.length_cons]
    omega
/-- What a run answers is small. -/
theorem run_small (a0 : Int) (l1 : List (List Int)) (l2 l3 : List Int) (a4 : Int) (hb : bytesB l1 = true) : ∃ g g2 g3 g4 g5, impl_RunLink.f a0 l1 l2 l3 a4 = some (g, g2, g3, g4, g5) ∧ g.length ≤ 60 ∧ ∀ y ∈ g, y.length ≤ 597 := by
  cases hl : linkB a0 l1 l2 l3 a4 with
  | false => exact ⟨[], 0, 0, false, false, runI_no hl, Nat.zero_le _, fun y hy => by simp at hy⟩
  | true =>
    obtain ⟨⟨hw1, hw8⟩, h60, h597, _⟩ := linkB_facts hl
    obtain ⟨i1, _, _⟩ := run_inv (there := l2) (back := l3) (win := a0.toNat) (list := l1) (by omega) a4.toNat startL (inv_start _ _)
    refine ⟨_, _, _, _, _, runI_yes hl hb, Nat.le_trans i1.hi h60, fun y hy => ?_⟩
    have hp : (resL a0 l1 l2 l3 a4).got = l1.take (resL a0 l1 l2 l3 a4).got.length := i1.pre
    rw [hp] at hy
    exact h597 y (List.mem_of_mem_take hy)
theorem FnExactRunLink : laws_FnExactRunLink.Pure := by
  intro a0 l1 l2 l3 a4 _ hm1 _ _ _ _ _ _ _
  have hb : bytesB l1 = true := bytesB_of (byteWf (fun y hy => (hm1.2 y hy).2))
  obtain ⟨t, ht, hq⟩ := szSS_eq l1 hm1.1 (fun y hy => (hm1.2 y hy).1)
  by_cases c2 : (l2.length : Int) > 1048576
  · exact ⟨0, by unfold laws_FnExactRunLink.f; rw [if_pos c2]⟩
  · by_cases c3 : (l3.length : Int) > 1048576
    · exact ⟨0, by unfold laws_FnExactRunLink.f; rw [if_neg c2, if_pos c3]⟩
    · by_cases c1 : t < 0
      · exact ⟨2000001, by unfold laws_FnExactRunLink.f; rw [if_neg c2, if_neg c3, ht 2000001 (by omega), Option.bind_some, if_pos c1]⟩
      · obtain ⟨q1, q2⟩ := hq c1
        refine ⟨9000000, ?_⟩
        have hz := ht 9000000 (by omega)
        have hn := szN_le l1 hm1.1 (fun y hy => (hm1.2 y hy).1) 9000000 t hz (by omega) 1
        have hn0 := mkN_le l1 1
        obtain ⟨g, g2, g3, g4, g5, hI, hg60, hg597⟩ := run_small a0 l1 l2 l3 a4 hb
        have hS := run_eq (a0 := a0) (a4 := a4) (l2 := l2) (l3 := l3) hb (by omega) (by omega) (by omega) 9000000 (by omega)
        rw [hI] at hS
        have hT := tbSS_eq l1 q1 q2 9000000 (by omega)
        have hT2 := toIntS_eq l2 (by omega) 9000000 (by omega)
        have hT3 := toIntS_eq l3 (by omega) 9000000 (by omega)
        have hG1 : g.length ≤ 1048576 := by omega
        have hG2 : ∀ y ∈ g, y.length ≤ 1048576 := fun y hy => by have := hg597 y hy; omega
        have hE0 := eqSS_eq g hG1 hG2 9000000 (by omega)
        have hE := eqSS_eq l1 q1 q2 9000000 (by omega)
        have hE2 := eqIntS_eq l2 (by omega) 9000000 (by omega)
        have hE3 := eqIntS_eq l3 (by omega) 9000000 (by omega)
        have hM2 := markInt_eq l2 (mkN l1 1) (by omega) (by omega) (by omega) 9000000 (by omega)
        have hM3 := markInt_eq l3 (mkN l1 1 + (l2.length : Int)) (by omega) (by omega) (by omega) 9000000 (by omega)
        have hgb := mkN_bound g hg597 1
        have hg0 := mkN_le g 1
        have hH := heldSS_eq g hG1 1 (by omega) (by omega) hG2 9000000 (by omega)
        have hm1' : laws_markByteSS.f l1 1 = some (mkN l1 1, mkSS l1 1) := by unfold laws_markByteSS.f; rw [if_pos ⟨by omega, by omega, by omega⟩]
        have hmg : laws_markLinkRun.f g g2 g3 g4 1 = some (mkN g 1, mkSS g 1) := by unfold laws_markLinkRun.f laws_markByteSS.f; rw [if_pos ⟨by omega, by omega, by omega⟩]
        generalize (9000000 : Nat) = K at hz hS hT hT2 hT3 hE0 hE hE2 hE3 hM2 hM3 hH ⊢
        have hel : laws_eqLinkRun.f K g g2 g3 g4 g g2 g3 g4 = some true := by
          unfold laws_eqLinkRun.f
          rw [hE0, Option.bind_some, if_pos rfl, if_pos rfl, if_pos rfl]
          cases g4 <;> rfl
        have hhl : laws_heldLinkRun.f K (mkSS g 1) g2 g3 g4 1 = some (mkN g 1) := by
          unfold laws_heldLinkRun.f
          rw [hH, Option.bind_some, if_neg (by omega)]
        unfold laws_FnExactRunLink.f
        rw [if_neg c2, if_neg c3, hz, Option.bind_some, if_neg c1, hT, Option.bind_some, hT2, Option.bind_some, hT3, Option.bind_some, hS, Option.bind_some, hI, Option.bind_some]
        simp only []
        rw [hel, Option.bind_some, hE, Option.bind_some, hE2, Option.bind_some, hE3, Option.bind_some, hm1', Option.bind_some, hM2, Option.bind_some, hM3, Option.bind_some, hmg, Option.bind_some, hhl, Option.bind_some]
        rw [if_pos ⟨trivial, trivial, trivial, trivial, rfl, rfl, rfl, rfl, by show (0 : Int) ≤ mkN l1 1 + (l2.length : Int) + (l3.length : Int); omega, rfl, by show (0 : Int) ≤ mkN g 1; omega⟩]

end Go.Proofs.Ytdpnloibbimblaa.Pure
