/- FnLinkSafe: at every draw the program's RunLink and the reference's answer the same, and of a run what has come is the beginning of the list, all of it when the run is done, in no more rounds than were allowed. No condition. -/
import Derived.Test.YtdpnloibbimblaaPAllx1
import Derived.Test.YtdpnloibbimblaaPAllx3
import Derived.Test.YtdpnloibbimblaaPAllx6
import Derived.Test.YtdpnloibbimblaaPAllx7
import Derived.Test.YtdpnloibbimblaaPAllx10
import Derived.Test.YtdpnloibbimblaaPAllx11
namespace Go.Proofs.Ytdpnloibbimblaa.Pure
open Go.RowKit Go.Proofs.Ytdpnloibbimblaa.PAll Go.Proofs.YtdpnloibbimblaaW.PrintWords Go.Proofs.YtdpnloibbimblaaW.PrintLast Go.Proofs.YtdpnloibbimblaaW.PrintMore

theorem FnLinkSafe : laws_FnLinkSafe.Pure := by
  intro l0 _ _ hw
  obtain ⟨w, x, f, g, r, hx, hxl, hfl0, hgl0, hd⟩ := drawRun_ok l0 hw
  have hb := bytesB_of hx
  by_cases h0 : (l0.length : Int) > 1048576
  · exact ⟨0, by unfold laws_FnLinkSafe.f; rw [if_pos h0]⟩
  · by_cases hok : linkB w x f g r = true
    · obtain ⟨hww, hxl2, hx597, hf2, hf3, hr0, hr1⟩ := linkB_facts hok
      have hfl := fatesB_len hf2
      have hgl := fatesB_len hf3
      have hR := runI_yes hok hb
      have hS := fun k (hk : 1000 < k) => (run_eq (a0 := w) (l2 := f) (l3 := g) (a4 := r) hb (by omega) (by omega) (by omega) k (by omega)).trans hR
      obtain ⟨hI, _, hrr⟩ := run_inv (there := f) (back := g) (win := w.toNat) (list := x) (by omega) r.toNat startL (inv_start _ _)
      have e : runL w.toNat x f g r.toNat startL = resL w x f g r := rfl
      rw [e] at hI hrr
      have hgl2 := hI.hi
      refine ⟨2000, ?_⟩
      unfold laws_FnLinkSafe.f
      rw [if_neg h0, hd 2000 (by omega), Option.bind_some, hR, Option.bind_some, hS 2000 (by omega), Option.bind_some]
      simp only []
      rw [if_neg (by decide), wnT_refl _ (by omega) 2000 (by omega), Option.bind_some, if_pos rfl, if_pos trivial, if_pos trivial, if_neg (by simp)]
      simp only [laws_FnLinkSafe.j0]
      rw [if_neg (by decide), if_pos (by omega), if_pos (by omega), Int.toNat_natCast, ← hI.pre, wnT_refl _ (by omega) 1999 (by omega), Option.bind_some, if_pos rfl]
      have hro : decide (((resL w x f g r).rounds : Int) ≤ r) = true := decide_eq_true (by
        have h2 : (startL).rounds = 0 := rfl
        rw [h2] at hrr
        omega)
      by_cases hdn : x.length ≤ (resL w x f g r).known
      · rw [if_pos (decide_eq_true hdn), if_pos (by have := hI.lo; omega), hro]
      · rw [if_neg (by rw [decide_eq_false hdn]; decide), hro]
    · have hR := runI_no (Bool.eq_false_iff.mpr hok)
      refine ⟨2000 + f.length + g.length, ?_⟩
      have hS := (run_eq (a0 := w) (l2 := f) (l3 := g) (a4 := r) hb (by omega) (by omega) (by omega) (2000 + f.length + g.length) (by omega)).trans hR
      unfold laws_FnLinkSafe.f
      rw [if_neg h0, hd _ (by omega), Option.bind_some, hR, Option.bind_some, hS, Option.bind_some]
      simp only []
      rw [if_neg (by decide), wnT_refl _ (by simp) _ (by simp <;> omega), Option.bind_some, if_pos rfl, if_pos trivial, if_pos trivial, if_neg (by simp), show 2000 + f.length + g.length = (1999 + f.length + g.length) + 1 from by omega]
      simp only [laws_FnLinkSafe.j0]
      rw [if_pos (by decide), if_pos (by decide), if_pos trivial, wnT_refl _ (by simp) _ (by simp <;> omega), Option.bind_some, if_pos rfl, if_pos trivial]
      rfl

end Go.Proofs.Ytdpnloibbimblaa.Pure
