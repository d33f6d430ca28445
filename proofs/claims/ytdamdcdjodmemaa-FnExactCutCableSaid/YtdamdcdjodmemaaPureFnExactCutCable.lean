/- FnExactCutCable: for all arguments the program's CutCable returns what the reference's returns, leaves its arguments as they were, and its result shares no memory with them or with another result. No condition. -/
import Derived.Test.YtdamdcdjodmemaaPAllx4
import Derived.Test.YtdamdcdjodmemaaPAllx5
import Derived.Test.YtdamdcdjodmemaaPAllx6
import Derived.Test.YtdamdcdjodmemaaPAllx7
namespace Go.Proofs.Ytdamdcdjodmemaa.Pure
open Go.RowKit Go.Proofs.Ytdamdcdjodmemaa.PAll Go.Proofs.YtdamdcdjodmemaaW.PrintWords Go.Proofs.YtdamdcdjodmemaaW.PrintLast Go.Proofs.YtdamdcdjodmemaaW.PrintMore

theorem FnExactCutCable : laws_FnExactCutCable.Pure := by
  intro n cs hs vs s _ h1 h2 h3 _
  obtain ⟨m, hm, hm2⟩ := szNet_eq n cs hs vs h1.1 h2.1 h3.1
  suffices g : ∀ k, cs.length + hs.length + vs.length + 3000 < k → laws_FnExactCutCable.f k n cs hs vs s = some true from ⟨cs.length + hs.length + vs.length + 3001, g _ (by omega)⟩
  intro k hk
  obtain ⟨k, rfl⟩ : ∃ m, k = m + 1 + 1 + 1 := ⟨k - 3, by omega⟩
  unfold laws_FnExactCutCable.f
  rw [hm, Option.bind_some]
  by_cases c : m < 0
  · rw [if_pos c]
  obtain ⟨hl, _, _⟩ := hm2 c
  have hc := cvC_len cs
  obtain ⟨q, x, y, z, q0, hq, _⟩ := heldNet_ok n n (cvC cs) hs vs (by omega)
  rw [if_neg c, toNet_eq n cs hs vs hl _ (by omega), Option.bind_some]
  simp only []
  rw [scut_eq n _ hs vs s (by omega) _ (by omega), Option.bind_some, Option.bind_some]
  simp only []
  rw [icut_eq n _ hs vs s _ (by omega), Option.bind_some]
  have hr : ∃ n2 c2 h2 v2 b2, (if netB n (cvC cs) hs vs = true ∧ 0 ≤ s ∧ s < (cvC cs).length then (n, (cvC cs).eraseIdx s.toNat, hs, vs, true) else (0, [], [], [], false)) = ((n2, c2, h2, v2, b2) : Int × List S51 × List Int × List Int × Bool) ∧ c2.length + h2.length + v2.length ≤ cs.length + hs.length + vs.length := by
    split
    · refine ⟨_, _, _, _, _, rfl, ?_⟩
      have := List.length_eraseIdx_le (cvC cs) s.toNat
      omega
    · exact ⟨_, _, _, _, _, rfl, by simp⟩
  have hagain := fun k => icut_eq n (cvC cs) hs vs s k
  obtain ⟨n2, c2, h2', v2, b2, e, hl2⟩ := hr
  rw [e] at hagain ⊢
  simp only []
  obtain ⟨q2, x2, y2, z2, q20, hq2, hh2⟩ := heldNet_ok n2 n2 c2 h2' v2 (by omega)
  rw [eqNet_eq n2 _ h2' v2 (by omega) _ (by omega), Option.bind_some, if_pos rfl]
  simp only [laws_FnExactCutCable.j0]
  rw [if_neg (by simp), toNet_eq n cs hs vs hl _ (by omega), Option.bind_some]
  simp only []
  rw [eqNet_eq n _ hs vs (by omega) _ (by omega), Option.bind_some, if_pos rfl, hq _ (by omega), Option.bind_some]
  simp only []
  rw [if_neg (by omega), eqNet_eq n2 _ h2' v2 (by omega) _ (by omega), Option.bind_some, if_pos rfl]
  simp only [laws_FnExactCutCable.j1]
  rw [if_neg (by simp), hq2 _ (by omega), Option.bind_some]
  simp only []
  rw [hh2 _ (by omega), Option.bind_some, if_neg (by omega), if_pos rfl, toNet_eq n cs hs vs hl _ (by omega), Option.bind_some]
  simp only []
  rw [hagain _ (by omega), Option.bind_some]
  simp only []
  rw [eqNet_eq n2 _ h2' v2 (by omega) _ (by omega), Option.bind_some, if_pos rfl]
  simp only [laws_FnExactCutCable.j2]
  rw [if_neg (by simp), hh2 _ (by omega), Option.bind_some, if_neg (by omega), if_pos rfl]

end Go.Proofs.Ytdamdcdjodmemaa.Pure
