/- FnExactTreeWay: for all arguments the program's TreeWay returns what the reference's returns, leaves its arguments as they were, and its result shares no memory with them or with another result. No condition. -/
import Derived.Test.YtdamdcdjodmemaaPAllx7
import Derived.Test.YtdamdcdjodmemaaPAllx9
namespace Go.Proofs.Ytdamdcdjodmemaa.Pure
open Go.RowKit Go.Proofs.Ytdamdcdjodmemaa.PAll Go.Proofs.YtdamdcdjodmemaaW.PrintWords Go.Proofs.YtdamdcdjodmemaaW.PrintLast Go.Proofs.YtdamdcdjodmemaaW.PrintMore

theorem FnExactTreeWay : laws_FnExactTreeWay.Pure := by
  intro n cs hs vs s b _ h1 h2 h3 _ _
  obtain ⟨m, hm, hm2⟩ := szNet_eq n cs hs vs h1.1 h2.1 h3.1
  suffices g : ∀ k, cs.length + hs.length + vs.length + 3000 < k → laws_FnExactTreeWay.f k n cs hs vs s b = some true from ⟨cs.length + hs.length + vs.length + 3001, g _ (by omega)⟩
  intro k hk
  obtain ⟨k, rfl⟩ : ∃ m, k = m + 1 := ⟨k - 1, by omega⟩
  unfold laws_FnExactTreeWay.f
  rw [hm, Option.bind_some]
  by_cases c : m < 0
  · rw [if_pos c]
  obtain ⟨hl, _, _⟩ := hm2 c
  have hc := cvC_len cs
  have hx := wayX_len n (cvC cs) hs vs s b
  obtain ⟨q, x, y, z, q0, hq⟩ := markNet_eq n (cvC cs) hs vs (by omega) (k + 1) (by omega)
  rw [if_neg c, toNet_eq n cs hs vs hl _ (by omega), Option.bind_some]
  simp only []
  rw [sway_eq n _ hs vs s b (by omega) _ (by omega), Option.bind_some, Option.bind_some]
  simp only []
  rw [iway_eq n _ hs vs s b _ (by omega), Option.bind_some, eqIntS_eq _ (by omega) _ (by omega), Option.bind_some, if_pos rfl, Option.bind_some]
  simp only []
  rw [eqNet_eq n _ hs vs (by omega) _ (by omega), Option.bind_some, if_pos rfl, hq, Option.bind_some]
  simp only []
  rw [if_neg (by omega), Option.bind_some]
  simp only [laws_FnExactTreeWay.j0]
  rw [if_neg (by decide), markInt_eq _ 1 (by omega) (by omega) (by omega) _ (by omega), Option.bind_some]
  simp only []
  rw [heldInt_eq _ 1 (by omega) (by omega) (by omega) _ (by omega), Option.bind_some, if_neg (by omega), if_pos rfl, toNet_eq n cs hs vs hl _ (by omega), Option.bind_some]
  simp only []
  rw [iway_eq n _ hs vs s b _ (by omega), Option.bind_some, eqIntS_eq _ (by omega) _ (by omega), Option.bind_some, if_pos rfl, Option.bind_some, if_neg (by omega), if_pos rfl]

end Go.Proofs.Ytdamdcdjodmemaa.Pure
