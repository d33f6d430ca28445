/- FnExactEdgesOf: for all arguments the program's EdgesOf returns what the reference's returns, leaves its argument as it was, and its result shares no memory with it or with another result. No condition. -/
import Derived.Test.YtjhidlmaphdelaaPAllx3
import Derived.Test.YtjhidlmaphdelaaPAllx15
import Derived.Test.YtjhidlmaphdelaaPAllx22
namespace Go.Proofs.Ytjhidlmaphdelaa.Pure
open Go.RowKit Go.Proofs.Ytjhidlmaphdelaa.PAll Go.Proofs.YtjhidlmaphdelaaW.PrintWords Go.Proofs.YtjhidlmaphdelaaW.PrintLast Go.Proofs.YtjhidlmaphdelaaW.PrintMore

theorem FnExactEdgesOf : laws_FnExactEdgesOf.Pure := by
  intro l a b h1 _ _ _ _
  suffices h : ∀ k, l.length + 4000 < k → laws_FnExactEdgesOf.f k l a b = some true from ⟨l.length + 4001, h _ (by omega)⟩
  intro k hk
  obtain ⟨k, rfl⟩ : ∃ m, k = m + 1 := ⟨k - 1, by omega⟩
  unfold laws_FnExactEdgesOf.f
  by_cases hl : (l.length : Int) > 1048576
  · rw [if_pos hl]
  have hE := edF_len l a b
  rw [if_neg hl, toIntS_eq l (by omega) _ (by omega), Option.bind_some, sedges_eq l a b (by omega) _ (by omega) (by omega), Option.bind_some, Option.bind_some, iedges_eq l a b _ (by omega), Option.bind_some, eqEdge_eq _ (by omega) _ (by omega), Option.bind_some, if_pos rfl, Option.bind_some, eqIntS_eq l (by omega) _ (by omega), Option.bind_some, if_pos rfl, markInt_eq l 1 (by omega) (by omega) (by omega) _ (by omega), Option.bind_some]
  simp only []
  rw [if_neg (by omega), Option.bind_some]
  simp only [laws_FnExactEdgesOf.j0]
  rw [if_neg (by decide), markEdge_eq _ (by omega) _ (by omega), Option.bind_some]
  simp only []
  rw [heldEdge_eq _ (by omega) _ (by omega), Option.bind_some, if_neg (by omega), if_pos rfl, toIntS_eq l (by omega) _ (by omega), Option.bind_some, iedges_eq l a b _ (by omega), Option.bind_some, eqEdge_eq _ (by omega) _ (by omega), Option.bind_some, if_pos rfl, Option.bind_some, if_neg (by omega), if_pos rfl]

end Go.Proofs.Ytjhidlmaphdelaa.Pure
