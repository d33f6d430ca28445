/- FnExactCutLink: for all arguments the program's CutLink returns what the reference's returns, leaves its arguments as they were, and its result shares no memory with them or with another result. No condition. -/
import Derived.Test.YtdnehickciaiiaaPAllx5
import Derived.Test.YtdnehickciaiiaaPAllx9
import Derived.Test.YtdnehickciaiiaaPAllx18
import Derived.Test.YtdnehickciaiiaaPAllx21
namespace Go.Proofs.Ytdnehickciaiiaa.Pure
open Go.RowKit Go.Proofs.Ytdnehickciaiiaa.PAll Go.Proofs.YtdnehickciaiiaaW.PrintWords Go.Proofs.YtdnehickciaiiaaW.PrintLast Go.Proofs.YtdnehickciaiiaaW.PrintMore

theorem FnExactCutLink : laws_FnExactCutLink.Pure := by
  intro n h c a _ _ hc _
  obtain ⟨m, hm, hm2⟩ := szRing_eq n h c hc.1
  suffices g : ∀ k, c.length + 4000 < k → laws_FnExactCutLink.f k n h c a = some true from ⟨c.length + 4001, g _ (by omega)⟩
  intro k hk
  obtain ⟨k, rfl⟩ : ∃ m, k = m + 1 + 1 + 1 := ⟨k - 3, by omega⟩
  unfold laws_FnExactCutLink.f
  rw [hm, Option.bind_some]
  by_cases e : m < 0
  · rw [if_pos e]
  have hl := hm2 e
  have hx := cutX_len n h c a
  have hi := fun k (hk : c.length + 300 < k) => icut_eq n h c a hl k hk
  have hs := fun k (hk : c.length + 30 < k) => scut_eq n h c a hl k hk
  generalize cutX n h c a = z at hx hi hs
  obtain ⟨z1, z2, z3, z4⟩ := z
  simp only [] at hx
  rw [if_neg e, toRing_eq n h c hl _ (by omega), Option.bind_some]
  simp only []
  rw [hs _ (by omega), Option.bind_some, Option.bind_some]
  simp only []
  rw [hi _ (by omega), Option.bind_some]
  simp only []
  rw [eqRing_eq z1 z2 z3 (by omega) _ (by omega), Option.bind_some, if_pos rfl]
  simp only [laws_FnExactCutLink.j0]
  rw [if_neg (by simp), toRing_eq n h c hl _ (by omega), Option.bind_some]
  simp only []
  rw [eqRing_eq n h c (by omega) _ (by omega), Option.bind_some, if_pos rfl, markRing_eq n h c (by omega) _ (by omega), Option.bind_some]
  simp only []
  rw [if_neg (by omega), eqRing_eq z1 z2 z3 (by omega) _ (by omega), Option.bind_some, if_pos rfl]
  simp only [laws_FnExactCutLink.j1]
  rw [if_neg (by simp), markRing_eq z1 z2 z3 (by omega) _ (by omega), Option.bind_some]
  simp only []
  rw [heldRing_eq z1 z2 z3.length (by omega) _ (by omega), Option.bind_some, if_neg (by omega), if_pos rfl, toRing_eq n h c hl _ (by omega), Option.bind_some]
  simp only []
  rw [hi _ (by omega), Option.bind_some]
  simp only []
  rw [eqRing_eq z1 z2 z3 (by omega) _ (by omega), Option.bind_some, if_pos rfl]
  simp only [laws_FnExactCutLink.j2]
  rw [if_neg (by simp), heldRing_eq z1 z2 z3.length (by omega) _ (by omega), Option.bind_some, if_neg (by omega), if_pos rfl]

end Go.Proofs.Ytdnehickciaiiaa.Pure
