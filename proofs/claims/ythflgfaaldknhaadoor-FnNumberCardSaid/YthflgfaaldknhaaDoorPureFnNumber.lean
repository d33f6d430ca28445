/- FnNumber: at every draw the program's ReadNumber returns what the reference's returns: -1, or a number below 10000 that is written as the string is. No condition but that package-level variables start as the program's text lays them. -/
import Derived.Test.YthflgfaaldknhaaDoorPAllx3
namespace Go.Proofs.YthflgfaaldknhaaDoor.Pure
open Go.RowKit Go.Proofs.YthflgfaaldknhaaDoor.PAll Go.Proofs.YthflgfaaldknhaaDoorW.PrintWords Go.Proofs.YthflgfaaldknhaaDoorW.PrintLast Go.Proofs.YthflgfaaldknhaaDoorW.PrintMore

theorem FnNumber : laws_FnNumber.Pure := by
  intro l0 _ _ hw
  obtain ⟨b, hbo, hb⟩ := open_ok l0 hw
  obtain ⟨s, hs, he⟩ := of_ok hb (p := 0) [(⟨#[48]⟩ : ByteArray), (⟨#[55]⟩ : ByteArray), (⟨#[52, 50]⟩ : ByteArray), (⟨#[57, 57, 57, 57]⟩ : ByteArray), (⟨#[49, 48, 48, 48, 48]⟩ : ByteArray), (⟨#[48, 49]⟩ : ByteArray), (⟨#[]⟩ : ByteArray), (⟨#[45, 49]⟩ : ByteArray), (⟨#[120]⟩ : ByteArray), (⟨#[49, 32]⟩ : ByteArray), (⟨#[49, 50, 48]⟩ : ByteArray), (⟨#[51, 48, 53]⟩ : ByteArray)] (by omega) (by omega) (by simp) (by simp)
  have hd : spec_DrawReadNumber.f 40 l0 = some s := by
    unfold spec_DrawReadNumber.f
    rw [hbo, Option.bind_some]
    simp only []
    rw [he 40 (by omega), Option.bind_some]
  refine ⟨40, ?_⟩
  unfold laws_FnNumber.f
  by_cases c : (l0.length : Int) > 1048576
  · rw [if_pos c]
  rw [if_neg c, hd, Option.bind_some]
  clear hd he hbo hb hw c
  simp only [List.mem_cons, List.mem_nil_iff, or_false] at hs
  rcases hs with rfl | rfl | rfl | rfl | rfl | rfl | rfl | rfl | rfl | rfl | rfl | rfl <;> kernel_rfl

end Go.Proofs.YthflgfaaldknhaaDoor.Pure
