/- FnWords: at every draw the program's ReadWords returns what the reference's returns; no word is empty, and the words laid one behind the other are the string without its blanks. No condition but that package-level variables start as the program's text lays them. -/
import Derived.Test.YthflgfaaldknhaaDoorPAllx1
import Derived.Test.YthflgfaaldknhaaDoorPAllx2
namespace Go.Proofs.YthflgfaaldknhaaDoor.Pure
open Go.RowKit Go.Proofs.YthflgfaaldknhaaDoor.PAll Go.Proofs.YthflgfaaldknhaaDoorW.PrintWords Go.Proofs.YthflgfaaldknhaaDoorW.PrintLast Go.Proofs.YthflgfaaldknhaaDoorW.PrintMore

theorem FnWords : laws_FnWords.Pure := by
  intro l0 _ _ hw
  obtain ⟨s, hs, hd⟩ := drawWords_ok hw
  refine ⟨8000, ?_⟩
  unfold laws_FnWords.f
  by_cases c : (l0.length : Int) > 1048576
  · rw [if_pos c]
  have hl := words_len s
  have hcat := words_cat s.size s (Nat.le_refl _)
  have hnl : (nb s.data.toList).length ≤ s.size := by rw [Lib.size_eq]; exact List.length_filter_le _ _
  rw [if_neg c, hd _ (by omega), Option.bind_some, iwords_eq s (by omega) _ (by omega), Option.bind_some, swords_eq s (by omega) _ (by omega), Option.bind_some, if_pos rfl]
  have hne : ∀ x ∈ wordsB s, x.size ≠ 0 := fun x hx => of_decide_eq_true (List.mem_filter.1 hx).2
  have h0 := fw_l0 s (wordsB s) (by omega) hne 100000 (by omega) (wordsB s).length 8000 0 ⟨#[]⟩ (by omega) (by rw [List.drop_zero, hcat]; have : (⟨#[]⟩ : ByteArray).size = 0 := rfl; omega) (by omega)
  refine h0.trans ?_
  rw [List.drop_zero]
  have hdata := catB_data (wordsB s) ⟨#[]⟩
  rw [hcat] at hdata
  have hdata' : (catB ⟨#[]⟩ (wordsB s)).data.toList = nb s.data.toList := hdata
  have hsz : (catB ⟨#[]⟩ (wordsB s)).size ≤ 1048576 := by rw [Lib.size_eq, hdata']; omega
  exact fw_l1 s _ (by omega) hsz s.size _ 0 0 (by omega) (by omega) (by rw [List.drop_zero, List.drop_zero, hdata']) (by omega)

end Go.Proofs.YthflgfaaldknhaaDoor.Pure
