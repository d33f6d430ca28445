/- FnPenalty: at every draw the program's PenaltyAt returns what the reference's returns, and the penalty at a time is that of the time before, less fade but not below 0, and then greater by cost if the neighbour goes down then. No condition. -/
import Derived.Test.YtjhidlmaphdelaaPAllx2
import Derived.Test.YtjhidlmaphdelaaPAllx9
import Derived.Test.YtjhidlmaphdelaaPAllx20
import Derived.Test.YtjhidlmaphdelaaPAllx21
namespace Go.Proofs.Ytjhidlmaphdelaa.Pure
open Go.RowKit Go.Proofs.Ytjhidlmaphdelaa.PAll Go.Proofs.YtjhidlmaphdelaaW.PrintWords Go.Proofs.YtjhidlmaphdelaaW.PrintLast Go.Proofs.YtjhidlmaphdelaaW.PrintMore

theorem FnPenalty : laws_FnPenalty.Pure := by
  intro l0 _ _ hw
  obtain ⟨l, cost, fade, t, hl, hd⟩ := drawPenalty_ok hw
  suffices h : ∀ k, 4000 < k → laws_FnPenalty.f k l0 = some true from ⟨4001, h 4001 (by omega)⟩
  intro k hk
  obtain ⟨k, rfl⟩ : ∃ m, k = m + 1 := ⟨k - 1, by omega⟩
  unfold laws_FnPenalty.f
  by_cases hs : (l0.length : Int) > 1048576
  · rw [if_pos hs]
  rw [if_neg hs, hd _ (by omega), Option.bind_some]
  simp only []
  rw [ipen_eq, Option.bind_some, spen_eq l cost fade t (by omega) _ (by omega) (by omega), Option.bind_some, if_pos rfl]
  simp only [laws_FnPenalty.j0]
  cases ho : penOk l cost fade t with
  | false =>
    have e : penF l cost fade t = -1 := by unfold penF; rw [ho]; rfl
    rw [e, if_pos (by decide), spen_eq l cost fade t (by omega) _ (by omega) (by omega), Option.bind_some, e, if_pos rfl]
    rfl
  | true =>
    obtain ⟨h0, h1, h2, h3, h4, h5, h6, h7⟩ := penOk_facts ho
    obtain ⟨n, rfl⟩ := Int.eq_ofNat_of_zero_le h6
    have hr := penN_range (l := l) h2 h3 h4 h5 (n + 1) (by omega)
    have e : penF l cost fade n = penN l cost fade (n + 1) := by unfold penF; rw [ho, if_pos rfl, Int.toNat_natCast]
    rw [e, if_neg (by simp; omega)]
    have e2 : penN l cost fade (n + 1) = penS l cost fade n (penN l cost fade n) := rfl
    by_cases c : (n : Int) > 0
    · have e3 : wrap64 ((n : Int) - 1) = ((n - 1 : Nat) : Int) := by rw [wrap_eq (by omega) (by omega)]; omega
      have ho' : penOk l cost fade ((n - 1 : Nat) : Int) = true := by
        unfold penOk clockB
        rw [h0]
        simp
        omega
      have e4 : penF l cost fade ((n - 1 : Nat) : Int) = penN l cost fade n := by unfold penF; rw [ho', if_pos rfl, Int.toNat_natCast, show n - 1 + 1 = n by omega]
      rw [if_pos c, e3, ipen_eq, e4, Option.bind_some, wnHas_eq l n (by omega) _ (by omega), Option.bind_some, e2]
      unfold penS
      by_cases c2 : hasB l n = true
      · rw [if_pos c2, if_pos c2]; simp
      · rw [if_neg c2, if_neg c2]; simp
    · obtain rfl : n = 0 := by omega
      rw [if_neg c, wnHas_eq l _ (by omega) _ (by omega), Option.bind_some, e2]
      have e5 : penS l cost fade ((0 : Nat) : Int) (penN l cost fade 0) = if hasB l ((0 : Nat) : Int) = true then wrap64 (mx 0 (wrap64 (-fade)) + cost) else mx 0 (wrap64 (-fade)) := by
        unfold penS penN
        rw [show (0 : Int) - fade = -fade by omega]
      rw [e5]
      by_cases c2 : hasB l ((0 : Nat) : Int) = true
      · rw [if_pos c2, if_pos c2]; simp
      · rw [if_neg c2, if_neg c2]; simp

end Go.Proofs.Ytjhidlmaphdelaa.Pure
