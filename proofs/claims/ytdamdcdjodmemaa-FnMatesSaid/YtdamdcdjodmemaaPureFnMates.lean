/- FnMates: at every draw the program's MatesOf returns what the reference's returns, NetValid too; each mate's mates have the station among them and are as many, mates are in one network, and none is the station itself. No condition. -/
import Derived.Test.YtdamdcdjodmemaaPAllx1
import Derived.Test.YtdamdcdjodmemaaPAllx2
import Derived.Test.YtdamdcdjodmemaaPAllx7
import Derived.Test.YtdamdcdjodmemaaPAllx8
import Derived.Test.YtdamdcdjodmemaaPAllx9
namespace Go.Proofs.Ytdamdcdjodmemaa.Pure
open Go.RowKit Go.Proofs.Ytdamdcdjodmemaa.PAll Go.Proofs.YtdamdcdjodmemaaW.PrintWords Go.Proofs.YtdamdcdjodmemaaW.PrintLast Go.Proofs.YtdamdcdjodmemaaW.PrintMore

theorem filM_less (c : Int → Bool) (s : Int) (hs : c s = true) (d : Nat) : ∀ i : Int, (i ≤ s ∧ s < i + d → (filM (fun x => decide (x ≠ s) && c x) d i).length + 1 = (filM c d i).length) ∧ (s < i → (filM (fun x => decide (x ≠ s) && c x) d i).length = (filM c d i).length) := by
  induction d with
  | zero => exact fun i => ⟨fun h => by omega, fun _ => rfl⟩
  | succ d ih =>
    intro i
    obtain ⟨i1, i2⟩ := ih (i + 1)
    rw [filM, filM]
    constructor
    · rintro ⟨h1, h2⟩
      by_cases e : i = s
      · subst e
        rw [if_neg (by simp), if_pos hs, List.length_cons, i2 (by omega)]
      · have := i1 ⟨by omega, by omega⟩
        rw [decide_eq_true e, Bool.true_and]
        by_cases q : c i = true
        · rw [if_pos q, if_pos q, List.length_cons, List.length_cons]; omega
        · rw [if_neg q, if_neg q]; omega
    · intro h
      have e : i ≠ s := by omega
      have := i2 (by omega)
      rw [decide_eq_true e, Bool.true_and]
      by_cases q : c i = true
      · rw [if_pos q, if_pos q, List.length_cons, List.length_cons]; omega
      · rw [if_neg q, if_neg q]; omega
/-- A mate's mates. -/
theorem mates_of {n : Int} {cs : List S51} {hs vs : List Int} {s o : Int} (h : o ∈ matesX n cs hs vs s) : netB n cs hs vs = true ∧ 0 ≤ s ∧ s < hs.length ∧ 0 ≤ o ∧ o < hs.length ∧ o ≠ s ∧ rd vs o = rd vs s ∧ s ∈ matesX n cs hs vs o ∧ (matesX n cs hs vs o).length = (matesX n cs hs vs s).length := by
  unfold matesX at h
  by_cases c : netB n cs hs vs = true ∧ 0 ≤ s ∧ s < hs.length
  · rw [if_pos c] at h
    obtain ⟨h1, h2, h3⟩ := (filM_mem _ _ _ _).1 h
    unfold mateB at h3
    simp only [Bool.and_eq_true, decide_eq_true_eq] at h3
    obtain ⟨g1, g2, g3⟩ := h3
    have co : netB n cs hs vs = true ∧ 0 ≤ o ∧ o < hs.length := ⟨c.1, h1, by omega⟩
    refine ⟨c.1, c.2.1, c.2.2, h1, by omega, g1, g2, ?_, ?_⟩
    · unfold matesX
      rw [if_pos co, filM_mem]
      refine ⟨c.2.1, by omega, ?_⟩
      unfold mateB
      simp only [Bool.and_eq_true, decide_eq_true_eq]
      exact ⟨fun e => g1 e.symm, g2.symm, g3.symm⟩
    · unfold matesX
      rw [if_pos co, if_pos c]
      have e1 := (filM_less (fun x => decide (rd vs x = rd vs s) && decide (rd (rootsL n.toNat cs) (rd hs x) = rd (rootsL n.toNat cs) (rd hs s))) s (by simp) hs.length 0).1 ⟨by omega, by omega⟩
      have e2 := (filM_less (fun x => decide (rd vs x = rd vs s) && decide (rd (rootsL n.toNat cs) (rd hs x) = rd (rootsL n.toNat cs) (rd hs s))) o (by simp [g2, g3]) hs.length 0).1 ⟨by omega, by omega⟩
      have e3 : filM (mateB n cs hs vs o) hs.length 0 = filM (fun x => decide (x ≠ o) && (decide (rd vs x = rd vs s) && decide (rd (rootsL n.toNat cs) (rd hs x) = rd (rootsL n.toNat cs) (rd hs s)))) hs.length 0 := filM_congr _ _ _ _ (fun x _ _ => by unfold mateB; rw [g2, g3])
      have e4 : filM (mateB n cs hs vs s) hs.length 0 = filM (fun x => decide (x ≠ s) && (decide (rd vs x = rd vs s) && decide (rd (rootsL n.toNat cs) (rd hs x) = rd (rootsL n.toNat cs) (rd hs s)))) hs.length 0 := rfl
      rw [e3, e4]; omega
  · rw [if_neg c] at h; cases h
theorem mates_loop (n : Int) (cs : List S51) (hs vs : List Int) (s : Int) (d : Nat) : ∀ (k i : Nat), i + d = (matesX n cs hs vs s).length → d + 100 < k → laws_FnMates.l0 k s (matesX n cs hs vs s) (matesX n cs hs vs s) (matesX n cs hs vs s).length (i : Int) n cs hs vs = some true := by
  have hx := matesX_len n cs hs vs s
  induction d with
  | zero =>
    intro k i h1 hk
    obtain ⟨k, rfl⟩ : ∃ m, k = m + 1 := ⟨k - 1, by omega⟩
    simp only [laws_FnMates.l0]
    rw [if_neg (by omega)]
  | succ d ih =>
    intro k i h1 hk
    obtain ⟨k, rfl⟩ : ∃ m, k = m + 1 := ⟨k - 1, by omega⟩
    have hi : i < (matesX n cs hs vs s).length := by omega
    obtain ⟨g1, g2, g3, g4, g5, g6, g7, g8, g9⟩ := mates_of (List.getElem_mem hi)
    have hv := (netB_facts g1).2.2.1
    have hxo := matesX_len n cs hs vs (matesX n cs hs vs s)[i]
    simp only [laws_FnMates.l0]
    rw [if_pos (by omega), if_pos (by omega), if_pos (by omega), rd_get _ i hi, imates_eq n cs hs vs _ k (by omega), Option.bind_some, wnHas_eq _ s (by omega) k (by omega), Option.bind_some, (hasL_iff _ _).2 g8, if_pos rfl, if_pos (by omega), if_pos g4, if_pos (by omega), if_pos g2, if_pos (by omega), if_pos g7, if_neg g6, wrap_succ hi (by omega)]
    exact ih k (i + 1) (by omega) (by omega)
theorem FnMates : laws_FnMates.Pure := by
  intro l0 _ _ hw
  obtain ⟨n, cs, hs, vs, s, q1, q2, q3, hd⟩ := drawMates_ok hw
  refine ⟨3001, ?_⟩
  unfold laws_FnMates.f
  by_cases c : (l0.length : Int) > 1048576
  · rw [if_pos c]
  have hx := matesX_len n cs hs vs s
  rw [if_neg c, hd _ (by omega), Option.bind_some]
  simp only []
  rw [imates_eq n cs hs vs s _ (by omega), Option.bind_some, smates_eq n cs hs vs s (by omega) _ (by omega), Option.bind_some, wnInts_eq _ _ (by omega) _ (by omega), Option.bind_some, if_pos (by simp), inet_eq, Option.bind_some, snet_eq n cs hs vs (by omega) (by omega) (by omega) _ (by omega), Option.bind_some]
  simp only [laws_FnMates.j0]
  rw [if_neg (by simp)]
  exact mates_loop n cs hs vs s (matesX n cs hs vs s).length 3000 0 (by omega) (by omega)

end Go.Proofs.Ytdamdcdjodmemaa.Pure
