/- FnRingOne: at every draw the program's OpenLinks and RingValid return what the reference's return; in a ring one link at least is not open, and with at most one cut just one, so that each station comes to all. No condition. -/
import Derived.Test.YtdnehickciaiiaaPAllx1
import Derived.Test.YtdnehickciaiiaaPAllx2
import Derived.Test.YtdnehickciaiiaaPAllx4
import Derived.Test.YtdnehickciaiiaaPAllx6
import Derived.Test.YtdnehickciaiiaaPAllx13
namespace Go.Proofs.Ytdnehickciaiiaa.Pure
open Go.RowKit Go.Proofs.Ytdnehickciaiiaa.PAll Go.Proofs.YtdnehickciaiiaaW.PrintWords Go.Proofs.YtdnehickciaiiaaW.PrintLast Go.Proofs.YtdnehickciaiiaaW.PrintMore

theorem one_loop {n h : Int} {c : List Int} (hv : ringB n h c = true) (d : Nat) : ∀ (k : Nat) (a : Int), 0 ≤ a → a + d = n → d + 100 < k → laws_FnRingOne.l0 k (openX n h c) n a n h c = some true := by
  have V := ringV_of hv
  have h3 := V.n3
  have h10 := V.n10
  have hl := V.len
  obtain ⟨o1, o2⟩ := open_len hv
  induction d with
  | zero =>
    intro k a h0 h1 hk
    obtain ⟨k, rfl⟩ : ∃ m, k = m + 1 := ⟨k - 1, by omega⟩
    simp only [laws_FnRingOne.l0]
    rw [if_neg (by omega), if_pos (by omega)]
    by_cases hc : c.length < 2
    · have := o2 hc
      rw [if_neg (by omega), wrap_eq (by omega) (by omega), show ((openX n h c).length : Int) = n - 1 by omega]
      simp
    · rw [if_pos (by omega)]
  | succ d ih =>
    intro k a h0 h1 hk
    obtain ⟨k, rfl⟩ : ∃ m, k = m + 1 := ⟨k - 1, by omega⟩
    have ih' := ih k (a + 1) (by omega) (by omega) (by omega)
    simp only [laws_FnRingOne.l0]
    rw [if_pos (by omega), wrap_eq (x := a + 1) (by omega) (by omega), ih']
    by_cases hc : c.length < 2
    · rw [if_pos (by omega), ireach_eq n h c a k (by omega), Option.bind_some, reach_all hv hc (a := a) (by omega), if_pos (by omega)]
    · rw [if_neg (by omega)]
theorem FnRingOne : laws_FnRingOne.Pure := by
  intro l0 _ _ hw
  obtain ⟨n, h, c, hc, hd⟩ := drawOpen_ok hw
  refine ⟨3001, ?_⟩
  unfold laws_FnRingOne.f
  by_cases hs : (l0.length : Int) > 1048576
  · rw [if_pos hs]
  have l1 := openX_len n h c
  obtain ⟨k, hk⟩ : ∃ k : Nat, 3001 = k + 1 := ⟨3000, rfl⟩
  rw [if_neg hs, hd _ (by omega), Option.bind_some]
  simp only []
  rw [iopens_eq n h c _ (by omega), Option.bind_some, sopens_eq n h c (by omega) _ (by omega), Option.bind_some, wnInts_eq _ _ (by omega) _ (by omega), Option.bind_some, if_pos (by simp), iring_eq, Option.bind_some, sring_eq n h c (by omega) _ (by omega), Option.bind_some, if_neg (by simp), Option.bind_some, hk]
  simp only [laws_FnRingOne.j0]
  cases hv : ringB n h c with
  | false =>
    have e : openX n h c = [] := by unfold openX; rw [hv, if_neg (by decide)]
    rw [if_pos (by decide), sopens_eq n h c (by omega) _ (by omega), Option.bind_some, e, wnInts_eq _ _ (by simp) _ (by simp; omega), Option.bind_some, if_pos (by simp), iring_eq, Option.bind_some, sring_eq n h c (by omega) _ (by omega), Option.bind_some, if_pos (by simp)]
    rfl
  | true =>
    have V := ringV_of hv
    have h3 := V.n3
    rw [if_neg (by decide)]
    exact one_loop hv n.toNat k 0 (by omega) (by omega) (by have := V.n10; omega)

end Go.Proofs.Ytdnehickciaiiaa.Pure
