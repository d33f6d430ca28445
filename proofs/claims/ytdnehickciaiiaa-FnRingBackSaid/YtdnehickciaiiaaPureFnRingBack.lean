/- FnRingBack: at every draw the program's PathIn returns what the reference's returns, and the way back is the way there, turned. No condition. -/
import Derived.Test.YtdnehickciaiiaaPAllx1
import Derived.Test.YtdnehickciaiiaaPAllx2
import Derived.Test.YtdnehickciaiiaaPAllx6
import Derived.Test.YtdnehickciaiiaaPAllx7
import Derived.Test.YtdnehickciaiiaaPAllx13
namespace Go.Proofs.Ytdnehickciaiiaa.Pure
open Go.RowKit Go.Proofs.Ytdnehickciaiiaa.PAll Go.Proofs.YtdnehickciaiiaaW.PrintWords Go.Proofs.YtdnehickciaiiaaW.PrintLast Go.Proofs.YtdnehickciaiiaaW.PrintMore

theorem back_loop (p q : List Int) (hl : p.length = q.length) (hm : p.length ≤ 20) (h : ∀ t (h1 : t < p.length) (h2 : q.length - 1 - t < q.length), q[q.length - 1 - t] = p[t]) (d : Nat) : ∀ (k i : Nat), i + d = p.length → d < k → laws_FnRingBack.l0 k q p p.length (i : Int) = some true := by
  induction d with
  | zero =>
    intro k i h1 hk
    obtain ⟨k, rfl⟩ : ∃ m, k = m + 1 := ⟨k - 1, by omega⟩
    simp only [laws_FnRingBack.l0]
    rw [if_neg (by omega)]
  | succ d ih =>
    intro k i h1 hk
    obtain ⟨k, rfl⟩ : ∃ m, k = m + 1 := ⟨k - 1, by omega⟩
    have e1 : wrap64 (wrap64 ((q.length : Int) - 1) - (i : Int)) = ((q.length - 1 - i : Nat) : Int) := by rw [wrap_eq (x := (q.length : Int) - 1) (by omega) (by omega), wrap_eq (by omega) (by omega)]; omega
    simp only [laws_FnRingBack.l0]
    rw [e1, if_pos (by omega), if_pos (by omega), if_pos (by omega), if_pos (by omega), if_pos (by omega), rd_get q (q.length - 1 - i) (by omega), rd_get p i (by omega), h i (by omega) (by omega), if_pos rfl, wrap_succ (show i < p.length by omega) (by omega)]
    exact ih k (i + 1) (by omega) (by omega)
theorem FnRingBack : laws_FnRingBack.Pure := by
  intro l0 _ _ hw
  obtain ⟨n, h, c, a, b, hc, hd⟩ := drawPath_ok hw
  refine ⟨3001, ?_⟩
  unfold laws_FnRingBack.f
  by_cases hs : (l0.length : Int) > 1048576
  · rw [if_pos hs]
  have l1 := pathX_len n h c a b
  have l2 := pathX_len n h c b a
  obtain ⟨g1, g2⟩ := path_back n h c a b
  rw [if_neg hs, hd _ (by omega), Option.bind_some]
  simp only []
  rw [ipathin_eq n h c a b _ (by omega), Option.bind_some, ipathin_eq n h c b a _ (by omega), Option.bind_some, spathin_eq n h c a b (by omega) _ (by omega), Option.bind_some, wnInts_eq _ _ (by omega) _ (by omega), Option.bind_some, if_pos (by simp), spathin_eq n h c b a (by omega) _ (by omega), Option.bind_some, wnInts_eq _ _ (by omega) _ (by omega), Option.bind_some, if_pos (by simp)]
  simp only [laws_FnRingBack.j0]
  rw [if_neg (by rw [g1]; simp)]
  exact back_loop _ _ g1 l1 g2 (pathX n h c a b).length 3000 0 (by omega) (by omega)

end Go.Proofs.Ytdnehickciaiiaa.Pure
