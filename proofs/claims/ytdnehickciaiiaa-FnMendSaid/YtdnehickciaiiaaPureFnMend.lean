/- FnMend: at every draw the program's MendLink returns what the reference's returns; a ring with a link mended has one cut less, not that one, and each station reaches all that it reached before. No condition. -/
import Derived.Test.YtdnehickciaiiaaPAllx1
import Derived.Test.YtdnehickciaiiaaPAllx2
import Derived.Test.YtdnehickciaiiaaPAllx5
import Derived.Test.YtdnehickciaiiaaPAllx9
import Derived.Test.YtdnehickciaiiaaPAllx12
import Derived.Test.YtdnehickciaiiaaPAllx16
import Derived.Test.YtdnehickciaiiaaPAllx20
import Derived.Test.YtdnehickciaiiaaPAllx22
namespace Go.Proofs.Ytdnehickciaiiaa.Pure
open Go.RowKit Go.Proofs.Ytdnehickciaiiaa.PAll Go.Proofs.YtdnehickciaiiaaW.PrintWords Go.Proofs.YtdnehickciaiiaaW.PrintLast Go.Proofs.YtdnehickciaiiaaW.PrintMore

theorem drawMend_ok {l0 : List Int} (h : ∀ x ∈ l0, (Lit.int .u8 x).wf = true) : ∃ n h c x, c.length ≤ 11 ∧ ∀ k, 20 < k → spec_DrawMendLink.f k l0 = some (n, h, c, x) := by
  obtain ⟨b, hb, hB⟩ := open_ok l0 h
  obtain ⟨n, h', c, x, y, p', q1, q2, q3, q4⟩ := l17Two_ok hB (show (0 : Int) ≤ 0 by omega) (by omega)
  by_cases c0 : (c.length : Int) > 0
  · obtain ⟨r1, _, _, _, e1⟩ := pick_ok hB 4 (show 0 ≤ p' by omega) (by omega)
    by_cases c1 : r1 > 0
    · obtain ⟨r2, g0, g1, _, e2⟩ := pick_ok hB (c.length : Int) (show 0 ≤ p' + 1 by omega) (by omega)
      have g2 := g1 (by omega)
      refine ⟨n, h', c, rd c r2, q1, fun k hk => ?_⟩
      unfold spec_DrawMendLink.f
      rw [hb, Option.bind_some]
      simp only []
      rw [q4 k hk, Option.bind_some]
      simp only []
      rw [if_pos c0, e1 k (by omega), Option.bind_some, if_pos c1]
      simp only []
      rw [e2 k (by omega), Option.bind_some, if_pos g0, if_pos g2]
    · refine ⟨n, h', c, x, q1, fun k hk => ?_⟩
      unfold spec_DrawMendLink.f
      rw [hb, Option.bind_some]
      simp only []
      rw [q4 k hk, Option.bind_some]
      simp only []
      rw [if_pos c0, e1 k (by omega), Option.bind_some, if_neg c1]
  · refine ⟨n, h', c, x, q1, fun k hk => ?_⟩
    unfold spec_DrawMendLink.f
    rw [hb, Option.bind_some]
    simp only []
    rw [q4 k hk, Option.bind_some]
    simp only []
    rw [if_neg c0]
theorem mend_l1 (x4 : Int) (now : List Int) (n h : Int) (c : List Int) (n2 h2 : Int) (c2 : List Int) (s : Int) (was : List Int) (hl : now.length ≤ 1000) (hw : was.length ≤ 1000) (hsub : ∀ x ∈ was, x ∈ now) (d : Nat) : ∀ (k i : Nat), i + d = was.length → d + 1001 < k →
    laws_FnMend.l1 k x4 now n s was (was.length : Int) (i : Int) n h c n2 h2 c2 = laws_FnMend.l0 (k - d - 1) x4 n (wrap64 (s + 1)) n h c n2 h2 c2 := by
  induction d with
  | zero =>
    intro k i h1 hk
    obtain ⟨k, rfl⟩ : ∃ m, k = m + 1 := ⟨k - 1, by omega⟩
    simp only [laws_FnMend.l1]
    rw [if_neg (by omega)]
    rfl
  | succ d ih =>
    intro k i h1 hk
    obtain ⟨k, rfl⟩ : ∃ m, k = m + 1 := ⟨k - 1, by omega⟩
    have hi : i < was.length := by omega
    simp only [laws_FnMend.l1]
    rw [if_pos (by omega), if_pos (by omega), if_pos (by omega), rd_get was i hi, wnHas_eq now _ (by omega) k (by omega), Option.bind_some, (hasL_iff _ _).2 (hsub _ (List.getElem_mem hi)), if_pos rfl, wrap_succ hi (by omega), ih k (i + 1) (by omega) (by omega), show k + 1 - (d + 1) - 1 = k - d - 1 by omega]
theorem mend_l0 {n h : Int} {c : List Int} {a : Int} (hv : ringB n h c = true) (hc : hasL c a = true) (d : Nat) : ∀ (k : Nat) (s : Int), 0 ≤ s → s + d = n → d * 30 + 2000 < k →
    laws_FnMend.l0 k a n s n h c n h (c.filter (fun x => !(x == a))) = some true := by
  have V := ringV_of hv
  have hl := V.len
  have hn := V.n10
  obtain ⟨f1, f2⟩ := mend_len hv hc
  induction d with
  | zero =>
    intro k s h0 h1 hk
    obtain ⟨k, rfl⟩ : ∃ m, k = m + 1 := ⟨k - 1, by omega⟩
    simp only [laws_FnMend.l0]
    rw [if_neg (by omega), if_pos (by rw [wrap_eq (by omega) (by omega)]; omega), wnHas_eq _ a (by omega) k (by omega), Option.bind_some, f2]
    rfl
  | succ d ih =>
    intro k s h0 h1 hk
    obtain ⟨k, rfl⟩ : ∃ m, k = m + 1 := ⟨k - 1, by omega⟩
    have l1 := reachX_len n h c s
    have l2 := reachX_len n h (c.filter (fun x => !(x == a))) s
    simp only [laws_FnMend.l0]
    rw [if_pos (by omega), ireach_eq n h _ s k (by omega), Option.bind_some, ireach_eq n h c s k (by omega), Option.bind_some]
    have e := mend_l1 a (reachX n h (c.filter (fun x => !(x == a))) s) n h c n h (c.filter (fun x => !(x == a))) s (reachX n h c s) (by omega) (by omega) (fun x hx => reach_more hv hx) (reachX n h c s).length k 0 (by omega) (by omega)
    refine e.trans ?_
    rw [wrap_eq (by omega) (by omega)]
    exact ih _ (s + 1) (by omega) (by omega) (by omega)
theorem FnMend : laws_FnMend.Pure := by
  intro l0 _ _ hw
  obtain ⟨n, h, c, a, hc, hd⟩ := drawMend_ok hw
  refine ⟨4001, ?_⟩
  unfold laws_FnMend.f
  by_cases hs : (l0.length : Int) > 1048576
  · rw [if_pos hs]
  have hx := mendX_len n h c a
  rw [if_neg hs, hd _ (by omega), Option.bind_some]
  simp only []
  rw [imend_eq n h c a (by omega) _ (by omega), Option.bind_some, smend_eq n h c a (by omega) _ (by omega), Option.bind_some]
  simp only []
  rw [if_neg (by simp), if_pos (by trivial), if_pos (by trivial), wnInts_eq _ _ (by omega) _ (by omega), Option.bind_some, if_pos (by simp)]
  simp only [laws_FnMend.j0]
  by_cases hh : (ringB n h c && hasL c a) = true
  · have e : mendX n h c a = (n, h, c.filter (fun x => !(x == a)), true) := by unfold mendX; rw [if_pos hh]
    simp only [Bool.and_eq_true] at hh
    have V := ringV_of hh.1
    have h3 := V.n3
    have h10 := V.n10
    rw [e]
    simp only []
    rw [if_neg (by decide)]
    exact mend_l0 hh.1 hh.2 n.toNat 4000 0 (by omega) (by omega) (by omega)
  · have e : mendX n h c a = (0, 0, [], false) := by unfold mendX; rw [if_neg hh]
    rw [e]
    simp only []
    rw [if_pos (by decide), if_pos (by decide), if_pos (by trivial), if_pos (by trivial), wnInts_eq _ _ (by simp) _ (by simp), Option.bind_some]
    simp

end Go.Proofs.Ytdnehickciaiiaa.Pure
