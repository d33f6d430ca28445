/- FnTokens: at every draw the program's TokensAt returns what the reference's returns; tokens are never below nothing nor more than the burst, and a step later there are a rate more of them, less what the frames of that time take. No condition. -/
import Derived.Test.YtfbicfnokibobaaPAllx1
import Derived.Test.YtfbicfnokibobaaPAllx2
import Derived.Test.YtfbicfnokibobaaPAllx3
import Derived.Test.YtfbicfnokibobaaPAllx4
namespace Go.Proofs.Ytfbicfnokibobaa.Pure
open Go.RowKit Go.Proofs.Ytfbicfnokibobaa.PAll Go.Proofs.YtfbicfnokibobaaW.PrintWords Go.Proofs.YtfbicfnokibobaaW.PrintLast Go.Proofs.YtfbicfnokibobaaW.PrintMore

theorem tok_loop (r b : Int) (l : List S35) (at_ n : Int) (th : List Bool) (hth : th.length = l.length) (hl : l.length ≤ 1000) (hf : fromB 0 l = true) (d : Nat) : ∀ (k i : Nat) (x : Int), i + d = l.length → d < k → 0 ≤ x → x ≤ 50 * i → laws_FnTokens.l0 k r b l at_ n x th th.length (i : Int) = some (n == wrap64 (mn b (wrap64 (tokF r b l (wrap64 (at_ - 1)) + r)) - (x + takenL at_ (l.drop i) (th.drop i)))) := by
  have hall : ∀ p ∈ l, 1 ≤ p.f1 ∧ p.f1 ≤ 50 := by
    have key : ∀ (l : List S35) (a : Int), fromB a l = true → ∀ p ∈ l, 1 ≤ p.f1 ∧ p.f1 ≤ 50 := by
      intro l
      induction l with
      | nil => intro a _ p hp; simp at hp
      | cons q l ih =>
        intro a h p hp
        obtain ⟨_, _, _, f4, f5, f6⟩ := fromB_cons h
        rcases List.mem_cons.1 hp with e | e
        · rw [e]; exact ⟨f4, f5⟩
        · exact ih q.f0 f6 p e
    exact key l 0 hf
  induction d with
  | zero =>
    intro k i x h hk h0 h1
    obtain ⟨k, rfl⟩ : ∃ m, k = m + 1 := ⟨k - 1, by omega⟩
    have e : impl_TokensAt.f r b l (wrap64 (at_ - 1)) = some (tokF r b l (wrap64 (at_ - 1))) := rfl
    simp only [laws_FnTokens.l0]
    rw [if_neg (by omega), e, Option.bind_some, show i = l.length by omega, List.drop_length]
    simp [takenL]
  | succ d ih =>
    intro k i x h hk h0 h1
    obtain ⟨k, rfl⟩ : ∃ m, k = m + 1 := ⟨k - 1, by omega⟩
    have hp := hall l[i] (List.getElem_mem _)
    simp only [laws_FnTokens.l0]
    rw [if_pos (by omega), if_pos (by omega), if_pos (by omega), rdB_get th i (by omega), rdP_get l i (by omega), wrap_succ (show i < l.length by omega) (by omega), List.drop_eq_getElem_cons (show i < l.length by omega), List.drop_eq_getElem_cons (show i < th.length by omega), takenL]
    by_cases c : th[i] = true
    · rw [if_pos c, if_pos (by omega)]
      by_cases c2 : l[i].f0 = at_
      · rw [if_pos c2, if_pos ⟨c2, c⟩, wrap_eq (x := x + l[i].f1) (by omega) (by omega), ih k (i + 1) _ (by omega) (by omega) (by omega) (by omega), Int.add_assoc]
      · rw [if_neg c2, if_neg (fun hh => c2 hh.1), ih k (i + 1) _ (by omega) (by omega) (by omega) (by omega), Int.zero_add]
    · rw [if_neg c, if_neg (fun hh => c hh.2), ih k (i + 1) _ (by omega) (by omega) (by omega) (by omega), Int.zero_add]
theorem FnTokens : laws_FnTokens.Pure := by
  intro l0 _ _ hw
  obtain ⟨r, b, l, a, hl, ha, hd⟩ := drawTok_ok hw
  refine ⟨300000, ?_⟩
  unfold laws_FnTokens.f
  by_cases hs : (l0.length : Int) > 1048576
  · rw [if_pos hs]
  have e0 : impl_TokensAt.f r b l a = some (tokF r b l a) := rfl
  rw [if_neg hs, hd _ (by omega), Option.bind_some]
  simp only []
  rw [e0, Option.bind_some, stok_eq r b l a hl _ (by omega), Option.bind_some, if_pos rfl]
  obtain ⟨k, hk⟩ : ∃ k : Nat, 300000 = k + 1 := ⟨299999, rfl⟩
  rw [hk]
  simp only [laws_FnTokens.j0]
  by_cases c : fitsB r b l = true ∧ 0 ≤ a ∧ a ≤ 2000
  · obtain ⟨n, hn⟩ := Int.eq_ofNat_of_zero_le c.2.1
    obtain ⟨e1, e2, e3⟩ := tok_run c.1 n hn c.2.2
    rw [decide_eq_false (by omega), if_neg (by decide), if_neg (by omega)]
    cases n with
    | zero => rw [if_pos (by omega)]
    | succ n =>
      have hp : polF r b l = polL r b b 0 l := by unfold polF; rw [if_pos c.1]
      have hlen : (polL r b b 0 l).length = l.length := polL_len r b l b 0
      obtain ⟨f1, f2, f3, f4, f5, f6⟩ := fitsB_facts c.1
      obtain ⟨g1, g2, g3⟩ := tok_run (at_ := a - 1) c.1 n (by omega) (by omega)
      rw [if_neg (by omega), ipol_eq, Option.bind_some, hp]
      have e := tok_loop r b l a (tokF r b l a) (polL r b b 0 l) hlen (by omega) (pv_from f1) l.length k 0 0 (by omega) (by omega) (by omega) (by omega)
      rw [List.drop_zero, List.drop_zero, wrap_eq (x := a - 1) (by omega) (by omega)] at e
      refine Eq.trans e ?_
      have ht := takenL_le a l (polL r b b 0 l) 0 (pv_from f1)
      have hm : mn b (tokF r b l (a - 1) + r) ≤ 100 ∧ 0 ≤ mn b (tokF r b l (a - 1) + r) := by rw [mn_eq]; split <;> omega
      have hrun : tokF r b l a = mn b (tokF r b l (a - 1) + r) - takenL a l (polL r b b 0 l) := by
        rw [e1, runT_succ, ← g1, wrap_eq (by omega) (by omega), show (0 : Int) + n + 1 = a by omega]
        exact decW_taken a l _ _ 0 (pv_from f1) (by omega) (by omega)
      rw [wrap_eq (x := tokF r b l (a - 1) + r) (by omega) (by omega), wrap_eq (by omega) (by omega), Int.zero_add, ← hrun]
      simp
  · have e1 : tokF r b l a = -1 := by
      unfold tokF
      rw [if_neg (fun hh => c (by simpa using hh))]
    rw [e1, if_pos (by decide), stok_eq r b l a hl _ (by omega), Option.bind_some, e1]
    rfl

end Go.Proofs.Ytfbicfnokibobaa.Pure
