/- FnDownSum: at every draw the program's DownTime returns what the reference's returns, and that is the sum of the times from each edge at which it is no longer heard (or from the beginning) to the next one (or to the end). No condition. -/
import Derived.Test.YtjhidlmaphdelaaPAllx2
import Derived.Test.YtjhidlmaphdelaaPAllx5
import Derived.Test.YtjhidlmaphdelaaPAllx6
import Derived.Test.YtjhidlmaphdelaaPAllx8
import Derived.Test.YtjhidlmaphdelaaPAllx13
import Derived.Test.YtjhidlmaphdelaaPAllx15
import Derived.Test.YtjhidlmaphdelaaPAllx18
namespace Go.Proofs.Ytjhidlmaphdelaa.Pure
open Go.RowKit Go.Proofs.Ytjhidlmaphdelaa.PAll Go.Proofs.YtjhidlmaphdelaaW.PrintWords Go.Proofs.YtjhidlmaphdelaaW.PrintLast Go.Proofs.YtjhidlmaphdelaaW.PrintMore

/-- The sum of the times not heard, and the last edge's time, behind edges. -/
def foldE : Int → Int → List S39 → Int × Int
  | s, f, [] => (s, f)
  | s, f, e :: r => foldE (if e.f1 = true then s + e.f0 - f else s) e.f0 r
theorem foldE_snoc (l : List S39) : ∀ (s f : Int) (e : S39), foldE s f (l ++ [e]) = (if e.f1 = true then (foldE s f l).1 + e.f0 - (foldE s f l).2 else (foldE s f l).1, e.f0) := by
  induction l with
  | nil => exact fun s f e => rfl
  | cons x r ih => exact fun s f e => ih _ _ e
theorem edN_mem (l : List Int) (dead : Int) (n : Nat) : ∀ e ∈ edN l dead n, 0 ≤ e.f0 ∧ e.f0 < n := by
  induction n with
  | zero => intro e he; simp [edN] at he
  | succ n ih =>
    intro e he
    have e1 : edN l dead (n + 1) = if (heardB l dead n != wasN l dead n) = true then edN l dead n ++ [⟨n, heardB l dead n⟩] else edN l dead n := rfl
    rw [e1] at he
    split at he
    · rcases List.mem_append.1 he with h | h
      · have := ih e h; omega
      · rw [List.mem_singleton.1 h]
        show 0 ≤ (n : Int) ∧ (n : Int) < _
        omega
    · have := ih e he; omega
theorem foldE_is (l : List Int) (dead : Int) (n : Nat) : (wasN l dead n = true → (foldE 0 0 (edN l dead n)).1 = downN l dead n) ∧ (wasN l dead n = false → (foldE 0 0 (edN l dead n)).1 + (n - (foldE 0 0 (edN l dead n)).2) = downN l dead n) := by
  induction n with
  | zero => exact ⟨fun h => absurd (show false = true from h) (by decide), fun _ => rfl⟩
  | succ n ih =>
    have e0 : wasN l dead (n + 1) = heardB l dead n := rfl
    have e1 : edN l dead (n + 1) = if (heardB l dead n != wasN l dead n) = true then edN l dead n ++ [⟨n, heardB l dead n⟩] else edN l dead n := rfl
    have e2 : downN l dead (n + 1) = if heardB l dead n = true then downN l dead n else downN l dead n + 1 := rfl
    rw [e0, e1, e2]
    cases hh : heardB l dead n <;> cases hw : wasN l dead n
    · rw [if_neg (by decide), if_neg (by decide)]
      have := ih.2 hw
      exact ⟨fun h => absurd h (by decide), fun _ => by omega⟩
    · rw [if_pos (by decide), if_neg (by decide), foldE_snoc]
      have := ih.1 hw
      exact ⟨fun h => absurd h (by decide), fun _ => by simp; omega⟩
    · rw [if_pos (by decide), if_pos rfl, foldE_snoc]
      have := ih.2 hw
      exact ⟨fun _ => by simp; omega, fun h => absurd h (by decide)⟩
    · rw [if_neg (by decide), if_pos rfl]
      exact ⟨fun _ => ih.1 hw, fun h => absurd h (by decide)⟩
theorem sum_at (L : List Int) (dead t n : Int) (h0 : 0 ≤ t) (h1 : t ≤ 2000) (al : Bool) (hal : impl_AliveAt.f L dead t = some al) (l : List S39) (hl : l.length ≤ 2001) (hm : ∀ e ∈ l, 0 ≤ e.f0 ∧ e.f0 ≤ 2000) (d : Nat) :
    ∀ (k i : Nat) (s f : Int), i + d = l.length → d < k → -2000 * (i : Int) ≤ s → s ≤ 2000 * i → 0 ≤ f → f ≤ 2000 →
    laws_FnDownSum.l0 k L dead t n s f l l.length i = some (if al = true then (foldE s f (l.drop i)).1 == n else (foldE s f (l.drop i)).1 + t + 1 - (foldE s f (l.drop i)).2 == n) := by
  induction d with
  | zero =>
    intro k i s f h2 hk h3 h4 h5 h6
    obtain ⟨k, rfl⟩ : ∃ m, k = m + 1 := ⟨k - 1, by omega⟩
    simp only [laws_FnDownSum.l0]
    have e : l.drop i = [] := by rw [show i = l.length by omega, List.drop_length]
    have e2 : foldE s f [] = (s, f) := rfl
    rw [if_neg (by omega), hal, Option.bind_some, e, e2]
    cases al with
    | true => rw [if_pos rfl, if_pos rfl]
    | false => rw [if_neg (by decide), if_neg (by decide), wrap_eq (x := s + t) (by omega) (by omega), wrap_eq (x := s + t + 1) (by omega) (by omega), wrap_eq (by omega) (by omega)]
  | succ d ih =>
    intro k i s f h2 hk h3 h4 h5 h6
    obtain ⟨k, rfl⟩ : ∃ m, k = m + 1 := ⟨k - 1, by omega⟩
    simp only [laws_FnDownSum.l0]
    have hr := rdE_get l i (show i < l.length by omega)
    have hb := hm _ (List.getElem_mem (show i < l.length by omega))
    have e2 : foldE s f (l.drop i) = foldE (if l[i].f1 = true then s + l[i].f0 - f else s) l[i].f0 (l.drop (i + 1)) := by
      rw [List.drop_eq_getElem_cons (show i < l.length by omega)]
      rfl
    rw [if_pos (by omega), if_pos (by omega), if_pos (by omega), hr, e2, wrap_succ (show i < l.length by omega) (by omega)]
    by_cases c : l[i].f1 = true
    · rw [if_pos c, if_pos c, wrap_eq (x := s + l[i].f0) (by omega) (by omega), wrap_eq (by omega) (by omega), ih k (i + 1) _ _ (by omega) (by omega) (by omega) (by omega) hb.1 hb.2]
    · rw [if_neg c, if_neg c, ih k (i + 1) _ _ (by omega) (by omega) (by omega) (by omega) hb.1 hb.2]
theorem FnDownSum : laws_FnDownSum.Pure := by
  intro l0 _ _ hw
  obtain ⟨b, ho, hb⟩ := open_ok l0 hw
  obtain ⟨l, dead, t, p', hl, _, _, _, _, hd⟩ := l18Draw_ok hb (Int.le_refl 0) (by omega)
  have hdraw : ∀ k, 40 < k → spec_DrawDownTime.f k l0 = some (l, dead, t) := fun k hk => by
    unfold spec_DrawDownTime.f
    rw [ho, Option.bind_some]
    simp only []
    rw [hd k hk, Option.bind_some]
  suffices h : ∀ k, 4000 < k → laws_FnDownSum.f k l0 = some true from ⟨4001, h 4001 (by omega)⟩
  intro k hk
  obtain ⟨k, rfl⟩ : ∃ m, k = m + 1 := ⟨k - 1, by omega⟩
  unfold laws_FnDownSum.f
  by_cases hs : (l0.length : Int) > 1048576
  · rw [if_pos hs]
  rw [if_neg hs, hdraw _ (by omega), Option.bind_some]
  simp only []
  rw [idown_eq l dead t _ (by omega), Option.bind_some, sdown_eq l dead t (by omega) _ (by omega) (by omega), Option.bind_some, if_pos rfl]
  simp only [laws_FnDownSum.j0]
  cases hwt : watchB l dead t with
  | false =>
    have e : downF l dead t = -1 := by unfold downF; rw [hwt]; rfl
    rw [e, if_pos (by decide), sdown_eq l dead t (by omega) _ (by omega) (by omega), Option.bind_some, e]
    rfl
  | true =>
    obtain ⟨g1, g2, g3, g4, g5⟩ := watchB_len hwt
    obtain ⟨n, rfl⟩ := Int.eq_ofNat_of_zero_le g4
    have e : downF l dead n = (downN l dead (n + 1) : Int) := by unfold downF; rw [hwt, if_pos rfl, Int.toNat_natCast]
    have eE : edF l dead n = edN l dead (n + 1) := by unfold edF; rw [hwt, if_pos rfl, Int.toNat_natCast]
    have hA : impl_AliveAt.f l dead n = some (heardB l dead n) := by rw [ialive_eq, hwt, Bool.true_and]
    have hL := edN_len l dead (n + 1)
    have hs := sum_at l dead n (downN l dead (n + 1)) g4 g5 _ hA (edN l dead (n + 1)) (by omega) (fun x hx => by have := edN_mem l dead (n + 1) x hx; omega) (edN l dead (n + 1)).length k 0 0 0 (by omega) (by omega) (by omega) (by omega) (by omega) (by omega)
    rw [e, if_neg (by simp <;> omega), iedges_eq l dead n _ (by omega), Option.bind_some, eE]
    refine Eq.trans hs ?_
    have hf := foldE_is l dead (n + 1)
    have e0 : wasN l dead (n + 1) = heardB l dead n := rfl
    rw [e0] at hf
    rw [List.drop_zero]
    cases hh : heardB l dead n with
    | true =>
      rw [if_pos rfl, hf.1 hh]
      simp
    | false =>
      have := hf.2 hh
      rw [if_neg (by decide)]
      have e3 : (foldE 0 0 (edN l dead (n + 1))).1 + (n : Int) + 1 - (foldE 0 0 (edN l dead (n + 1))).2 = downN l dead (n + 1) := by omega
      rw [e3]
      simp

end Go.Proofs.Ytjhidlmaphdelaa.Pure
