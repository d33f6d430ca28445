-- Written by xprint.py, a program of this session, on the ground of the kit's print; hand-made parts: wip/x/ext.
import Derived.Test.YtjhidlmaphdelaaPAllx0
import Derived.Test.YtjhidlmaphdelaaPAllx1015
import Derived.Test.YtjhidlmaphdelaaPAllx1017
import Derived.Test.YtjhidlmaphdelaaPAllx1022
import Derived.Test.YtjhidlmaphdelaaPAllx1023
import Derived.Test.YtjhidlmaphdelaaPAllx1042
import Derived.Test.YtjhidlmaphdelaaPAllx1043
import Derived.Test.YtjhidlmaphdelaaPAllx1044
import Derived.Test.YtjhidlmaphdelaaPAllx1045
import Derived.Test.YtjhidlmaphdelaaPAllx1051
import Derived.Test.YtjhidlmaphdelaaPAllx1055
import Derived.Test.YtjhidlmaphdelaaPAllx85951
namespace Go.Proofs.Ytjhidlmaphdelaa.PAll
open Go.RowKit Go.Proofs.YtjhidlmaphdelaaW.PrintWords Go.Proofs.YtjhidlmaphdelaaW.PrintLast Go.Proofs.YtjhidlmaphdelaaW.PrintMore
attribute [local go_sem] max2_int min2_int max_two min_two max_three min_three max_four min_four   -- for this text's walks alone
set_option linter.unusedVariables false
set_option linter.unusedSimpArgs false

-- LIB p18
theorem within_is (n a b : Int) : impl_within.f n a b = some (decide (a ≤ n) && decide (n ≤ b)) := by
  unfold impl_within.f
  by_cases h : a ≤ n <;> simp [h]
theorem l1In_is (n a b : Int) : spec_l1In.f n a b = some (decide (a ≤ n) && decide (n ≤ b)) := by
  unfold spec_l1In.f
  by_cases h : a ≤ n <;> simp [h]
theorem hellos_at (l : List Int) (hl : l.length ≤ 9223372036854775807) (d : Nat) : ∀ (k i : Nat), 1 ≤ i → i + d = l.length → d < k → spec_HellosValid.l0 k l (i : Int) = some ((l.drop i).all clockB && ascB (l.drop (i - 1)) && decide (l.length ≤ 60)) := by
  induction d with
  | zero =>
    intro k i h1 h2 hk
    obtain ⟨k, rfl⟩ : ∃ m, k = m + 1 := ⟨k - 1, by omega⟩
    simp only [spec_HellosValid.l0]
    have e1 : l.drop i = [] := by rw [show i = l.length by omega, List.drop_length]
    have e2 : l.drop (i - 1 + 1) = [] := by rw [show i - 1 + 1 = l.length by omega, List.drop_length]
    rw [if_neg (by omega), e1, List.drop_eq_getElem_cons (show i - 1 < l.length by omega), e2]
    have e3 : ((l.length : Int) ≤ 60) = (l.length ≤ 60) := by apply propext; omega
    simp [ascB, e3]
  | succ d ih =>
    intro k i h1 h2 hk
    obtain ⟨k, rfl⟩ : ∃ m, k = m + 1 := ⟨k - 1, by omega⟩
    have e1 : wrap64 ((i : Int) - 1) = ((i - 1 : Nat) : Int) := by unfold wrap64; omega
    have ih' := ih k (i + 1) (by omega) (by omega) (by omega)
    simp only [spec_HellosValid.l0]
    rw [e1, wrap_succ (show i < l.length by omega) (by omega), if_pos (by omega), if_pos (by omega), if_pos (show (i : Int) > 0 by omega), if_pos (by omega), if_pos (by omega), ih', l1In_is]
    rw [rd_get l i (by omega), rd_get l (i - 1) (by omega), List.drop_eq_getElem_cons (show i - 1 < l.length by omega), show i - 1 + 1 = i by omega, List.drop_eq_getElem_cons (show i < l.length by omega), ascB, show i + 1 - 1 = i by omega, List.drop_eq_getElem_cons (show i < l.length by omega)]
    simp only [Option.bind_some, List.all_cons]
    cases hc : clockB l[i] with
    | false =>
      have : (decide (0 ≤ l[i]) && decide (l[i] ≤ 2000)) = false := hc
      rw [this]
      simp
    | true =>
      have : (decide (0 ≤ l[i]) && decide (l[i] ≤ 2000)) = true := hc
      rw [this, if_pos rfl]
      by_cases c : l[i - 1] ≥ l[i]
      · rw [if_pos c]; simp; intros; omega
      · rw [if_neg c, decide_eq_true (show l[i - 1] < l[i] by omega)]; simp
theorem hellos_eq (l : List Int) (hl : l.length ≤ 9223372036854775807) (k : Nat) (hk : l.length < k) : spec_HellosValid.f k l = some (hvB l) := by
  unfold spec_HellosValid.f hvB
  obtain ⟨k, rfl⟩ : ∃ m, k = m + 1 := ⟨k - 1, by omega⟩
  simp only [spec_HellosValid.l0]
  match l, hl, hk with
  | [], _, _ => rfl
  | x :: t, hl, hk =>
    have h1 := hellos_at (x :: t) hl t.length k 1 (by omega) (by simp; omega) (by simp at hk; omega)
    rw [if_pos (by simp only [List.length_cons]; omega), if_pos (by omega), l1In_is, rd_get0 _ (by simp)]
    simp only [Option.bind_some, List.all_cons, List.getElem_cons_zero]
    cases hc : clockB x with
    | false =>
      have : (decide (0 ≤ x) && decide (x ≤ 2000)) = false := hc
      rw [this]
      simp
    | true =>
      have : (decide (0 ≤ x) && decide (x ≤ 2000)) = true := hc
      rw [this, if_pos rfl, if_neg (by decide), wrap_eq (by decide) (by decide)]
      refine Eq.trans h1 ?_
      simp only [List.drop_succ_cons, List.drop_zero, Nat.sub_self, Bool.true_and]
      cases t.all clockB <;> cases ascB (x :: t) <;> simp
/-- Heard at t, with a patience; and how many of the times ahead of n are not heard. -/
theorem alive_at (l : List Int) (dead t : Int) (hl : l.length ≤ 9223372036854775807) (d : Nat) : ∀ (k i : Nat), i + d = l.length → d < k → spec_l18Alive.l0 k l dead t (i : Int) = some (heardB (l.drop i) dead t) := by
  induction d with
  | zero =>
    intro k i h2 hk
    obtain ⟨k, rfl⟩ : ∃ m, k = m + 1 := ⟨k - 1, by omega⟩
    simp only [spec_l18Alive.l0]
    rw [if_neg (by omega), show i = l.length by omega, List.drop_length]
    rfl
  | succ d ih =>
    intro k i h2 hk
    obtain ⟨k, rfl⟩ : ∃ m, k = m + 1 := ⟨k - 1, by omega⟩
    simp only [spec_l18Alive.l0]
    rw [if_pos (by omega), if_pos (by omega), rd_get l i (by omega), wrap_succ (show i < l.length by omega) (by omega), ih k (i + 1) (by omega) (by omega), List.drop_eq_getElem_cons (show i < l.length by omega)]
    have e : heardB (l[i] :: l.drop (i + 1)) dead t = ((decide (l[i] ≤ t) && decide (t < wrap64 (l[i] + dead))) || heardB (l.drop (i + 1)) dead t) := rfl
    rw [e]
    by_cases c1 : l[i] ≤ t
    · rw [if_pos c1]
      by_cases c2 : t < wrap64 (l[i] + dead)
      · rw [if_pos c2]; simp [c1, c2]
      · rw [if_neg c2]; simp [c1, c2]
    · rw [if_neg c1]; simp [c1]
theorem alive_eq (l : List Int) (dead t : Int) (hl : l.length ≤ 9223372036854775807) (k : Nat) (hk : l.length < k) : spec_l18Alive.f k l dead t = some (heardB l dead t) :=
  alive_at l dead t hl l.length k 0 (by omega) hk
def watchB (l : List Int) (dead t : Int) : Bool := hvB l && ((decide (1 ≤ dead) && decide (dead ≤ 50)) && clockB t)
theorem watch_eq (l : List Int) (dead t : Int) : impl_watch.f l dead t = some (watchB l dead t) := by
  unfold impl_watch.f watchB
  rw [show impl_HellosValid.f l = some (hvB l) from rfl, within_is, isClock_eq]
  cases hvB l <;> simp only [Option.bind_some, Bool.false_and, Bool.true_and, if_true, Bool.false_eq_true, if_false]
  cases (decide (1 ≤ dead) && decide (dead ≤ 50)) <;> simp
theorem fits_eq (l : List Int) (dead t : Int) (hl : l.length ≤ 9223372036854775807) (k : Nat) (hk : l.length < k) : spec_l18Fits.f k l dead t = some (watchB l dead t) := by
  unfold spec_l18Fits.f watchB
  rw [hellos_eq l hl k hk, l1In_is, l1In_is]
  cases hvB l <;> simp only [Option.bind_some, Bool.false_and, Bool.true_and, if_true, Bool.false_eq_true, if_false]
  cases (decide (1 ≤ dead) && decide (dead ≤ 50)) <;> simp [clockB]
theorem watchB_len {l : List Int} {dead t : Int} (h : watchB l dead t = true) : l.length ≤ 60 ∧ 1 ≤ dead ∧ dead ≤ 50 ∧ 0 ≤ t ∧ t ≤ 2000 := by
  unfold watchB hvB clockB at h
  simp at h
  omega
def downN (l : List Int) (dead : Int) : Nat → Nat
  | 0 => 0
  | n + 1 => if heardB l dead n = true then downN l dead n else downN l dead n + 1
theorem downN_le (l : List Int) (dead : Int) (n : Nat) : downN l dead n ≤ n := by
  induction n with
  | zero => exact Nat.le_refl _
  | succ n ih => unfold downN; split <;> omega
def downF (l : List Int) (dead t : Int) : Int := if watchB l dead t = true then (downN l dead (t.toNat + 1) : Int) else -1
theorem idown_at (l : List Int) (dead : Int) (e : Nat) (he : e ≤ 4000) (d : Nat) : ∀ (k i : Nat), i + d = e → d < k → impl_DownTime.l0 k l dead (downN l dead i) e i = some (downN l dead e : Int) := by
  induction d with
  | zero =>
    intro k i h2 hk
    obtain ⟨k, rfl⟩ : ∃ m, k = m + 1 := ⟨k - 1, by omega⟩
    simp only [impl_DownTime.l0]
    rw [if_neg (by omega), show i = e by omega]
  | succ d ih =>
    intro k i h2 hk
    obtain ⟨k, rfl⟩ : ∃ m, k = m + 1 := ⟨k - 1, by omega⟩
    have h1 := downN_le l dead i
    have ih' := ih k (i + 1) (by omega) (by omega)
    simp only [impl_DownTime.l0]
    rw [if_pos (by omega), show impl_heard.f l dead i = some (heardB l dead i) from rfl, Option.bind_some, wrap_succ (show i < e by omega) (by omega), wrap_eq (by omega) (by omega)]
    cases hh : heardB l dead i with
    | true =>
      rw [if_pos rfl]
      rw [show downN l dead (i + 1) = downN l dead i from if_pos hh] at ih'
      exact ih'
    | false =>
      rw [if_neg (by decide)]
      rw [show downN l dead (i + 1) = downN l dead i + 1 from if_neg (by rw [hh]; decide)] at ih'
      exact ih'
theorem idown_eq (l : List Int) (dead t : Int) (k : Nat) (hk : 2002 < k) : impl_DownTime.f k l dead t = some (downF l dead t) := by
  unfold impl_DownTime.f downF
  rw [watch_eq, Option.bind_some]
  cases hw : watchB l dead t with
  | false => rfl
  | true =>
    obtain ⟨_, _, _, h0, h1⟩ := watchB_len hw
    obtain ⟨n, rfl⟩ := Int.eq_ofNat_of_zero_le h0
    rw [if_pos rfl, if_pos rfl, wrap_eq (by omega) (by omega), Int.toNat_natCast]
    exact idown_at l dead (n + 1) (by omega) (n + 1) k 0 (by omega) (by omega)
theorem sdown_at (l : List Int) (dead : Int) (hl : l.length ≤ 60) (e : Nat) (he : e ≤ 4000) (d : Nat) : ∀ (k i : Nat), i + d = e + 1 → d + 60 < k → spec_DownTime.l0 k l dead e (downN l dead i) i = some (downN l dead (e + 1) : Int) := by
  induction d with
  | zero =>
    intro k i h2 hk
    obtain ⟨k, rfl⟩ : ∃ m, k = m + 1 := ⟨k - 1, by omega⟩
    simp only [spec_DownTime.l0]
    rw [if_neg (by omega), show i = e + 1 by omega]
  | succ d ih =>
    intro k i h2 hk
    obtain ⟨k, rfl⟩ : ∃ m, k = m + 1 := ⟨k - 1, by omega⟩
    have h1 := downN_le l dead i
    have ih' := ih k (i + 1) (by omega) (by omega)
    simp only [spec_DownTime.l0]
    rw [if_pos (by omega), alive_eq l dead i (by omega) k (by omega), Option.bind_some, wrap_succ (show i < e + 1 by omega) (by omega), wrap_eq (by omega) (by omega)]
    cases hh : heardB l dead i with
    | true =>
      rw [if_pos rfl]
      rw [show downN l dead (i + 1) = downN l dead i from if_pos hh] at ih'
      exact ih'
    | false =>
      rw [if_neg (by decide)]
      rw [show downN l dead (i + 1) = downN l dead i + 1 from if_neg (by rw [hh]; decide)] at ih'
      exact ih'
theorem sdown_eq (l : List Int) (dead t : Int) (hl : l.length ≤ 9223372036854775807) (k : Nat) (hk : 2100 < k) (hk2 : l.length < k) : spec_DownTime.f k l dead t = some (downF l dead t) := by
  unfold spec_DownTime.f downF
  rw [fits_eq l dead t hl k hk2, Option.bind_some]
  cases hw : watchB l dead t with
  | false => rfl
  | true =>
    obtain ⟨h2, _, _, h0, h1⟩ := watchB_len hw
    obtain ⟨n, rfl⟩ := Int.eq_ofNat_of_zero_le h0
    rw [if_pos rfl, if_pos rfl, Int.toNat_natCast]
    exact sdown_at l dead h2 n (by omega) (n + 1) k 0 (by omega) (by omega)

end Go.Proofs.Ytjhidlmaphdelaa.PAll
