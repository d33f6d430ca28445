/- FnEdges: at every draw the program's EdgesOf returns what the reference's returns; its times ascend, it is heard and not heard by turns, and AliveAt tells the same between two edges. No condition. -/
import Derived.Test.YtjhidlmaphdelaaPAllx1
import Derived.Test.YtjhidlmaphdelaaPAllx2
import Derived.Test.YtjhidlmaphdelaaPAllx5
import Derived.Test.YtjhidlmaphdelaaPAllx6
import Derived.Test.YtjhidlmaphdelaaPAllx8
import Derived.Test.YtjhidlmaphdelaaPAllx15
namespace Go.Proofs.Ytjhidlmaphdelaa.Pure
open Go.RowKit Go.Proofs.Ytjhidlmaphdelaa.PAll Go.Proofs.YtjhidlmaphdelaaW.PrintWords Go.Proofs.YtjhidlmaphdelaaW.PrintLast Go.Proofs.YtjhidlmaphdelaaW.PrintMore

/-- The edges from the time t on, of n times, where it was heard (or not) one step before. -/
def edFrom (l : List Int) (dead : Int) : Nat → Bool → Nat → List S39
  | _, _, 0 => []
  | t, v, n + 1 => if (heardB l dead t != v) = true then ⟨t, heardB l dead t⟩ :: edFrom l dead (t + 1) (heardB l dead t) n else edFrom l dead (t + 1) v n
theorem edN_from (l : List Int) (dead : Int) (d : Nat) : ∀ i, edN l dead i ++ edFrom l dead i (wasN l dead i) d = edN l dead (i + d) := by
  induction d with
  | zero => exact fun i => List.append_nil _
  | succ d ih =>
    intro i
    have e0 : wasN l dead (i + 1) = heardB l dead i := rfl
    have e1 : edN l dead (i + 1) = if (heardB l dead i != wasN l dead i) = true then edN l dead i ++ [⟨i, heardB l dead i⟩] else edN l dead i := rfl
    have e2 : edFrom l dead i (wasN l dead i) (d + 1) = if (heardB l dead i != wasN l dead i) = true then ⟨i, heardB l dead i⟩ :: edFrom l dead (i + 1) (heardB l dead i) d else edFrom l dead (i + 1) (wasN l dead i) d := rfl
    have ih' := ih (i + 1)
    rw [e0, e1] at ih'
    rw [e2, show i + (d + 1) = i + 1 + d by omega, ← ih']
    by_cases c : (heardB l dead i != wasN l dead i) = true
    · rw [if_pos c, if_pos c, List.append_assoc]; rfl
    · rw [if_neg c, if_neg c, not_bne c]
theorem inner_at (l : List Int) (dead T : Int) (L M N : List S39) (v v' : Bool) (ln i : Int) (e : Nat) (d : Nat) : ∀ (k f : Nat), f + d = e → d < k → (∀ u : Nat, f ≤ u → u < e → impl_AliveAt.f l dead u = some v) → e ≤ 3000 →
    laws_FnEdges.l1 k l dead T L M f v N ln i e v' = laws_FnEdges.l0 (k - d - 1) l dead T L M e v' N ln (wrap64 (i + 1)) := by
  induction d with
  | zero =>
    intro k f h1 hk ha he
    obtain ⟨k, rfl⟩ : ∃ m, k = m + 1 := ⟨k - 1, by omega⟩
    simp only [laws_FnEdges.l1]
    rw [if_neg (by omega), show f = e by omega]
    rfl
  | succ d ih =>
    intro k f h1 hk ha he
    obtain ⟨k, rfl⟩ : ∃ m, k = m + 1 := ⟨k - 1, by omega⟩
    simp only [laws_FnEdges.l1]
    rw [if_pos (by omega), ha f (by omega) (by omega), Option.bind_some, if_neg (by simp), wrap_succ (show f < 3001 by omega) (by omega), ih k (f + 1) (by omega) (by omega) (fun u hu => ha u (by omega)) he, show k + 1 - (d + 1) - 1 = k - d - 1 by omega]
theorem edges_at (l : List Int) (dead : Int) (T : Nat) (hT : T ≤ 2000) (L : List S39) (hL : L.length ≤ 3000) (hA : ∀ u : Nat, u ≤ T → impl_AliveAt.f l dead u = some (heardB l dead u)) (d : Nat) :
    ∀ (k i t f : Nat) (v : Bool), t + d = T + 1 → f ≤ t → f ≤ T → L.drop i = edFrom l dead t v d → (∀ u : Nat, f ≤ u → u < t → heardB l dead u = v) → (0 < i → f < t ∧ ∀ h : i - 1 < L.length, L[i - 1].f0 = f) → 4 * d + (t - f) + 2 ≤ k → i ≤ L.length →
    laws_FnEdges.l0 k l dead T L L f v L L.length i = some true := by
  induction d with
  | zero =>
    intro k i t f v h1 h2 h3 h4 h5 h6 hk hi
    obtain ⟨k, rfl⟩ : ∃ m, k = m + 1 := ⟨k - 1, by omega⟩
    have hlen : L.length ≤ i := by
      have : (L.drop i).length = 0 := by rw [h4]; rfl
      rw [List.length_drop] at this
      omega
    simp only [laws_FnEdges.l0]
    rw [if_neg (by omega), if_neg (by omega), if_neg (by omega), hA T (Nat.le_refl _), Option.bind_some, h5 T h3 (by omega)]
    simp
  | succ d ih =>
    intro k i t f v h1 h2 h3 h4 h5 h6 hk hi
    have e2 : edFrom l dead t v (d + 1) = if (heardB l dead t != v) = true then ⟨t, heardB l dead t⟩ :: edFrom l dead (t + 1) (heardB l dead t) d else edFrom l dead (t + 1) v d := rfl
    rw [e2] at h4
    by_cases c : (heardB l dead t != v) = true
    · rw [if_pos c] at h4
      obtain ⟨k, rfl⟩ : ∃ m, k = m + 1 := ⟨k - 1, by omega⟩
      obtain ⟨k, rfl⟩ : ∃ m, k = m + 1 := ⟨k - 1, by omega⟩
      have hlt : i < L.length := by
        have : (L.drop i).length = (edFrom l dead (t + 1) (heardB l dead t) d).length + 1 := by rw [h4]; rfl
        rw [List.length_drop] at this
        omega
      rw [List.drop_eq_getElem_cons hlt] at h4
      obtain ⟨e3, e4⟩ := List.cons.inj h4
      have hj : laws_FnEdges.j1 (k + 1) l dead T L L f v L L.length i false (L[i]).f0 (L[i]).f1 = some true := by
        simp only [laws_FnEdges.j1]
        rw [if_neg (by decide), e3]
        simp only []
        rw [inner_at l dead T L L L v _ L.length i t (t - f) k f (by omega) (by omega) (fun u hu1 hu2 => by rw [hA u (by omega), h5 u hu1 hu2]) (by omega), wrap_succ hlt (by omega)]
        refine ih _ (i + 1) (t + 1) t _ (by omega) (by omega) (by omega) e4 (fun u hu1 hu2 => by rw [show u = t by omega]) (fun _ => ⟨by omega, fun h => ?_⟩) (by omega) (by omega)
        show L[i].f0 = _
        rw [e3]
      simp only [laws_FnEdges.l0]
      have hv : ((L[i]).f1 == v) = false := by
        rw [e3]
        show (heardB l dead t == v) = false
        cases hh : heardB l dead t <;> cases v <;> first | rfl | (rw [hh] at c; exact absurd c (by decide))
      rw [if_pos (by omega), if_pos (by omega), if_pos (by omega), if_pos (by omega), rdE_get L i hlt, if_neg (by simp), if_neg (by rw [hv]; decide)]
      by_cases c3 : (i : Int) > 0
      · obtain ⟨g1, g2⟩ := h6 (by omega)
        have e5 : wrap64 ((i : Int) - 1) = ((i - 1 : Nat) : Int) := by rw [wrap_eq (by omega) (by omega)]; omega
        have e6 : (L[i]).f0 = (t : Int) := by rw [e3]
        rw [if_pos c3, e5, if_pos (by omega), if_pos (by omega), rdE_get L (i - 1) (by omega), g2 (by omega), decide_eq_false (by rw [e6]; omega)]
        exact hj
      · rw [if_neg c3]
        exact hj
    · rw [if_neg c] at h4
      exact ih k i (t + 1) f v (by omega) (by omega) h3 h4 (fun u hu1 hu2 => by
        rcases Nat.lt_or_ge u t with h | h
        · exact h5 u hu1 h
        · rw [show u = t by omega, ← not_bne c]) (fun h => ⟨by have := (h6 h).1; omega, (h6 h).2⟩) (by omega) hi
theorem FnEdges : laws_FnEdges.Pure := by
  intro l0 _ _ hw
  obtain ⟨b, ho, hb⟩ := open_ok l0 hw
  obtain ⟨l, dead, t, p', hl, _, _, _, _, hd⟩ := l18Draw_ok hb (Int.le_refl 0) (by omega)
  have hdraw : ∀ k, 40 < k → spec_DrawEdgesOf.f k l0 = some (l, dead, t) := fun k hk => by
    unfold spec_DrawEdgesOf.f
    rw [ho, Option.bind_some]
    simp only []
    rw [hd k hk, Option.bind_some]
  suffices h : ∀ k, 14000 < k → laws_FnEdges.f k l0 = some true from ⟨14001, h 14001 (by omega)⟩
  intro k hk
  unfold laws_FnEdges.f
  by_cases hs : (l0.length : Int) > 1048576
  · rw [if_pos hs]
  rw [if_neg hs, hdraw _ (by omega), Option.bind_some]
  simp only []
  rw [iedges_eq l dead t _ (by omega), Option.bind_some, sedges_eq l dead t (by omega) _ (by omega) (by omega), Option.bind_some, if_pos rfl]
  cases hwt : watchB l dead t with
  | false =>
    have eE : edF l dead t = [] := by unfold edF; rw [hwt]; rfl
    obtain ⟨k, rfl⟩ : ∃ m, k = m + 1 := ⟨k - 1, by omega⟩
    rw [eE]
    simp only [laws_FnEdges.l0]
    rw [if_neg (by simp)]
    by_cases c1 : t < 0
    · rw [if_pos c1]
    rw [if_neg c1]
    by_cases c2 : t > 2000
    · rw [if_pos c2]
    rw [if_neg c2, ialive_eq, hwt, Option.bind_some]
    rfl
  | true =>
    obtain ⟨g1, g2, g3, g4, g5⟩ := watchB_len hwt
    have hv : hvB l = true := by unfold watchB at hwt; simp at hwt; exact hwt.1
    obtain ⟨n, rfl⟩ := Int.eq_ofNat_of_zero_le g4
    have eE : edF l dead n = edN l dead (n + 1) := by unfold edF; rw [hwt, if_pos rfl, Int.toNat_natCast]
    have hL := edN_len l dead (n + 1)
    have hA : ∀ u : Nat, u ≤ n → impl_AliveAt.f l dead u = some (heardB l dead u) := fun u hu => by
      have : watchB l dead u = true := by unfold watchB clockB; rw [hv]; simp; omega
      rw [ialive_eq, this, Bool.true_and]
    have hfr := edN_from l dead (n + 1) 0
    rw [eE]
    exact edges_at l dead n (by omega) (edN l dead (n + 1)) (by omega) hA (n + 1) k 0 0 0 false (by omega) (by omega) (by omega) (by rw [List.drop_zero]; simpa [edN, wasN] using hfr.symm) (fun u _ hu => by omega) (fun h => by omega) (by omega) (by omega)

end Go.Proofs.Ytjhidlmaphdelaa.Pure
