/- Proved here: contracts of functions of the given program, or lemmas on them, for the laws of this seat. Written by xprint.py, a program of this session, on the ground of the kit's print; parts by hand: wip/x/ext. -/
import Derived.Test.YtdamdcdjodmemaaPAllx0
import Derived.Test.YtdamdcdjodmemaaPAllx1
import Derived.Test.YtdamdcdjodmemaaPAllx2
import Derived.Test.YtdamdcdjodmemaaPAllx3
namespace Go.Proofs.Ytdamdcdjodmemaa.PAll
open Go.RowKit Go.Proofs.YtdamdcdjodmemaaW.PrintWords Go.Proofs.YtdamdcdjodmemaaW.PrintLast Go.Proofs.YtdamdcdjodmemaaW.PrintMore
attribute [local go_sem] max2_int min2_int max_two min_two max_three min_three max_four min_four   -- for this text's walks alone
set_option linter.unusedVariables false
set_option linter.unusedSimpArgs false

-- LIB joined
/-- A place is in a set of places. -/
def memB (s : List Bool) (i : Nat) : Prop := s[i]? = some true
/-- A cable brings the other end into a set that has one. -/
def relB (s : List Bool) (c : S51) : List Bool := if rdOf false s c.f0 = true ∨ rdOf false s c.f1 = true then (s.set c.f0.toNat true).set c.f1.toNat true else s
def passB (cs : List S51) : Nat → List Bool → List Bool
  | 0, s => s
  | k + 1, s => cs.foldl relB (passB cs k s)
/-- The bridges to which a bridge is joined. -/
def jnB (cs : List S51) (N x : Nat) : List Bool := passB cs N ((List.replicate N false).set x true)
def CabOk (cs : List S51) (N : Nat) : Prop := ∀ c ∈ cs, 0 ≤ c.f0 ∧ c.f0 < N ∧ 0 ≤ c.f1 ∧ c.f1 < N
/-- No cable leads out of it. -/
def ClosedP (cs : List S51) (P : Nat → Prop) : Prop := ∀ c ∈ cs, P c.f0.toNat ↔ P c.f1.toNat
theorem rdB_mem (s : List Bool) (x : Int) : rdOf false s x = true ↔ memB s x.toNat := by
  unfold rdOf memB
  rw [List.getD_eq_getElem?_getD]
  cases s[x.toNat]? with
  | none => simp
  | some b => simp
theorem relB_len (s : List Bool) (c : S51) : (relB s c).length = s.length := by unfold relB; split <;> simp
theorem foldB_len (cs : List S51) : ∀ s, (cs.foldl relB s).length = s.length := by
  induction cs with
  | nil => exact fun _ => rfl
  | cons c cs ih => intro s; rw [List.foldl_cons, ih, relB_len]
theorem passB_len (cs : List S51) (k : Nat) (s : List Bool) : (passB cs k s).length = s.length := by
  induction k with
  | zero => rfl
  | succ k ih => rw [passB, foldB_len, ih]
theorem memB_set (s : List Bool) (j i : Nat) (hj : j < s.length) : memB (s.set j true) i ↔ memB s i ∨ i = j := by
  unfold memB
  rw [List.getElem?_set]
  by_cases e : j = i
  · subst e
    rw [if_pos rfl, if_pos hj]; simp
  · rw [if_neg e]
    exact ⟨Or.inl, fun h => h.resolve_right (fun x => e x.symm)⟩
theorem relB_mem (s : List Bool) (c : S51) (h0 : c.f0.toNat < s.length) (h1 : c.f1.toNat < s.length) (i : Nat) : memB (relB s c) i ↔ memB s i ∨ ((i = c.f0.toNat ∨ i = c.f1.toNat) ∧ (memB s c.f0.toNat ∨ memB s c.f1.toNat)) := by
  unfold relB
  split
  · rename_i h
    rw [rdB_mem, rdB_mem] at h
    rw [memB_set _ _ _ (by rw [List.length_set]; exact h1), memB_set _ _ _ h0]
    simp only [h, and_true]
    exact or_assoc
  · rename_i h
    rw [rdB_mem, rdB_mem] at h
    simp only [h, and_false, or_false]
theorem setB_count (s : List Bool) (j : Nat) (hj : j < s.length) : s.count true ≤ (s.set j true).count true ∧ ((s.set j true).count true = s.count true → s.set j true = s) := by
  have e := List.count_set (a := true) (b := true) hj
  by_cases h : s[j] = true
  · have e2 : s.set j true = s := by
      apply List.ext_getElem (by simp)
      intro n _ h2
      rw [List.getElem_set]
      split
      · rename_i q; subst q; exact h.symm
      · rfl
    rw [e2]; exact ⟨Nat.le_refl _, fun _ => rfl⟩
  · have h' : (s[j] == true) = false := by simpa using h
    rw [h'] at e
    simp at e
    rw [e]
    exact ⟨by omega, fun x => by omega⟩
theorem relB_count (s : List Bool) (c : S51) (h0 : c.f0.toNat < s.length) (h1 : c.f1.toNat < s.length) : s.count true ≤ (relB s c).count true ∧ ((relB s c).count true = s.count true → relB s c = s) := by
  unfold relB
  split
  · obtain ⟨a1, a2⟩ := setB_count s _ h0
    obtain ⟨b1, b2⟩ := setB_count (s.set c.f0.toNat true) c.f1.toNat (by rw [List.length_set]; exact h1)
    refine ⟨by omega, fun e => ?_⟩
    rw [b2 (by omega), a2 (by omega)]
  · exact ⟨Nat.le_refl _, fun _ => rfl⟩
theorem foldB_count {N : Nat} (cs : List S51) (hc : CabOk cs N) : ∀ s : List Bool, s.length = N → s.count true ≤ (cs.foldl relB s).count true ∧ ((cs.foldl relB s).count true = s.count true → ∀ c ∈ cs, relB s c = s) := by
  induction cs with
  | nil => exact fun s _ => ⟨Nat.le_refl _, fun _ c hc => by cases hc⟩
  | cons c cs ih =>
    intro s hs
    obtain ⟨g1, g2, g3, g4⟩ := hc c (List.mem_cons_self)
    obtain ⟨r1, r2⟩ := relB_count s c (by omega) (by omega)
    obtain ⟨i1, i2⟩ := ih (fun x hx => hc x (List.mem_cons_of_mem _ hx)) (relB s c) (by rw [relB_len]; exact hs)
    rw [List.foldl_cons]
    refine ⟨by omega, fun e x hx => ?_⟩
    have e1 := r2 (by omega)
    rw [e1] at i2
    rcases List.mem_cons.1 hx with rfl | hx
    · exact e1
    · exact i2 (by rw [e1] at e; exact e) x hx
theorem foldB_fix (cs : List S51) (s : List Bool) (h : ∀ c ∈ cs, relB s c = s) : cs.foldl relB s = s := by
  induction cs with
  | nil => rfl
  | cons c cs ih => rw [List.foldl_cons, h c List.mem_cons_self]; exact ih (fun x hx => h x (List.mem_cons_of_mem _ hx))
theorem passB_grow {N : Nat} (cs : List S51) (hc : CabOk cs N) (s : List Bool) (hs : s.length = N) (k : Nat) : (∀ c ∈ cs, relB (passB cs k s) c = passB cs k s) ∨ s.count true + k ≤ (passB cs k s).count true := by
  induction k with
  | zero => right; exact Nat.le_refl _
  | succ k ih =>
    rcases ih with h | h
    · left
      have e : passB cs (k + 1) s = passB cs k s := foldB_fix cs _ h
      rw [e]; exact h
    · obtain ⟨i1, i2⟩ := foldB_count cs hc (passB cs k s) (by rw [passB_len]; exact hs)
      by_cases e : (cs.foldl relB (passB cs k s)).count true = (passB cs k s).count true
      · left
        have e' : passB cs (k + 1) s = passB cs k s := foldB_fix cs _ (i2 e)
        rw [e']; exact i2 e
      · right
        show _ ≤ (cs.foldl relB (passB cs k s)).count true
        omega
theorem memB_lt {s : List Bool} {i : Nat} (h : memB s i) : i < s.length := (List.getElem?_eq_some_iff.1 h).1
/-- After as many rounds as there are bridges nothing more comes. -/
theorem passB_closed {N : Nat} (cs : List S51) (hc : CabOk cs N) (s : List Bool) (hs : s.length = N) (x : Nat) (hx : memB s x) : ClosedP cs (memB (passB cs N s)) := by
  have hl := passB_len cs N s
  have h1 : 1 ≤ s.count true := List.count_pos_iff.2 (List.mem_of_getElem? hx)
  have hfix : ∀ c ∈ cs, relB (passB cs N s) c = passB cs N s := by
    rcases passB_grow cs hc s hs N with h | h
    · exact h
    · have := List.count_le_length (a := true) (l := passB cs N s)
      omega
  intro c hm
  obtain ⟨g1, g2, g3, g4⟩ := hc c hm
  have e := fun i => relB_mem (passB cs N s) c (by omega) (by omega) i
  rw [hfix c hm] at e
  constructor
  · intro h; exact (e _).2 (Or.inr ⟨Or.inr rfl, Or.inl h⟩)
  · intro h; exact (e _).2 (Or.inr ⟨Or.inl rfl, Or.inr h⟩)
theorem foldB_mem {N : Nat} (cs : List S51) (hc : CabOk cs N) : ∀ s : List Bool, s.length = N → (∀ i, memB s i → memB (cs.foldl relB s) i) ∧ ∀ P : Nat → Prop, ClosedP cs P → (∀ i, memB s i → P i) → ∀ i, memB (cs.foldl relB s) i → P i := by
  induction cs with
  | nil => exact fun s _ => ⟨fun _ h => h, fun P _ h => h⟩
  | cons c cs ih =>
    intro s hs
    obtain ⟨g1, g2, g3, g4⟩ := hc c (List.mem_cons_self)
    obtain ⟨i1, i2⟩ := ih (fun x hx => hc x (List.mem_cons_of_mem _ hx)) (relB s c) (by rw [relB_len]; exact hs)
    have e := fun i => relB_mem s c (by omega) (by omega) i
    rw [List.foldl_cons]
    refine ⟨fun i h => i1 i ((e i).2 (Or.inl h)), fun P hP h => i2 P (fun x hx => hP x (List.mem_cons_of_mem _ hx)) (fun i hi => ?_)⟩
    have hc' := hP c List.mem_cons_self
    rcases (e i).1 hi with q | ⟨q, w⟩
    · exact h i q
    · have hb : P c.f0.toNat := by
        rcases w with w | w
        · exact h _ w
        · exact hc'.2 (h _ w)
      rcases q with rfl | rfl
      · exact hb
      · exact hc'.1 hb
theorem passB_mem {N : Nat} (cs : List S51) (hc : CabOk cs N) (s : List Bool) (hs : s.length = N) (k : Nat) : (∀ i, memB s i → memB (passB cs k s) i) ∧ ∀ P : Nat → Prop, ClosedP cs P → (∀ i, memB s i → P i) → ∀ i, memB (passB cs k s) i → P i := by
  induction k with
  | zero => exact ⟨fun _ h => h, fun P _ h => h⟩
  | succ k ih =>
    obtain ⟨i1, i2⟩ := ih
    obtain ⟨j1, j2⟩ := foldB_mem cs hc (passB cs k s) (by rw [passB_len]; exact hs)
    exact ⟨fun i h => j1 i (i1 i h), fun P hP h => j2 P hP (i2 P hP h)⟩
theorem oneB_mem {N x : Nat} (hx : x < N) (i : Nat) : memB ((List.replicate N false).set x true) i ↔ i = x := by
  rw [memB_set _ _ _ (by simp; exact hx)]
  constructor
  · rintro (h | h)
    · unfold memB at h
      rw [List.getElem?_replicate] at h
      split at h <;> simp at h
    · exact h
  · exact Or.inr
theorem jnB_len (cs : List S51) (N x : Nat) : (jnB cs N x).length = N := by unfold jnB; rw [passB_len]; simp
theorem jnB_self {N x : Nat} {cs : List S51} (hc : CabOk cs N) (hx : x < N) : memB (jnB cs N x) x := (passB_mem cs hc _ (by simp) N).1 x ((oneB_mem hx x).2 rfl)
theorem jnB_closed {N x : Nat} {cs : List S51} (hc : CabOk cs N) (hx : x < N) : ClosedP cs (memB (jnB cs N x)) := passB_closed cs hc _ (by simp) x ((oneB_mem hx x).2 rfl)
theorem jnB_least {N x : Nat} {cs : List S51} (hc : CabOk cs N) (hx : x < N) {P : Nat → Prop} (hP : ClosedP cs P) (h : P x) {i : Nat} (hi : memB (jnB cs N x) i) : P i :=
  (passB_mem cs hc _ (by simp) N).2 P hP (fun j hj => by rw [(oneB_mem hx j).1 hj]; exact h) i hi
theorem jnB_symm {N x y : Nat} {cs : List S51} (hc : CabOk cs N) (hx : x < N) (hy : y < N) (h : memB (jnB cs N x) y) : memB (jnB cs N y) x := by
  by_cases c : memB (jnB cs N y) x
  · exact c
  · have hP : ClosedP cs (fun i => ¬ memB (jnB cs N y) i) := fun k hk => not_congr (jnB_closed hc hy k hk)
    exact absurd (jnB_self hc hy) (jnB_least hc hx hP c h)
theorem jnB_trans {N x y z : Nat} {cs : List S51} (hc : CabOk cs N) (hx : x < N) (hy : y < N) (h : memB (jnB cs N x) y) (h2 : memB (jnB cs N y) z) : memB (jnB cs N x) z :=
  jnB_least hc hy (jnB_closed hc hx) h h2
-- the roots
def thrB (m : Int) (o : List Int) : List Bool := o.map fun v => decide (v ≤ m)
theorem thrB_mem (m : Int) (o : List Int) (i : Nat) (hi : i < o.length) : memB (thrB m o) i ↔ o[i] ≤ m := by
  unfold memB thrB
  rw [List.getElem?_map, List.getElem?_eq_getElem hi]
  simp
theorem thrB_rel (m : Int) (o : List Int) (c : S51) (g1 : 0 ≤ c.f0) (g2 : c.f0 < o.length) (g3 : 0 ≤ c.f1) (g4 : c.f1 < o.length) : thrB m (relaxR o c) = relB (thrB m o) c := by
  obtain ⟨a, ha⟩ := Int.eq_ofNat_of_zero_le g1
  obtain ⟨b, hb⟩ := Int.eq_ofNat_of_zero_le g3
  have la : a < o.length := by omega
  have lb : b < o.length := by omega
  have e1 : rdOf false (thrB m o) c.f0 = decide (o[a] ≤ m) := by rw [ha]; simp [rdOf, thrB, List.getD_eq_getElem?_getD, la]
  have e2 : rdOf false (thrB m o) c.f1 = decide (o[b] ≤ m) := by rw [hb]; simp [rdOf, thrB, List.getD_eq_getElem?_getD, lb]
  have d1 : rd o c.f0 = o[a] := by rw [ha]; exact rd_get o a la
  have d2 : rd o c.f1 = o[b] := by rw [hb]; exact rd_get o b lb
  have hmin : decide (mn (o[a]) (o[b]) ≤ m) = (decide (o[a] ≤ m) || decide (o[b] ≤ m)) := by
    rw [← Bool.decide_or, decide_eq_decide]
    show (if o[b] < o[a] then o[b] else o[a]) ≤ m ↔ _
    split <;> omega
  unfold relaxR relB
  rw [e1, e2, d1, d2]
  unfold thrB
  rw [List.map_set, List.map_set, hmin]
  by_cases h : decide (o[a] ≤ m) = true ∨ decide (o[b] ≤ m) = true
  · rw [if_pos h, show (decide (o[a] ≤ m) || decide (o[b] ≤ m)) = true by simpa using h]
  · rw [if_neg h]
    have h1 : decide (o[a] ≤ m) = false := by cases q : decide (o[a] ≤ m) <;> simp_all
    have h2 : decide (o[b] ≤ m) = false := by cases q : decide (o[b] ≤ m) <;> simp_all
    rw [h1, h2, Bool.or_self]
    apply List.ext_getElem (by simp)
    intro n _ h2'
    rw [List.getElem_set, List.getElem_set]
    simp only [hb, ha, Int.toNat_natCast]
    have hn : n < o.length := by simpa using h2'
    split
    · rename_i q; subst q; simp [h2]
    · split
      · rename_i q; subst q; simp [h1]
      · rfl
theorem thrB_fold (m : Int) {N : Nat} (cs : List S51) (hc : CabOk cs N) : ∀ o : List Int, o.length = N → thrB m (cs.foldl relaxR o) = cs.foldl relB (thrB m o) := by
  induction cs with
  | nil => exact fun _ _ => rfl
  | cons c cs ih =>
    intro o ho
    obtain ⟨g1, g2, g3, g4⟩ := hc c (List.mem_cons_self)
    rw [List.foldl_cons, List.foldl_cons, ih (fun x hx => hc x (List.mem_cons_of_mem _ hx)) _ (by unfold relaxR; simp; exact ho), thrB_rel m o c g1 (by omega) g3 (by omega)]
theorem thrB_pass (m : Int) {N : Nat} (cs : List S51) (hc : CabOk cs N) (o : List Int) (ho : o.length = N) (k : Nat) : thrB m (passR cs k o) = passB cs k (thrB m o) := by
  induction k with
  | zero => rfl
  | succ k ih => rw [passR, passB, thrB_fold m cs hc _ (by rw [passR_len]; exact ho), ih]
theorem fillL_get (k : Nat) (l : List Int) (i : Nat) (hi : i < (fillL k l).length) (hk : i < k) : (fillL k l)[i] = (i : Int) := by
  induction k with
  | zero => omega
  | succ k ih =>
    simp only [fillL] at hi ⊢
    rw [List.getElem_set]
    split
    · rename_i q; subst q; rfl
    · exact ih (by rw [List.length_set] at hi; exact hi) (by omega)
theorem rootsL_len (N : Nat) (cs : List S51) : (rootsL N cs).length = N := by unfold rootsL; rw [passR_len, fillL_len]; simp
/-- A bridge's root is the least of those to which it is joined. -/
theorem roots_le {N i : Nat} {cs : List S51} (hc : CabOk cs N) (hi : i < N) (m : Int) : (rootsL N cs)[i]'(by rw [rootsL_len]; exact hi) ≤ m ↔ ∃ b : Nat, b < N ∧ (b : Int) ≤ m ∧ memB (jnB cs N b) i := by
  have hfl : (fillL N (List.replicate N 0)).length = N := by rw [fillL_len]; simp
  rw [← thrB_mem m (rootsL N cs) i (by rw [rootsL_len]; exact hi)]
  unfold rootsL
  rw [thrB_pass m cs hc _ hfl]
  have hst : ∀ j, memB (thrB m (fillL N (List.replicate N 0))) j ↔ j < N ∧ (j : Int) ≤ m := by
    intro j
    constructor
    · intro h
      have hj : j < N := by have := memB_lt h; unfold thrB at this; rw [List.length_map, hfl] at this; exact this
      rw [thrB_mem _ _ _ (by omega), fillL_get _ _ _ (by omega) hj] at h
      exact ⟨hj, h⟩
    · rintro ⟨h1, h2⟩
      rw [thrB_mem _ _ _ (by omega), fillL_get _ _ _ (by omega) h1]
      exact h2
  have hlen : (thrB m (fillL N (List.replicate N 0))).length = N := by unfold thrB; rw [List.length_map, hfl]
  obtain ⟨p1, p2⟩ := passB_mem cs hc (thrB m (fillL N (List.replicate N 0))) hlen N
  constructor
  · intro h
    refine p2 (fun i => ∃ b : Nat, b < N ∧ (b : Int) ≤ m ∧ memB (jnB cs N b) i) ?_ ?_ i h
    · intro c hcm
      exact ⟨fun ⟨b, h1, h2, h3⟩ => ⟨b, h1, h2, (jnB_closed hc h1 c hcm).1 h3⟩, fun ⟨b, h1, h2, h3⟩ => ⟨b, h1, h2, (jnB_closed hc h1 c hcm).2 h3⟩⟩
    · intro j hj
      obtain ⟨h1, h2⟩ := (hst j).1 hj
      exact ⟨j, h1, h2, jnB_self hc h1⟩
  · rintro ⟨b, h1, h2, h3⟩
    have hb := (hst b).2 ⟨h1, h2⟩
    exact jnB_least hc h1 (passB_closed cs hc _ hlen b hb) (p1 b hb) h3
theorem roots_join {N i j : Nat} {cs : List S51} (hc : CabOk cs N) (hi : i < N) (hj : j < N) : (rootsL N cs)[i]'(by rw [rootsL_len]; exact hi) = (rootsL N cs)[j]'(by rw [rootsL_len]; exact hj) ↔ memB (jnB cs N i) j := by
  constructor
  · intro e
    obtain ⟨b, b1, b2, b3⟩ := (roots_le hc hi _).1 (Int.le_refl _)
    obtain ⟨d, d1, d2, d3⟩ := (roots_le hc hj _).1 (Int.le_refl _)
    have q1 := (roots_le hc hi (d : Int))
    have x1 := jnB_symm hc b1 hi b3
    have x2 := jnB_symm hc d1 hj d3
    have y1 : (rootsL N cs)[i]'(by rw [rootsL_len]; exact hi) ≤ b := (roots_le hc hi _).2 ⟨b, b1, Int.le_refl _, b3⟩
    have y2 : (rootsL N cs)[j]'(by rw [rootsL_len]; exact hj) ≤ d := (roots_le hc hj _).2 ⟨d, d1, Int.le_refl _, d3⟩
    have : b = d := by omega
    subst this
    exact jnB_trans hc hi b1 x1 d3
  · intro h
    have h' := jnB_symm hc hi hj h
    apply Int.le_antisymm
    · obtain ⟨d, d1, d2, d3⟩ := (roots_le hc hj _).1 (Int.le_refl _)
      exact (roots_le hc hi _).2 ⟨d, d1, d2, jnB_trans hc d1 hj d3 h'⟩
    · obtain ⟨d, d1, d2, d3⟩ := (roots_le hc hi _).1 (Int.le_refl _)
      exact (roots_le hc hj _).2 ⟨d, d1, d2, jnB_trans hc d1 hi d3 h⟩

-- LIB pints
/-- A copy of a list of numbers is that list. -/
theorem toIntS_at (l : List Int) (hl : l.length ≤ 1048576) (d : Nat) : ∀ (k i : Nat) (x : List Int), i + d = l.length → x.length = l.length → x.take i = l.take i → d < k → laws_toIntS.l0 k l x (i : Int) = some l := by
  induction d with
  | zero =>
    intro k i x h1 h2 h3 hk
    obtain ⟨k, rfl⟩ : ∃ m, k = m + 1 := ⟨k - 1, by omega⟩
    simp only [laws_toIntS.l0]
    rw [if_neg (by omega)]
    have e1 : x.take i = x := List.take_of_length_le (by omega)
    have e2 : l.take i = l := List.take_of_length_le (by omega)
    rw [← e1, h3, e2]
  | succ d ih =>
    intro k i x h1 h2 h3 hk
    obtain ⟨k, rfl⟩ : ∃ m, k = m + 1 := ⟨k - 1, by omega⟩
    simp only [laws_toIntS.l0]
    rw [if_pos (by omega), if_pos (by omega), if_pos (by omega), wrap_succ (show i < l.length by omega) (by omega), rd_get l i (by omega), Int.toNat_natCast]
    refine ih k (i + 1) (x.set i l[i]) (by omega) (by rw [List.length_set]; exact h2) ?_ (by omega)
    rw [List.take_add_one, List.take_add_one, List.take_set, List.getElem?_set_self (by omega), List.getElem?_eq_getElem (by omega), List.set_eq_of_length_le (by rw [List.length_take]; omega), h3]
theorem toIntS_eq (l : List Int) (hl : l.length ≤ 1048576) (k : Nat) (hk : l.length < k) : laws_toIntS.f k l = some l := by
  unfold laws_toIntS.f
  rw [if_pos (by omega), if_pos (by omega)]
  exact toIntS_at l hl l.length k 0 _ (by omega) (by simp) (by simp) hk
theorem eqIntS_at (l : List Int) (hl : l.length ≤ 9223372036854775807) (d : Nat) : ∀ (k i : Nat), i + d = l.length → d < k → laws_eqIntS.l0 k l l (i : Int) = some true := by
  induction d with
  | zero =>
    intro k i h1 hk
    obtain ⟨k, rfl⟩ : ∃ m, k = m + 1 := ⟨k - 1, by omega⟩
    simp only [laws_eqIntS.l0]
    rw [if_neg (by omega)]
  | succ d ih =>
    intro k i h1 hk
    obtain ⟨k, rfl⟩ : ∃ m, k = m + 1 := ⟨k - 1, by omega⟩
    simp only [laws_eqIntS.l0]
    rw [if_pos (by omega), if_pos (by omega), if_pos (by omega), if_pos trivial, wrap_succ (show i < l.length by omega) (by omega)]
    exact ih k (i + 1) (by omega) (by omega)
theorem eqIntS_eq (l : List Int) (hl : l.length ≤ 9223372036854775807) (k : Nat) (hk : l.length < k) : laws_eqIntS.f k l l = some true := by
  unfold laws_eqIntS.f
  rw [if_pos rfl]
  exact eqIntS_at l hl l.length k 0 (by omega) hk

-- LIB p19a
theorem l1In_is (n a b : Int) : spec_l1In.f n a b = some (decide (a ≤ n) && decide (n ≤ b)) := by
  unfold spec_l1In.f
  by_cases h : n ≥ a
  · rw [if_pos h, decide_eq_true (show a ≤ n from h), Bool.true_and]
  · rw [if_neg h, decide_eq_false (show ¬ a ≤ n from h), Bool.false_and]
theorem scabs_at (n : Int) (l : List S51) (hl : l.length ≤ 9223372036854775807) (d : Nat) : ∀ (k i : Nat), i + d = l.length → d < k → spec_CablesValid.l0 k n l (i : Int) = some ((l.drop i).all (cabB n)) := by
  induction d with
  | zero =>
    intro k i h1 hk
    obtain ⟨k, rfl⟩ : ∃ m, k = m + 1 := ⟨k - 1, by omega⟩
    simp only [spec_CablesValid.l0]
    rw [if_neg (by omega), List.drop_of_length_le (by omega)]
    rfl
  | succ d ih =>
    intro k i h1 hk
    obtain ⟨k, rfl⟩ : ∃ m, k = m + 1 := ⟨k - 1, by omega⟩
    simp only [spec_CablesValid.l0]
    rw [if_pos (by omega), if_pos (by omega), rdCab_get l i (by omega), l1In_is, l1In_is, l1In_is, wrap_succ (show i < l.length by omega) (by omega), ih k (i + 1) (by omega) (by omega), List.drop_eq_getElem_cons (show i < l.length by omega), List.all_cons]
    simp only [Option.bind_some]
    unfold cabB
    cases (decide (0 ≤ l[i].f0) && decide (l[i].f0 ≤ wrap64 (n - 1))) with
    | false => rw [if_neg (by decide)]; simp
    | true =>
      rw [if_pos rfl]
      cases (decide (0 ≤ l[i].f1) && decide (l[i].f1 ≤ wrap64 (n - 1))) with
      | false => rw [if_neg (by decide)]; simp
      | true =>
        rw [if_pos rfl]
        by_cases e : l[i].f0 = l[i].f1
        · rw [if_pos e, bne_eq_false_iff_eq.mpr e]; simp
        · rw [if_neg e, bne_iff_ne.mpr e]
          cases (decide (1 ≤ l[i].f2) && decide (l[i].f2 ≤ 99)) with
          | false => rw [if_neg (by decide)]; simp
          | true => rw [if_pos rfl]; simp
theorem scabs_eq (n : Int) (l : List S51) (hl : l.length ≤ 9223372036854775807) (k : Nat) (hk : l.length + 1 < k) : spec_CablesValid.f k n l = some (cabsB n l) := by
  obtain ⟨k, rfl⟩ : ∃ m, k = m + 1 := ⟨k - 1, by omega⟩
  unfold spec_CablesValid.f cabsB
  rw [l1In_is, Option.bind_some]
  simp only [spec_CablesValid.j0]
  cases (decide (1 ≤ n) && decide (n ≤ 8)) with
  | false => rw [if_neg (by decide), if_pos trivial]; rfl
  | true =>
    rw [if_pos rfl]
    by_cases c : l.length ≤ 20
    · rw [decide_eq_false (show ¬ (l.length : Int) > 20 by omega), if_neg (by decide), decide_eq_true c]
      exact (scabs_at n l hl l.length k 0 (by omega) (by omega)).trans (by rw [List.drop_zero]; rfl)
    · rw [decide_eq_true (show (l.length : Int) > 20 by omega), if_pos rfl, decide_eq_false c]
      rfl
theorem snet_l1 (n : Int) (cs : List S51) (hs vs : List Int) (hc : cs.length ≤ 9223372036854775807) (hl : hs.length ≤ 9223372036854775807) (hv : vs.length ≤ 9223372036854775807) (d : Nat) : ∀ (k i : Nat), i + d = vs.length → d + cs.length + 2 < k → spec_NetValid.l1 k (i : Int) n cs hs vs = some ((vs.drop i).all vlB && (cabsB n cs && (decide (vs.length = hs.length) && decide (hs.length ≤ 15)))) := by
  induction d with
  | zero =>
    intro k i h1 hk
    obtain ⟨k, rfl⟩ : ∃ m, k = m + 1 := ⟨k - 1, by omega⟩
    simp only [spec_NetValid.l1]
    rw [if_neg (by omega), List.drop_of_length_le (by omega), scabs_eq n cs hc k (by omega), Option.bind_some]
    have e15 : decide ((hs.length : Int) ≤ 15) = decide (hs.length ≤ 15) := by rw [decide_eq_decide]; omega
    rw [e15]
    cases cabsB n cs with
    | false => rw [if_neg (by decide)]; simp
    | true =>
      rw [if_pos rfl]
      by_cases e : hs.length = vs.length
      · rw [if_pos (by omega), decide_eq_true e.symm]; simp
      · rw [if_neg (by omega), decide_eq_false (fun h => e h.symm)]; simp
  | succ d ih =>
    intro k i h1 hk
    obtain ⟨k, rfl⟩ : ∃ m, k = m + 1 := ⟨k - 1, by omega⟩
    have e : spec_l10Vlan.f vs[i] = some (vlB vs[i]) := by unfold spec_l10Vlan.f; rw [l1In_is]; rfl
    simp only [spec_NetValid.l1]
    rw [if_pos (by omega), if_pos (by omega), rd_get vs i (by omega), e, Option.bind_some, wrap_succ (show i < vs.length by omega) (by omega), ih k (i + 1) (by omega) (by omega), List.drop_eq_getElem_cons (show i < vs.length by omega), List.all_cons]
    cases vlB vs[i] with
    | false => rw [if_neg (by decide)]; simp
    | true => rw [if_pos rfl]; simp
theorem snet_l0 (n : Int) (cs : List S51) (hs vs : List Int) (hc : cs.length ≤ 9223372036854775807) (hl : hs.length ≤ 9223372036854775807) (hv : vs.length ≤ 9223372036854775807) (d : Nat) : ∀ (k i : Nat), i + d = hs.length → d + vs.length + cs.length + 3 < k → spec_NetValid.l0 k (i : Int) n cs hs vs = some ((hs.drop i).all (brB n) && (vs.all vlB && (cabsB n cs && (decide (vs.length = hs.length) && decide (hs.length ≤ 15))))) := by
  induction d with
  | zero =>
    intro k i h1 hk
    obtain ⟨k, rfl⟩ : ∃ m, k = m + 1 := ⟨k - 1, by omega⟩
    have e := snet_l1 n cs hs vs hc hl hv vs.length k 0 (by omega) (by omega)
    simp only [spec_NetValid.l0]
    rw [if_neg (by omega), List.drop_of_length_le (by omega)]
    exact e.trans (by rw [List.drop_zero]; simp)
  | succ d ih =>
    intro k i h1 hk
    obtain ⟨k, rfl⟩ : ∃ m, k = m + 1 := ⟨k - 1, by omega⟩
    simp only [spec_NetValid.l0]
    rw [if_pos (by omega), if_pos (by omega), rd_get hs i (by omega), l1In_is, Option.bind_some, wrap_succ (show i < hs.length by omega) (by omega), ih k (i + 1) (by omega) (by omega), List.drop_eq_getElem_cons (show i < hs.length by omega), List.all_cons]
    have e : brB n hs[i] = (decide (0 ≤ hs[i]) && decide (hs[i] ≤ wrap64 (n - 1))) := rfl
    rw [← e]
    cases brB n hs[i] with
    | false => rw [if_neg (by decide)]; simp
    | true => rw [if_pos rfl]; simp
theorem snet_eq (n : Int) (cs : List S51) (hs vs : List Int) (hc : cs.length ≤ 9223372036854775807) (hl : hs.length ≤ 9223372036854775807) (hv : vs.length ≤ 9223372036854775807) (k : Nat) (hk : hs.length + vs.length + cs.length + 3 < k) : spec_NetValid.f k n cs hs vs = some (netB n cs hs vs) := by
  unfold spec_NetValid.f
  refine (snet_l0 n cs hs vs hc hl hv hs.length k 0 (by omega) (by omega)).trans ?_
  rw [List.drop_zero]
  unfold netB
  cases hs.all (brB n) <;> cases vs.all vlB <;> cases cabsB n cs <;> cases decide (vs.length = hs.length) <;> cases decide (hs.length ≤ 15) <;> rfl
theorem inet_eq (n : Int) (cs : List S51) (hs vs : List Int) : impl_NetValid.f n cs hs vs = some (netB n cs hs vs) := rfl
-- what the exact laws do with their arguments
theorem rdLab_get (l : List S79) (i : Nat) (h : i < l.length) : rd_T79 l (i : Int) = l[i] := by simp [rd_T79, List.getD_eq_getElem?_getD, h]
def cvC (l : List S79) : List S51 := l.map fun x => ⟨x.f0, x.f1, x.f2⟩
theorem cvC_len (l : List S79) : (cvC l).length = l.length := by unfold cvC; simp
theorem toCable_at (l : List S79) (hl : l.length ≤ 1048576) (d : Nat) : ∀ (k i : Nat) (x : List S51), i + d = l.length → x.length = l.length → x.take i = (cvC l).take i → d < k → laws_toCableS.l0 k l x (i : Int) = some (cvC l) := by
  have hc := cvC_len l
  induction d with
  | zero =>
    intro k i x h1 h2 h3 hk
    obtain ⟨k, rfl⟩ : ∃ m, k = m + 1 := ⟨k - 1, by omega⟩
    simp only [laws_toCableS.l0]
    rw [if_neg (by omega)]
    have e1 : x.take i = x := List.take_of_length_le (by omega)
    have e2 : (cvC l).take i = cvC l := List.take_of_length_le (by omega)
    rw [← e1, h3, e2]
  | succ d ih =>
    intro k i x h1 h2 h3 hk
    obtain ⟨k, rfl⟩ : ∃ m, k = m + 1 := ⟨k - 1, by omega⟩
    simp only [laws_toCableS.l0, laws_toCable.f, Option.bind_some]
    rw [if_pos (by omega), if_pos (by omega), if_pos (by omega), wrap_succ (show i < l.length by omega) (by omega), rdLab_get l i (by omega), Int.toNat_natCast]
    have e : (cvC l)[i]? = some ⟨l[i].f0, l[i].f1, l[i].f2⟩ := by unfold cvC; simp [show i < l.length by omega]
    refine ih k (i + 1) _ (by omega) (by rw [List.length_set]; exact h2) ?_ (by omega)
    rw [List.take_add_one, List.take_add_one, List.take_set, List.getElem?_set_self (by omega), e, List.set_eq_of_length_le (by rw [List.length_take]; omega), h3]
theorem toCable_eq (l : List S79) (hl : l.length ≤ 1048576) (k : Nat) (hk : l.length < k) : laws_toCableS.f k l = some (cvC l) := by
  unfold laws_toCableS.f
  rw [if_pos (by omega), if_pos (by omega)]
  exact toCable_at l hl l.length k 0 _ (by omega) (by simp) (by simp) hk
theorem eqCable_at (l : List S51) (hl : l.length ≤ 9223372036854775807) (d : Nat) : ∀ (k i : Nat), i + d = l.length → d < k → laws_eqCableS.l0 k l l (i : Int) = some true := by
  induction d with
  | zero =>
    intro k i h1 hk
    obtain ⟨k, rfl⟩ : ∃ m, k = m + 1 := ⟨k - 1, by omega⟩
    simp only [laws_eqCableS.l0]
    rw [if_neg (by omega)]
  | succ d ih =>
    intro k i h1 hk
    obtain ⟨k, rfl⟩ : ∃ m, k = m + 1 := ⟨k - 1, by omega⟩
    have e : ∀ (a b c : Int), laws_eqCable.f a b c a b c = some true := fun a b c => by unfold laws_eqCable.f; rw [if_pos rfl, if_pos rfl, if_pos rfl]
    simp only [laws_eqCableS.l0]
    rw [if_pos (by omega), if_pos (by omega), if_pos (by omega), e, Option.bind_some, if_pos rfl, wrap_succ (show i < l.length by omega) (by omega)]
    exact ih k (i + 1) (by omega) (by omega)
theorem eqCable_eq (l : List S51) (hl : l.length ≤ 9223372036854775807) (k : Nat) (hk : l.length < k) : laws_eqCableS.f k l l = some true := by
  unfold laws_eqCableS.f
  rw [if_pos rfl]
  exact eqCable_at l hl l.length k 0 (by omega) hk
theorem szInt_of (l : List Int) (hl : l.length ≤ maxLen) (m : Int) (h0 : 0 ≤ m) (h1 : m ≤ 1048576) : ∃ n : Int, laws_szIntS.f l m = some n ∧ (¬ n < 0 → l.length ≤ m ∧ n = m - l.length) := by
  unfold maxLen at hl
  unfold laws_szIntS.f
  rw [wrap_eq (by omega) (by omega)]
  split
  · exact ⟨_, rfl, fun h => absurd (show (-1 : Int) < 0 by decide) h⟩
  · exact ⟨_, rfl, fun h => by omega⟩
theorem szNet_eq (n : Int) (cs : List S79) (hs vs : List Int) (h1 : cs.length ≤ maxLen) (h2 : hs.length ≤ maxLen) (h3 : vs.length ≤ maxLen) : ∃ m : Int, laws_szNet.f n cs hs vs 1048576 = some m ∧ (¬ m < 0 → cs.length + hs.length + vs.length ≤ 1048576 ∧ 0 ≤ m ∧ m ≤ 1048576) := by
  have hc : ∃ m : Int, laws_szCableS.f cs 1048576 = some m ∧ (¬ m < 0 → cs.length ≤ 1048576 ∧ m = 1048576 - cs.length) := by
    unfold maxLen at h1
    unfold laws_szCableS.f
    rw [wrap_eq (by omega) (by omega)]
    split
    · exact ⟨_, rfl, fun h => absurd (show (-1 : Int) < 0 by decide) h⟩
    · exact ⟨_, rfl, fun h => by omega⟩
  obtain ⟨m1, e1, g1⟩ := hc
  unfold laws_szNet.f
  rw [e1, Option.bind_some]
  by_cases c1 : m1 < 0
  · rw [if_pos c1]; exact ⟨_, rfl, fun h => absurd (show (-1 : Int) < 0 by decide) h⟩
  obtain ⟨q1, q2⟩ := g1 c1
  obtain ⟨m2, e2, g2⟩ := szInt_of hs h2 m1 (by omega) (by omega)
  rw [if_neg c1, e2, Option.bind_some]
  by_cases c2 : m2 < 0
  · rw [if_pos c2]; exact ⟨_, rfl, fun h => absurd (show (-1 : Int) < 0 by decide) h⟩
  obtain ⟨q3, q4⟩ := g2 c2
  obtain ⟨m3, e3, g3⟩ := szInt_of vs h3 m2 (by omega) (by omega)
  rw [if_neg c2, e3, Option.bind_some]
  by_cases c3 : m3 < 0
  · rw [if_pos c3]; exact ⟨_, rfl, fun h => absurd (show (-1 : Int) < 0 by decide) h⟩
  rw [if_neg c3]
  exact ⟨_, rfl, fun h => by have := g3 h; omega⟩
theorem toNet_eq (n : Int) (cs : List S79) (hs vs : List Int) (h : cs.length + hs.length + vs.length ≤ 1048576) (k : Nat) (hk : cs.length + hs.length + vs.length < k) : laws_toNet.f k n cs hs vs = some (n, cvC cs, hs, vs) := by
  unfold laws_toNet.f
  rw [toCable_eq cs (by omega) k (by omega), Option.bind_some, toIntS_eq hs (by omega) k (by omega), Option.bind_some, toIntS_eq vs (by omega) k (by omega), Option.bind_some]
theorem eqNet_eq (n : Int) (cs : List S51) (hs vs : List Int) (h : cs.length + hs.length + vs.length ≤ 1048576) (k : Nat) (hk : cs.length + hs.length + vs.length < k) : laws_eqNet.f k n cs hs vs n cs hs vs = some true := by
  unfold laws_eqNet.f
  rw [if_pos rfl, eqCable_eq cs (by omega) k (by omega), Option.bind_some, if_pos rfl, eqIntS_eq hs (by omega) k (by omega), Option.bind_some, if_pos rfl, eqIntS_eq vs (by omega) k (by omega), Option.bind_some, if_pos rfl]

-- LIB p19m
theorem rdB_get (l : List Bool) (i : Nat) (h : i < l.length) : rdOf false l (i : Int) = l[i] := by simp [rdOf, List.getD_eq_getElem?_getD, h]
theorem sjoin_l1 (N : Nat) (cs : List S51) (hc : CabOk cs N) (hl : cs.length ≤ 9223372036854775807) (j : Int) (d : Nat) :
    ∀ (k i : Nat) (s : List Bool), i + d = cs.length → s.length = N → d < k → spec_l7Joined.l1 k cs s (i : Int) (N : Int) j = spec_l7Joined.l0 (k - d - 1) cs ((cs.drop i).foldl relB s) (N : Int) (wrap64 (j + 1)) := by
  induction d with
  | zero =>
    intro k i s h1 h2 hk
    obtain ⟨k, rfl⟩ : ∃ m, k = m + 1 := ⟨k - 1, by omega⟩
    simp only [spec_l7Joined.l1]
    rw [if_neg (by omega), List.drop_of_length_le (by omega)]
    rfl
  | succ d ih =>
    intro k i s h1 h2 hk
    obtain ⟨k, rfl⟩ : ∃ m, k = m + 1 := ⟨k - 1, by omega⟩
    have hi : i < cs.length := by omega
    obtain ⟨g1, g2, g3, g4⟩ := hc _ (List.getElem_mem hi)
    simp only [spec_l7Joined.l1]
    rw [if_pos (by omega), if_pos (by omega), rdCab_get cs i hi, if_pos g1, if_pos (by omega), wrap_succ hi (by omega), List.drop_eq_getElem_cons hi, List.foldl_cons, show k + 1 - (d + 1) - 1 = k - d - 1 by omega]
    have hr : (relB s cs[i]).length = N := by rw [relB_len]; exact h2
    rw [← ih k (i + 1) _ (by omega) hr (by omega)]
    unfold relB
    by_cases c0 : rdOf false s cs[i].f0 = true
    · rw [if_pos c0, if_pos g3, if_pos (by omega), if_pos (Or.inl c0)]
    · rw [if_neg c0, if_pos g3, if_pos (by omega)]
      by_cases c1 : rdOf false s cs[i].f1 = true
      · rw [if_pos c1, if_pos (Or.inr c1)]
      · rw [if_neg c1, if_neg (fun h => h.elim c0 c1)]
theorem sjoin_l0 (N : Nat) (hN : N ≤ 1000000) (cs : List S51) (hc : CabOk cs N) (hl : cs.length ≤ 1000000) (s0 : List Bool) (hs : s0.length = N) (d : Nat) :
    ∀ (k j : Nat), j + d = N → (cs.length + 2) * d < k → spec_l7Joined.l0 k cs (passB cs j s0) (N : Int) (j : Int) = some (passB cs N s0) := by
  induction d with
  | zero =>
    intro k j h1 hk
    obtain ⟨k, rfl⟩ : ∃ m, k = m + 1 := ⟨k - 1, by omega⟩
    obtain rfl : j = N := by omega
    simp only [spec_l7Joined.l0]
    rw [if_neg (by omega)]
  | succ d ih =>
    intro k j h1 hk
    rw [Nat.mul_add, Nat.mul_one] at hk
    obtain ⟨k, rfl⟩ : ∃ m, k = m + 1 := ⟨k - 1, by omega⟩
    simp only [spec_l7Joined.l0]
    have e := sjoin_l1 N cs hc (by omega) (j : Int) cs.length k 0 (passB cs j s0) (by omega) (by rw [passB_len]; exact hs) (by omega)
    rw [if_pos (by omega)]
    refine e.trans ?_
    rw [List.drop_zero, wrap_succ (show j < N by omega) (by omega)]
    exact ih _ (j + 1) (by omega) (by omega)
theorem sjoin_eq (N x : Nat) (hx : x < N) (hN : N ≤ 1000000) (cs : List S51) (hc : CabOk cs N) (hl : cs.length ≤ 1000000) (k : Nat) (hk : (cs.length + 2) * N < k) : spec_l7Joined.f k (N : Int) cs (x : Int) = some (jnB cs N x) := by
  unfold spec_l7Joined.f
  rw [if_pos (by omega), if_pos (by omega), Option.bind_some, if_pos (by omega), if_pos (by rw [List.length_replicate]; omega), Int.toNat_natCast, Int.toNat_natCast]
  exact sjoin_l0 N hN cs hc hl _ (by simp) N k 0 (by omega) hk
/-- The numbers of a row of numbers that have a property. -/
def filM (p : Int → Bool) : Nat → Int → List Int
  | 0, _ => []
  | d + 1, i => if p i = true then i :: filM p d (i + 1) else filM p d (i + 1)
theorem filM_len (p : Int → Bool) (d : Nat) : ∀ i, (filM p d i).length ≤ d := by
  induction d with
  | zero => exact fun _ => Nat.le_refl _
  | succ d ih => intro i; have := ih (i + 1); rw [filM]; split
                 · rw [List.length_cons]; omega
                 · omega
theorem filM_mem (p : Int → Bool) (d : Nat) : ∀ i x, x ∈ filM p d i ↔ i ≤ x ∧ x < i + d ∧ p x = true := by
  induction d with
  | zero => intro i x; rw [filM]; constructor
            · intro h; cases h
            · intro h; omega
  | succ d ih =>
    intro i x
    rw [filM]
    by_cases c : p i = true
    · rw [if_pos c, List.mem_cons, ih]
      constructor
      · rintro (h | h)
        · subst h; exact ⟨by omega, by omega, c⟩
        · exact ⟨by omega, by omega, h.2.2⟩
      · rintro ⟨h1, h2, h3⟩
        by_cases e : x = i
        · exact Or.inl e
        · exact Or.inr ⟨by omega, by omega, h3⟩
    · rw [if_neg c, ih]
      constructor
      · rintro ⟨h1, h2, h3⟩; exact ⟨by omega, by omega, h3⟩
      · rintro ⟨h1, h2, h3⟩
        refine ⟨?_, by omega, h3⟩
        by_cases e : x = i
        · subst e; exact absurd h3 c
        · omega
theorem filM_congr (p q : Int → Bool) (d : Nat) : ∀ i : Int, (∀ x, i ≤ x → x < i + d → p x = q x) → filM p d i = filM q d i := by
  induction d with
  | zero => exact fun _ _ => rfl
  | succ d ih => intro i h; rw [filM, filM, h i (by omega) (by omega), ih (i + 1) (fun x h1 h2 => h x (by omega) (by omega))]
/-- What is told of a valid network. -/
theorem netB_facts {n : Int} {cs : List S51} {hs vs : List Int} (h : netB n cs hs vs = true) : cabsB n cs = true ∧ hs.length ≤ 15 ∧ vs.length = hs.length ∧ (∀ x ∈ hs, 0 ≤ x ∧ x < n) := by
  unfold netB at h
  simp only [Bool.and_eq_true, decide_eq_true_eq, List.all_eq_true] at h
  obtain ⟨h1, h2, h3, h4, h5⟩ := h
  obtain ⟨f1, f2, _, _⟩ := cabsB_facts h1
  refine ⟨h1, h2, h3, fun x hx => ?_⟩
  have := h4 x hx
  unfold brB at this
  have e : wrap64 (n - 1) = n - 1 := by unfold wrap64; omega
  rw [e] at this
  simp only [Bool.and_eq_true, decide_eq_true_eq] at this
  omega
theorem cabOk_of {N : Nat} {cs : List S51} (h : cabsB (N : Int) cs = true) : CabOk cs N := fun c hc => by
  obtain ⟨_, _, _, f⟩ := cabsB_facts h
  have := f c hc
  omega
def mateB (n : Int) (cs : List S51) (hs vs : List Int) (s o : Int) : Bool := decide (o ≠ s) && (decide (rd vs o = rd vs s) && decide (rd (rootsL n.toNat cs) (rd hs o) = rd (rootsL n.toNat cs) (rd hs s)))
/-- The stations to which frames of a station come. -/
def matesX (n : Int) (cs : List S51) (hs vs : List Int) (s : Int) : List Int := if netB n cs hs vs = true ∧ 0 ≤ s ∧ s < hs.length then filM (mateB n cs hs vs s) hs.length 0 else []
theorem matesX_len (n : Int) (cs : List S51) (hs vs : List Int) (s : Int) : (matesX n cs hs vs s).length ≤ 15 := by
  unfold matesX
  split
  · rename_i h
    have := filM_len (mateB n cs hs vs s) hs.length 0
    have := (netB_facts h.1).2.1
    omega
  · simp
theorem imates_at (n : Int) (cs : List S51) (hs vs : List Int) (s : Int) (hv : netB n cs hs vs = true) (h0 : 0 ≤ s) (h1 : s < hs.length) (d : Nat) : ∀ (k i : Nat) (acc : List Int), i + d = hs.length → acc.length + d ≤ 15 → d < k →
    impl_MatesOf.l0 k s (rootsL n.toNat cs) acc hs hs.length (i : Int) n cs hs vs = some (acc ++ filM (mateB n cs hs vs s) d i) := by
  obtain ⟨q1, q2, q3, q4⟩ := netB_facts hv
  obtain ⟨p1, p2, p3, p4⟩ := cabsB_facts q1
  have hr := rootsL_len n.toNat cs
  induction d with
  | zero =>
    intro k i acc e1 e2 hk
    obtain ⟨k, rfl⟩ : ∃ m, k = m + 1 := ⟨k - 1, by omega⟩
    simp only [impl_MatesOf.l0]
    rw [if_neg (by omega), filM, List.append_nil]
  | succ d ih =>
    intro k i acc e1 e2 hk
    obtain ⟨k, rfl⟩ : ∃ m, k = m + 1 := ⟨k - 1, by omega⟩
    have hi : i < hs.length := by omega
    have m1 := q4 _ (List.getElem_mem hi)
    obtain ⟨S, hS⟩ := Int.eq_ofNat_of_zero_le h0
    have m2 := q4 (rd hs s) (by rw [hS, rd_get hs S (by omega)]; exact List.getElem_mem _)
    have m1' : 0 ≤ rd hs (i : Int) ∧ rd hs (i : Int) < n := by rw [rd_get hs i hi]; exact m1
    simp only [impl_MatesOf.l0]
    rw [if_pos (by omega), if_pos (by omega), if_pos (by omega), wrap_succ hi (by omega), filM]
    unfold mateB at ih ⊢
    by_cases c0 : (i : Int) = s
    · rw [if_pos c0, ih k (i + 1) acc (by omega) (by omega) (by omega), if_neg (by simp [c0])]; rfl
    rw [if_neg c0, if_pos (by omega), if_pos h0, if_pos (by omega)]
    by_cases c1 : rd vs (i : Int) = rd vs s
    · rw [if_pos c1, if_pos m1'.1, if_pos (by omega), if_pos h1, if_pos m2.1, if_pos (by omega)]
      by_cases c2 : rd (rootsL n.toNat cs) (rd hs (i : Int)) = rd (rootsL n.toNat cs) (rd hs s)
      · rw [if_pos c2, if_pos (by omega), ih k (i + 1) _ (by omega) (by simp; omega) (by omega), if_pos (by simp [c0, c1, c2]), List.append_assoc]; rfl
      · rw [if_neg c2, ih k (i + 1) acc (by omega) (by omega) (by omega), if_neg (by simp [c2])]; rfl
    · rw [if_neg c1, ih k (i + 1) acc (by omega) (by omega) (by omega), if_neg (by simp [c1])]; rfl
theorem istation_eq (n : Int) (cs : List S51) (hs vs : List Int) (s : Int) : impl_Net_station.f n cs hs vs s = some (decide (netB n cs hs vs = true ∧ 0 ≤ s ∧ s < hs.length)) := by
  unfold impl_Net_station.f
  rw [inet_eq, Option.bind_some]
  cases hv : netB n cs hs vs with
  | false => rw [if_neg (by decide)]; simp
  | true =>
    obtain ⟨q1, q2, q3, q4⟩ := netB_facts hv
    rw [if_pos rfl, win_is, Option.bind_some, wrap_eq (by omega) (by omega), ← Bool.decide_and]
    congr 1
    rw [decide_eq_decide]
    simp only [true_and]
    omega
theorem imates_eq (n : Int) (cs : List S51) (hs vs : List Int) (s : Int) (k : Nat) (hk : 20 < k) : impl_MatesOf.f k n cs hs vs s = some (matesX n cs hs vs s) := by
  unfold impl_MatesOf.f matesX
  rw [istation_eq, Option.bind_some]
  by_cases c : netB n cs hs vs = true ∧ 0 ≤ s ∧ s < hs.length
  · obtain ⟨q1, q2, q3, q4⟩ := netB_facts c.1
    have e : impl_rootsOf.f n cs = some (rootsL n.toNat cs) := by unfold impl_rootsOf.f; rw [if_pos q1]
    rw [decide_eq_true c, if_pos rfl, if_pos c, e, Option.bind_some]
    exact imates_at n cs hs vs s c.1 c.2.1 c.2.2 hs.length k 0 [] (by omega) (by simp; omega) (by omega)
  · rw [decide_eq_false c, if_neg (by decide), if_neg c]
theorem smates_at (n : Int) (cs : List S51) (hs vs : List Int) (s : Int) (inn : List Bool) (hin : (inn.length : Int) = n) (hv : netB n cs hs vs = true) (h0 : 0 ≤ s) (h1 : s < hs.length) (p : Int → Bool) (hp : ∀ o : Int, 0 ≤ o → o < hs.length → p o = (decide (o ≠ s) && (decide (rd vs o = rd vs s) && rdOf false inn (rd hs o)))) (d : Nat) : ∀ (k i : Nat) (acc : List Int), i + d = hs.length → acc.length + d ≤ 15 → d < k →
    spec_MatesOf.l0 k s acc inn (i : Int) n cs hs vs = some (acc ++ filM p d i) := by
  obtain ⟨q1, q2, q3, q4⟩ := netB_facts hv
  obtain ⟨p1, p2, p3, p4⟩ := cabsB_facts q1
  induction d with
  | zero =>
    intro k i acc e1 e2 hk
    obtain ⟨k, rfl⟩ : ∃ m, k = m + 1 := ⟨k - 1, by omega⟩
    simp only [spec_MatesOf.l0]
    rw [if_neg (by omega), filM, List.append_nil]
  | succ d ih =>
    intro k i acc e1 e2 hk
    obtain ⟨k, rfl⟩ : ∃ m, k = m + 1 := ⟨k - 1, by omega⟩
    have hi : i < hs.length := by omega
    have m1 := q4 _ (List.getElem_mem hi)
    have m1' : 0 ≤ rd hs (i : Int) ∧ rd hs (i : Int) < n := by rw [rd_get hs i hi]; exact m1
    simp only [spec_MatesOf.l0]
    rw [if_pos (by omega), wrap_succ hi (by omega), filM, hp i (by omega) (by omega)]
    by_cases c0 : (i : Int) = s
    · rw [if_pos c0, ih k (i + 1) acc (by omega) (by omega) (by omega), if_neg (by simp [c0])]; rfl
    rw [if_neg c0, if_pos (by omega), if_pos (by omega), if_pos h0, if_pos (by omega)]
    by_cases c1 : rd vs (i : Int) = rd vs s
    · rw [if_pos c1, if_pos m1'.1, if_pos (by omega)]
      by_cases c2 : rdOf false inn (rd hs (i : Int)) = true
      · rw [if_pos c2, if_pos (by omega), ih k (i + 1) _ (by omega) (by simp; omega) (by omega), if_pos (by simp [c0, c1, c2]), List.append_assoc]; rfl
      · rw [if_neg c2, ih k (i + 1) acc (by omega) (by omega) (by omega), if_neg (by simp [c2])]; rfl
    · rw [if_neg c1, ih k (i + 1) acc (by omega) (by omega) (by omega), if_neg (by simp [c1])]; rfl
theorem sstation_eq (n : Int) (cs : List S51) (hs vs : List Int) (s : Int) (h : hs.length ≤ 1048576) : spec_l19Station.f n cs hs vs s = some (decide (0 ≤ s ∧ s < hs.length)) := by
  unfold spec_l19Station.f
  rw [l1In_is, Option.bind_some, wrap_eq (by omega) (by omega), ← Bool.decide_and]
  congr 1
  rw [decide_eq_decide]
  omega
theorem smates_eq (n : Int) (cs : List S51) (hs vs : List Int) (s : Int) (hl : cs.length + hs.length + vs.length ≤ 1048576) (k : Nat) (hk : cs.length + hs.length + vs.length + 1000 < k) : spec_MatesOf.f k n cs hs vs s = some (matesX n cs hs vs s) := by
  obtain ⟨k, rfl⟩ : ∃ m, k = m + 1 := ⟨k - 1, by omega⟩
  unfold spec_MatesOf.f matesX
  rw [Option.bind_some, snet_eq n cs hs vs (by omega) (by omega) (by omega) _ (by omega), Option.bind_some]
  cases hv : netB n cs hs vs with
  | false => rw [if_neg (by decide), if_neg (by simp)]; simp only [spec_MatesOf.j0]; rw [if_pos trivial]
  | true =>
    rw [if_pos rfl, sstation_eq n cs hs vs s (by omega), Option.bind_some]
    simp only [spec_MatesOf.j0]
    by_cases c : 0 ≤ s ∧ s < hs.length
    · obtain ⟨q1, q2, q3, q4⟩ := netB_facts hv
      obtain ⟨p1, p2, p3, p4⟩ := cabsB_facts q1
      obtain ⟨N, hN⟩ : ∃ N : Nat, n = (N : Int) := ⟨n.toNat, by omega⟩
      subst hN
      have hc := cabOk_of q1
      obtain ⟨S, hS⟩ := Int.eq_ofNat_of_zero_le c.1
      subst hS
      have hSl : S < hs.length := by omega
      obtain ⟨x0, x1⟩ := q4 _ (List.getElem_mem hSl)
      obtain ⟨X, hX⟩ := Int.eq_ofNat_of_zero_le x0
      have hjn := jnB_len cs N X
      have hb : (cs.length + 2) * N ≤ 22 * 8 := Nat.mul_le_mul (by omega) (by omega)
      rw [decide_eq_true c, if_neg (by decide), if_pos (show True ∧ 0 ≤ (S : Int) ∧ (S : Int) < hs.length from ⟨trivial, c⟩), if_pos c.1, if_pos c.2, rd_get hs S hSl, hX, sjoin_eq N X (by omega) (by omega) cs hc (by omega) k (by omega), Option.bind_some]
      refine smates_at (N : Int) cs hs vs (S : Int) (jnB cs N X) (by omega) hv c.1 c.2 _ (fun o o1 o2 => ?_) hs.length k 0 [] (by omega) (by simp; omega) (by omega)
      obtain ⟨O, hO⟩ := Int.eq_ofNat_of_zero_le o1
      subst hO
      obtain ⟨y0, y1⟩ := q4 _ (List.getElem_mem (show O < hs.length by omega))
      obtain ⟨Y, hY⟩ := Int.eq_ofNat_of_zero_le y0
      unfold mateB
      rw [rd_get hs S hSl, rd_get hs O (by omega), hX, hY, Int.toNat_natCast, rd_get (rootsL N cs) X (by rw [rootsL_len]; omega), rd_get (rootsL N cs) Y (by rw [rootsL_len]; omega)]
      congr 2
      have hr := roots_join hc (show X < N by omega) (show Y < N by omega)
      have hm := rdB_mem (jnB cs N X) (Y : Int)
      rw [Int.toNat_natCast] at hm
      cases hq : rdOf false (jnB cs N X) (Y : Int) with
      | false => rw [decide_eq_false]; intro e; rw [hm.2 (hr.1 e.symm)] at hq; cases hq
      | true => rw [decide_eq_true]; exact (hr.2 (hm.1 hq)).symm
    · rw [decide_eq_false c, if_pos (by decide), if_neg (fun h => c h.2)]

end Go.Proofs.Ytdamdcdjodmemaa.PAll
