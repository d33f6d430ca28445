/- Proved here: contracts of functions of the given program, or lemmas on them, for the laws of this seat. Written by xprint.py, a program of this session, on the ground of the kit's print; parts by hand: wip/x/ext. -/
import Derived.Test.YthflgfaaldknhaaDoorPAllx0
import Derived.Test.YthflgfaaldknhaaDoorPAllx1
namespace Go.Proofs.YthflgfaaldknhaaDoor.PAll
open Go.RowKit Go.Proofs.YthflgfaaldknhaaDoorW.PrintWords Go.Proofs.YthflgfaaldknhaaDoorW.PrintLast Go.Proofs.YthflgfaaldknhaaDoorW.PrintMore
attribute [local go_sem] max2_int min2_int max_two min_two max_three min_three max_four min_four   -- for this text's walks alone
set_option linter.unusedVariables false
set_option linter.unusedSimpArgs false

/-! ### laws_FnExactReadNumber: function 5 -/
def laws_FnExactReadNumber.f (k : Nat) (a0 : ByteArray) : Option (Bool) := if (a0.size : Int) > 1048576 then (some true) else ((spec_ReadNumber.f k a0).bind fun t144 => ((impl_ReadNumber.f a0).bind fun t145 => (if t145 = t144 then (some true) else (some false))))
theorem laws_FnExactReadNumber.mono : ∀ a0 k, LeO (laws_FnExactReadNumber.f k a0) (laws_FnExactReadNumber.f (k + 1) a0) := by
 intro a0 k
 unfold laws_FnExactReadNumber.f
 repeat' first
   | (with_reducible exact spec_ReadNumber.mono _ _)
   | (with_reducible exact LeO.refl _)
   | (with_reducible exact LeO.none _)
   | (with_reducible refine LeO.ite ?_ ?_)
   | (with_reducible refine LeO.bind ?_ (fun _ => ?_))
   | exact spec_ReadNumber.mono _ _
   | exact LeO.none _
   | refine LeO.ite ?_ ?_
   | refine LeO.bind ?_ (fun _ => ?_)
set_option maxHeartbeats 8000000 in
set_option maxRecDepth 100000 in
theorem laws_FnExactReadNumber.calls (k : Nat) (a0 : ByteArray) (r : Bool) (w : World) (h : laws_FnExactReadNumber.f k a0 = some r) :
  Calls Tryd.prog 5 #[.string a0] w fun e w' => e = .returned (.bool r) ∧ Below w.heap.size w w' := by
 have HB := Aside0.mk (Below.refl w.heap.size w)
 have H : (if (a0.size : Int) > 1048576 then (some true) else ((spec_ReadNumber.f k a0).bind fun t144 => ((impl_ReadNumber.f a0).bind fun t145 => (if t145 = t144 then (some true) else (some false))))) = some r := h
 clear h
 by_cases c2 : (a0.size : Int) > 1048576
 ·rw [if_pos c2] at H
  have c2b0 : decide (1048576 < (a0.size : Int)) = true := decide_eq_true c2
  have c2b1 : decide (1048576 < a0.size) = true := decide_eq_true (by omega)
  clear c2
  obtain rfl := Option.some.inj H
  go_enter Tryd.func5, Tryd.ntmps5
  go_wp2
  go_ret
  exact ⟨by first | rfl | (simp [errW_none, errW_some] <;> rfl) | (simp [*, errW_none, errW_some] <;> rfl), by repeat (first | (with_reducible first | exact HB.out | apply below_alloc | apply pw_below_drewN | apply below_drew1) | exact HB.out)⟩
 ·rw [if_neg c2] at H
  have c2b0 : decide (1048576 < (a0.size : Int)) = false := decide_eq_false c2
  have c2b1 : decide (1048576 < a0.size) = false := decide_eq_false (by omega)
  clear c2
  replace H := Option.bind_eq_some_iff.mp H
  obtain ⟨t144, A30, H⟩ := H
  replace H : ((impl_ReadNumber.f a0).bind fun t145 => (if t145 = t144 then (some true) else (some false))) = some r := H
  have A3 := Aside0.mk A30
  clear A30
  replace H := Option.bind_eq_some_iff.mp H
  obtain ⟨t145, A40, H⟩ := H
  replace H : (if t145 = t144 then (some true) else (some false)) = some r := H
  have A4 := Aside0.mk A40
  clear A40
  by_cases c5 : t145 = t144
  ·rw [if_pos c5] at H
   have c5b0 : (t145 == t144) = true := beq_iff_eq.mpr c5
   have c5b1 : (t145 != t144) = false := bne_eq_false_iff_eq.mpr c5
   clear c5
   obtain rfl := Option.some.inj H
   go_enter Tryd.func5, Tryd.ntmps5
   go_wp2_with (first | ((with_reducible refine gate_callee (f := 13) rfl ?_); refine goesL_ (some 9) rfl rfl Tryd.func13 (by kernel_rfl) rfl #[.string a0] rfl (by (try simp only [List.map_toArray, List.map_cons, List.map_nil]); first | done | rfl | (simp only [List.length_drop, List.length_take]; rfl)) ?_; (with_reducible refine (spec_ReadNumber.calls k a0 t144 _ A3.out).mono ?_); rintro e w' ⟨rfl, ⟨nd, rfl⟩⟩; refine ⟨_, rfl, ?_⟩) | ((with_reducible refine gate_callee (f := 14) rfl ?_); refine goesL_ (some 11) rfl rfl Tryd.func14 (by kernel_rfl) rfl #[.string a0] rfl (by (try simp only [List.map_toArray, List.map_cons, List.map_nil]); first | done | rfl | (simp only [List.length_drop, List.length_take]; rfl)) ?_; (with_reducible refine (impl_ReadNumber.calls a0 t145 _ A4.out).mono ?_); rintro e w6 ⟨rfl, hb⟩; refine ⟨_, rfl, ?_⟩; have n0_ := Aside0.mk (below_step (by repeat (first | (with_reducible first | exact HB.out | apply below_alloc | apply pw_below_drewN | apply below_drew1) | exact HB.out)) hb); clear HB; have HB := n0_; clear n0_; (try clear hb); (try clear hb2); (try clear hk); (try clear hi)))
   go_ret
   exact ⟨by first | rfl | (simp [errW_none, errW_some] <;> rfl) | (simp [*, errW_none, errW_some] <;> rfl), by repeat (first | (with_reducible first | exact HB.out | apply below_alloc | apply pw_below_drewN | apply below_drew1) | exact HB.out)⟩
  ·rw [if_neg c5] at H
   have c5b0 : (t145 == t144) = false := beq_eq_false_iff_ne.mpr c5
   have c5b1 : (t145 != t144) = true := bne_iff_ne.mpr c5
   obtain rfl := Option.some.inj H
   go_enter Tryd.func5, Tryd.ntmps5
   go_wp2_with (first | ((with_reducible refine gate_callee (f := 13) rfl ?_); refine goesL_ (some 9) rfl rfl Tryd.func13 (by kernel_rfl) rfl #[.string a0] rfl (by (try simp only [List.map_toArray, List.map_cons, List.map_nil]); first | done | rfl | (simp only [List.length_drop, List.length_take]; rfl)) ?_; (with_reducible refine (spec_ReadNumber.calls k a0 t144 _ A3.out).mono ?_); rintro e w' ⟨rfl, ⟨nd, rfl⟩⟩; refine ⟨_, rfl, ?_⟩) | ((with_reducible refine gate_callee (f := 14) rfl ?_); refine goesL_ (some 11) rfl rfl Tryd.func14 (by kernel_rfl) rfl #[.string a0] rfl (by (try simp only [List.map_toArray, List.map_cons, List.map_nil]); first | done | rfl | (simp only [List.length_drop, List.length_take]; rfl)) ?_; (with_reducible refine (impl_ReadNumber.calls a0 t145 _ A4.out).mono ?_); rintro e w7 ⟨rfl, hb⟩; refine ⟨_, rfl, ?_⟩; have n0_ := Aside0.mk (below_step (by repeat (first | (with_reducible first | exact HB.out | apply below_alloc | apply pw_below_drewN | apply below_drew1) | exact HB.out)) hb); clear HB; have HB := n0_; clear n0_; (try clear hb); (try clear hb2); (try clear hk); (try clear hi)))
   go_ret
   exact ⟨by first | rfl | (simp [errW_none, errW_some] <;> rfl) | (simp [*, errW_none, errW_some] <;> rfl), by repeat (first | (with_reducible first | exact HB.out | apply below_alloc | apply pw_below_drewN | apply below_drew1) | exact HB.out)⟩

/-- THE ONE PURE STATEMENT of laws_FnExactReadNumber: yours. -/
def laws_FnExactReadNumber.Pure : Prop := ∀ (a0 : ByteArray), a0.size ≤ 140737488351232 → ∃ k, laws_FnExactReadNumber.f k a0 = some true
theorem laws_FnExactReadNumber.walk (P : laws_FnExactReadNumber.Pure) (a0 : ByteArray) (w : World) (w0 : a0.size ≤ 140737488351232) :
  Calls Tryd.prog 5 #[.string a0] w fun e w' => e = .returned (.bool true) ∧ Below w.heap.size w w' := by
 obtain ⟨k, h⟩ := P a0 w0
 refine (laws_FnExactReadNumber.calls k a0 true w h).mono ?_
 rintro e w' ⟨rfl, hd⟩
 exact ⟨rfl, hd⟩

-- LIB numtext
def DigL : List UInt8 := [48, 49, 50, 51, 52, 53, 54, 55, 56, 57]
theorem dig_has (c : UInt8) : DigL.contains c = decide (48 ≤ c.toNat ∧ c.toNat ≤ 57) := by
  by_cases h : 48 ≤ c.toNat ∧ c.toNat ≤ 57
  · rw [decide_eq_true h]
    have : c.toNat = 48 ∨ c.toNat = 49 ∨ c.toNat = 50 ∨ c.toNat = 51 ∨ c.toNat = 52 ∨ c.toNat = 53 ∨ c.toNat = 54 ∨ c.toNat = 55 ∨ c.toNat = 56 ∨ c.toNat = 57 := by omega
    have e : ∀ n : UInt8, c.toNat = n.toNat → c = n := fun n h => UInt8.toNat_inj.1 h
    rcases this with h | h | h | h | h | h | h | h | h | h
    · rw [e 48 h]; decide
    · rw [e 49 h]; decide
    · rw [e 50 h]; decide
    · rw [e 51 h]; decide
    · rw [e 52 h]; decide
    · rw [e 53 h]; decide
    · rw [e 54 h]; decide
    · rw [e 55 h]; decide
    · rw [e 56 h]; decide
    · rw [e 57 h]; decide
  · rw [decide_eq_false h]
    refine Bool.eq_false_iff.2 (fun hc => h ?_)
    have hm : c ∈ DigL := by simpa using hc
    simp only [DigL, List.mem_cons, List.mem_nil_iff, or_false] at hm
    rcases hm with rfl | rfl | rfl | rfl | rfl | rfl | rfl | rfl | rfl | rfl <;> decide
theorem dropW_mem {p : UInt8 → Bool} {c : UInt8} (hc : p c = false) (l : List UInt8) (h : c ∈ l) : c ∈ l.dropWhile p := by
  induction l with
  | nil => cases h
  | cons x l ih =>
    rw [List.dropWhile_cons]
    split
    · rename_i hp
      rcases List.mem_cons.1 h with rfl | h
      · rw [hp] at hc; cases hc
      · exact ih h
    · exact h
theorem dropW_nil {p : UInt8 → Bool} (l : List UInt8) (h : ∀ c ∈ l, p c = true) : l.dropWhile p = [] := by
  induction l with
  | nil => rfl
  | cons x l ih => rw [List.dropWhile_cons, if_pos (h x List.mem_cons_self)]; exact ih (fun c hc => h c (List.mem_cons_of_mem _ hc))
theorem trim_nil (l : List UInt8) : Lib.trimS l DigL = [] ↔ ∀ c ∈ l, DigL.contains c = true := by
  unfold Lib.trimS Lib.trimLeftS Lib.trimRightS
  constructor
  · intro h c hc
    cases hp : DigL.contains c with
    | true => rfl
    | false =>
      have h1 := dropW_mem (p := fun x => DigL.contains x) hp l.reverse (List.mem_reverse.2 hc)
      have h2 := dropW_mem (p := fun x => DigL.contains x) hp _ (List.mem_reverse.2 h1)
      rw [h] at h2
      cases h2
  · intro h
    rw [dropW_nil l.reverse (fun c hc => h c (List.mem_reverse.1 hc))]
    rfl
theorem dec_all (l : List UInt8) : ∀ a, (∀ c ∈ l, DigL.contains c = true) → ∃ v, Lib.decFrom a l = some v := by
  induction l with
  | nil => exact fun a _ => ⟨a, rfl⟩
  | cons c l ih =>
    intro a h
    have hc := h c List.mem_cons_self
    rw [dig_has, decide_eq_true_eq] at hc
    obtain ⟨v, hv⟩ := ih (a * 10 + (c.toNat - 48)) (fun x hx => h x (List.mem_cons_of_mem _ hx))
    refine ⟨v, ?_⟩
    rw [Lib.decFrom, Lib.digitVal, if_pos hc]
    exact hv
theorem dec_none (l : List UInt8) : ∀ a, ¬ (∀ c ∈ l, DigL.contains c = true) → Lib.decFrom a l = none := by
  induction l with
  | nil => exact fun a h => absurd (fun c hc => by cases hc) h
  | cons c l ih =>
    intro a h
    rw [Lib.decFrom, Lib.digitVal]
    by_cases hc : 48 ≤ c.toNat ∧ c.toNat ≤ 57
    · rw [if_pos hc]
      refine ih _ (fun hl => h (fun x hx => ?_))
      rcases List.mem_cons.1 hx with rfl | hx
      · rw [dig_has, decide_eq_true_eq]; exact hc
      · exact hl x hx
    · rw [if_neg hc]
def orM (o : Option Nat) : Int := match o with | some v => (v : Int) | none => -1
theorem snum_l0 (s : ByteArray) (hs : s.size ≤ 4) (d : Nat) : ∀ (k i a : Nat), i + d = s.size → a < 10 ^ i → d < k → spec_ReadNumber.l0 k s (a : Int) (i : Int) = some (orM (Lib.decFrom a (s.data.toList.drop i))) := by
  induction d with
  | zero =>
    intro k i a h1 _ hk
    obtain ⟨k, rfl⟩ : ∃ m, k = m + 1 := ⟨k - 1, by omega⟩
    simp only [spec_ReadNumber.l0]
    rw [if_neg (by omega), List.drop_of_length_le (by rw [← Lib.size_eq]; omega)]
    rfl
  | succ d ih =>
    intro k i a h1 h2 hk
    obtain ⟨k, rfl⟩ : ∃ m, k = m + 1 := ⟨k - 1, by omega⟩
    have hi : i < s.size := by omega
    have hi' : i < s.data.toList.length := by rw [← Lib.size_eq]; exact hi
    have hb := bt_get s i _ (List.getElem?_eq_getElem hi')
    have hp : 10 ^ (i + 1) = 10 ^ i * 10 := by rw [Nat.pow_succ]
    have h4 : 10 ^ i ≤ 10 ^ 4 := Nat.pow_le_pow_right (by omega) (by omega)
    rw [List.drop_eq_getElem_cons hi']
    generalize s.data.toList[i] = c at hb
    have hc := c.toNat_lt
    simp only [spec_ReadNumber.l0]
    rw [if_pos (by omega), if_pos (by omega), hb, wrap_succ hi (by omega), Lib.decFrom, Lib.digitVal]
    by_cases q1 : (c.toNat : Int) < 48
    · rw [if_pos q1, if_neg (by omega)]; rfl
    · rw [if_neg q1]
      by_cases q2 : (c.toNat : Int) > 57
      · rw [if_pos q2, if_neg (by omega)]; rfl
      · have e : wrap64 (wrap64 ((a : Int) * 10) + ((c.toNat : Int) - 48) % 256) = ((a * 10 + (c.toNat - 48) : Nat) : Int) := by
          rw [wrap_eq (x := (a : Int) * 10) (by omega) (by omega), wrap_eq (by omega) (by omega)]
          omega
        rw [if_neg q2, if_pos (by omega), e]
        exact ih k (i + 1) (a * 10 + (c.toNat - 48)) (by omega) (by omega) (by omega)
/-- The number of a word. -/
def numX (s : ByteArray) : Int := if (1 ≤ s.size ∧ s.size ≤ 4) ∧ ¬ (bt s 0 = 48 ∧ 1 < s.size) then orM (Lib.decFrom 0 s.data.toList) else -1
theorem snum_eq (s : ByteArray) (hs : s.size ≤ 1048576) (k : Nat) (hk : 10 < k) : spec_ReadNumber.f k s = some (numX s) := by
  obtain ⟨k, rfl⟩ : ∃ m, k = m + 1 := ⟨k - 1, by omega⟩
  have hin : spec_l1In.f (s.size : Int) 1 4 = some (decide (1 ≤ s.size ∧ s.size ≤ 4)) := by
    unfold spec_l1In.f
    by_cases c : (s.size : Int) ≥ 1
    · rw [if_pos c]; congr 1; rw [decide_eq_decide]; omega
    · rw [if_neg c, decide_eq_false (by omega)]
  have hl : s.size ≤ 4 → spec_ReadNumber.l0 k s 0 0 = some (orM (Lib.decFrom 0 s.data.toList)) := fun h4 => snum_l0 s h4 s.size k 0 0 (by omega) (by decide) (by omega)
  unfold spec_ReadNumber.f numX
  rw [hin, Option.bind_some]
  by_cases c1 : 1 ≤ s.size ∧ s.size ≤ 4
  · rw [decide_eq_true c1, if_pos rfl, if_pos (by omega)]
    by_cases c2 : bt s 0 = 48
    · rw [if_pos c2]
      simp only [spec_ReadNumber.j0]
      by_cases c3 : (s.size : Int) > 1
      · rw [decide_eq_true c3, if_pos rfl, if_neg (fun h => h.2 ⟨c2, by omega⟩)]
      · rw [decide_eq_false c3, if_neg (by decide), if_pos ⟨c1, fun h => by omega⟩, hl c1.2]
    · rw [if_neg c2]
      simp only [spec_ReadNumber.j0]
      rw [if_neg (by decide), if_pos ⟨c1, fun h => c2 h.1⟩, hl c1.2]
  · rw [decide_eq_false c1, if_neg (by decide)]
    simp only [spec_ReadNumber.j0]
    rw [if_pos trivial, if_neg (fun h => c1 h.1)]
theorem inum_eq (s : ByteArray) (hs : s.size ≤ 1048576) : impl_ReadNumber.f s = some (numX s) := by
  have hin : impl_within.f (s.size : Int) 1 4 = some (decide (1 ≤ s.size ∧ s.size ≤ 4)) := by
    unfold impl_within.f
    by_cases c : (1 : Int) ≤ (s.size : Int)
    · rw [if_pos c]; congr 1; rw [decide_eq_decide]; omega
    · rw [if_neg c, decide_eq_false (by omega)]
  have ht : strings_Trim.f s ⟨#[48, 49, 50, 51, 52, 53, 54, 55, 56, 57]⟩ = some ⟨(Lib.trimS s.data.toList DigL).toArray⟩ := by
    unfold strings_Trim.f
    rw [if_pos ⟨rfl, hs⟩]; rfl
  have hrest : 1 ≤ s.size → s.size ≤ 4 → ((strings_Trim.f s ⟨#[48, 49, 50, 51, 52, 53, 54, 55, 56, 57]⟩).bind fun t => (if t.toList = ([] : List UInt8) then ((strconv_Atoi_24.f s).bind fun b => (some b.1)) else (some (-1)))) = some (orM (Lib.decFrom 0 s.data.toList)) := by
    intro h1 h4
    rw [ht, Option.bind_some]
    have e : (⟨(Lib.trimS s.data.toList DigL).toArray⟩ : ByteArray).toList = Lib.trimS s.data.toList DigL := by rw [Lib.toList_data]
    rw [e]
    by_cases c : Lib.trimS s.data.toList DigL = []
    · rw [if_pos c]
      have hall := (trim_nil _).1 c
      obtain ⟨v, hv⟩ := dec_all s.data.toList 0 hall
      have hat : Lib.atoi s.data.toList = some (v : Int) := by
        cases hl : s.data.toList with
        | nil => have := Lib.size_eq s; rw [hl, List.length_nil] at this; omega
        | cons b r =>
          rw [hl] at hall hv
          have hb := hall b List.mem_cons_self
          rw [dig_has, decide_eq_true_eq] at hb
          have n1 : ¬ (b == 45) = true := fun h => by have := beq_iff_eq.1 h; subst this; have : (45 : UInt8).toNat = 45 := rfl; omega
          have n2 : ¬ (b == 43) = true := fun h => by have := beq_iff_eq.1 h; subst this; have : (43 : UInt8).toNat = 43 := rfl; omega
          rw [Lib.atoi, if_neg n1, if_neg n2, Lib.decNat]
          simp only [List.isEmpty_cons, Bool.false_eq_true, if_false]
          rw [hv]; rfl
      unfold strconv_Atoi_24.f
      rw [if_pos (by omega), hat, Option.bind_some, Option.bind_some, hv]
      rfl
    · rw [if_neg c, dec_none _ 0 (fun h => c ((trim_nil _).2 h))]
      rfl
  unfold impl_ReadNumber.f numX
  rw [hin, Option.bind_some]
  by_cases c1 : 1 ≤ s.size ∧ s.size ≤ 4
  · rw [decide_eq_true c1, if_pos rfl]
    by_cases c3 : (s.size : Int) > 1
    · rw [if_pos c3, if_pos (by omega)]
      by_cases c2 : bt s 0 = 48
      · rw [if_pos c2, if_neg (fun h => h.2 ⟨c2, by omega⟩)]
      · rw [if_neg c2, if_pos ⟨c1, fun h => c2 h.1⟩]
        exact hrest c1.1 c1.2
    · rw [if_neg c3, if_pos ⟨c1, fun h => by omega⟩]
      exact hrest c1.1 c1.2
  · rw [decide_eq_false c1, if_neg (by decide), if_neg (fun h => c1 h.1)]

end Go.Proofs.YthflgfaaldknhaaDoor.PAll
