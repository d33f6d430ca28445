-- Written by xprint.py, a program of this session, on the ground of the kit's print; hand-made parts: wip/x/ext.
import Derived.Test.YtjhidlmaphdelaaPAllx0
import Derived.Test.YtjhidlmaphdelaaPAllx1049
import Derived.Test.YtjhidlmaphdelaaPAllx1050
import Derived.Test.YtjhidlmaphdelaaPAllx1055
import Derived.Test.YtjhidlmaphdelaaPAllx31512
import Derived.Test.YtjhidlmaphdelaaPAllx72507
namespace Go.Proofs.Ytjhidlmaphdelaa.PAll
open Go.RowKit Go.Proofs.YtjhidlmaphdelaaW.PrintWords Go.Proofs.YtjhidlmaphdelaaW.PrintLast Go.Proofs.YtjhidlmaphdelaaW.PrintMore
attribute [local go_sem] max2_int min2_int max_two min_two max_three min_three max_four min_four   -- for this text's walks alone
set_option linter.unusedVariables false
set_option linter.unusedSimpArgs false

/-! ### impl_HellosValid: function 22 (by hand) -/
def ascB : List Int → Bool
  | x :: y :: t => decide (x < y) && ascB (y :: t)
  | _ => true
def clockB (x : Int) : Bool := decide (0 ≤ x) && decide (x ≤ 2000)
def hvB (l : List Int) : Bool := decide (l.length ≤ 60) && (l.all clockB && ascB l)
theorem isClock_eq (x : Int) : impl_isClock.f x = some (clockB x) := by
  unfold impl_isClock.f impl_within.f clockB
  by_cases h : 0 ≤ x <;> simp [h]
theorem x_isClock (w : World) : PredB Try.prog 49 #[] (Value.int .i64) clockB w := by
  intro W x hB
  exact (impl_isClock.calls x _ W (isClock_eq x)).mono fun e w' ⟨he, hd⟩ => ⟨he, hd.below⟩
theorem ascends_at (l : List Int) (hl : l.length ≤ 9223372036854775807) (d : Nat) : ∀ (k i : Nat), 1 ≤ i → i + d = l.length → d < k → impl_ascends.l0 k l (i : Int) = some (ascB (l.drop (i - 1))) := by
  induction d with
  | zero =>
    intro k i h1 h2 hk
    obtain ⟨k, rfl⟩ : ∃ m, k = m + 1 := ⟨k - 1, by omega⟩
    simp only [impl_ascends.l0]
    rw [if_neg (by omega), List.drop_eq_getElem_cons (by omega), show i - 1 + 1 = l.length by omega, List.drop_length]
    rfl
  | succ d ih =>
    intro k i h1 h2 hk
    obtain ⟨k, rfl⟩ : ∃ m, k = m + 1 := ⟨k - 1, by omega⟩
    have e1 : wrap64 ((i : Int) - 1) = ((i - 1 : Nat) : Int) := by unfold wrap64; omega
    have e2 : wrap64 ((i : Int) + 1) = ((i + 1 : Nat) : Int) := by unfold wrap64; omega
    have ih' := ih k (i + 1) (by omega) (by omega) (by omega)
    simp only [impl_ascends.l0]
    rw [e1, e2, if_pos (by omega), if_pos (by omega), if_pos (by omega), if_pos (by omega), ih']
    rw [List.drop_eq_getElem_cons (show i - 1 < l.length by omega), show i - 1 + 1 = i by omega, List.drop_eq_getElem_cons (show i < l.length by omega), ascB]
    have r1 : rd l (i : Int) = l[i] := by simp [rd, List.getD_eq_getElem?_getD, show i < l.length by omega]
    have r2 : rd l ((i - 1 : Nat) : Int) = l[i - 1] := by simp [rd, List.getD_eq_getElem?_getD, show i - 1 < l.length by omega]
    rw [r1, r2, show i + 1 - 1 = i by omega, List.drop_eq_getElem_cons (show i < l.length by omega)]
    by_cases c : l[i] ≤ l[i - 1]
    · rw [if_pos c]; simp; omega
    · rw [if_neg c]; simp; omega
theorem ascends_eq (l : List Int) (hl : l.length ≤ 9223372036854775807) : impl_ascends.f (l.length + 1) l = some (ascB l) := by
  unfold impl_ascends.f
  by_cases h : 1 ≤ l.length
  · exact ascends_at l hl (l.length - 1) (l.length + 1) 1 (by omega) (by omega) (by omega)
  · have : l = [] := List.eq_nil_of_length_eq_zero (by omega)
    subst this
    rfl
def impl_HellosValid.f (l0 : List Int) : Option (Bool) :=
  some (hvB l0)
set_option maxHeartbeats 4000000 in
set_option maxRecDepth 100000 in
theorem impl_HellosValid.calls (A0 : Option Addr) (c0 : Nat) (l0 : List Int) (r : Bool) (w : World) (hr0 : Kd.C (Kd.int .i64) w A0 l0.length l0) (hc0 : l0.length ≤ c0) (h : impl_HellosValid.f l0 = some r) :
    Calls Try.prog 22 #[.slice A0 l0.length c0] w fun e w' => e = .returned (.bool r) ∧ Below w.heap.size w w' := by
  obtain rfl := Option.some.inj h
  have hlen := Kd.C_max hr0
  have hall := x_all_int clockB 49 #[] (enters_of Try.func49 (by kernel_rfl) rfl) A0 c0 l0 w (x_isClock w) hr0
  have hasc := fun W (hW : Below w.heap.size w W) => impl_ascends.calls (l0.length + 1) A0 c0 l0 (ascB l0) W (Kd.C_below hr0 hW) hc0 (ascends_eq l0 hlen)
  have HV : hvB l0 = (decide (l0.length ≤ 60) && (l0.all clockB && ascB l0)) := rfl
  replace HV := Aside0.mk HV
  generalize hvB l0 = z at HV ⊢
  clear h hr0 hc0
  generalize ascB l0 = s at HV hasc
  generalize l0.all clockB = t at HV hall
  by_cases c1 : (l0.length : Int) ≤ 60
  · have HC1 : Aside0 (decide (l0.length ≤ 60) = true) := ⟨by simp; omega⟩
    cases t with
    | true =>
      go_enter Try.func22, Try.ntmps22
      go_wp2_with (go_at_call 48; refine hall.mono ?_; rintro e w1 ⟨rfl, hb1⟩)
      refine (hasc _ hb1).mono ?_
      rintro e w2 ⟨rfl, hd⟩
      go_wp2
      go_ret
      exact ⟨by rw [HV.out, HC1.out]; simp, below_step hb1 hd.below⟩
    | false =>
      go_enter Try.func22, Try.ntmps22
      go_wp2_with (go_at_call 48; refine hall.mono ?_; rintro e w1 ⟨rfl, hb1⟩)
      go_ret
      exact ⟨by rw [HV.out, HC1.out]; simp, hb1⟩
  · have HC1 : Aside0 (decide (l0.length ≤ 60) = false) := ⟨by simp; omega⟩
    go_enter Try.func22, Try.ntmps22
    go_wp2_with fail
    go_ret
    exact ⟨by rw [HV.out, HC1.out]; simp, Below.refl _ _⟩

end Go.Proofs.Ytjhidlmaphdelaa.PAll
