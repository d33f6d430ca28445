-- Written by xprint.py, a program of this session, on the ground of the kit's print; hand-made parts: wip/x/ext.
import Derived.Test.YtjhidlmaphdelaaPAllx0
import Derived.Test.YtjhidlmaphdelaaPAllx72507
import Derived.Test.YtjhidlmaphdelaaPAllx89690
namespace Go.Proofs.Ytjhidlmaphdelaa.PAll
open Go.RowKit Go.Proofs.YtjhidlmaphdelaaW.PrintWords Go.Proofs.YtjhidlmaphdelaaW.PrintLast Go.Proofs.YtjhidlmaphdelaaW.PrintMore
attribute [local go_sem] max2_int min2_int max_two min_two max_three min_three max_four min_four   -- for this text's walks alone
set_option linter.unusedVariables false
set_option linter.unusedSimpArgs false

/-! ### impl_heard: function 45 (by hand) -/
def heardB (l : List Int) (dead t : Int) : Bool := l.any fun a => decide (a ≤ t) && decide (t < wrap64 (a + dead))
set_option maxHeartbeats 4000000 in
set_option maxRecDepth 100000 in
theorem x_heard_1 {t dead : Int} {bt bd : Nat} {w : World} (hbt : bt < w.heap.size) (hbd : bd < w.heap.size) (hct : w.cell? ⟨bt, 0, none⟩ = some (.int .i64 t)) (hcd : w.cell? ⟨bd, 0, none⟩ = some (.int .i64 dead)) :
    PredB Try.prog 62 #[.pointer (some ⟨bt, 0, none⟩), .pointer (some ⟨bd, 0, none⟩)] (Value.int .i64) (fun a => decide (a ≤ t) && decide (t < wrap64 (a + dead))) w := by
  intro W a hB
  have hct' := (hB.cell (p := ⟨bt, 0, none⟩) hbt).trans hct
  have hcd' := (hB.cell (p := ⟨bd, 0, none⟩) hbd).trans hcd
  clear hct hcd hbt hbd hB
  by_cases h1 : a ≤ t
  · have h1b : decide (a ≤ t) = true := decide_eq_true h1
    go_enter Try.func62, Try.ntmps62
    go_wp2
    repeat (go_quiet (fail); try go_wp2)
    go_ret
    exact ⟨by simp [h1], (show Drawn0 W _ by repeat (first | exact Drawn0.refl _ | apply Drawn0.step)).below⟩
  · have h1b : decide (a ≤ t) = false := decide_eq_false h1
    go_enter Try.func62, Try.ntmps62
    go_wp2
    repeat (go_quiet (fail); try go_wp2)
    go_ret
    exact ⟨by simp [h1], (show Drawn0 W _ by repeat (first | exact Drawn0.refl _ | apply Drawn0.step)).below⟩
def impl_heard.f (l0 : List Int) (a1 : Int) (a2 : Int) : Option (Bool) :=
  some (heardB l0 a1 a2)
set_option maxHeartbeats 4000000 in
set_option maxRecDepth 100000 in
theorem impl_heard.calls (A0 : Option Addr) (c0 : Nat) (l0 : List Int) (a1 : Int) (a2 : Int) (r : Bool) (w : World) (hr0 : Kd.C (Kd.int .i64) w A0 l0.length l0) (hc0 : l0.length ≤ c0) (h : impl_heard.f l0 a1 a2 = some r) :
    Calls Try.prog 45 #[.slice A0 l0.length c0, .int .i64 a1, .int .i64 a2] w fun e w' => e = .returned (.bool r) ∧ Below w.heap.size w w' := by
  obtain rfl := Option.some.inj h
  have hmf : ∀ (fn : Fn) (first cap : Array Value) (w : World), (Instr.makeFunc fn first cap).run Try.prog w = .ok (.func fn first cap) w := fun _ _ _ _ => rfl
  have hb0 : Below w.heap.size w ((w.alloc (.cells #[.int .i64 a1] 3)).alloc (.cells #[.int .i64 a2] 3)) := ((Below.refl _ w).alloc (Nat.le_refl _) _).alloc (by simp) _
  have hcall := x_ContainsFunc_int (fun a => decide (a ≤ a2) && decide (a2 < wrap64 (a + a1))) 62 _ (enters_of Try.func62 (by kernel_rfl) rfl) A0 c0 l0 _ (x_heard_1 (bt := w.heap.size + 1) (bd := w.heap.size) (w := (w.alloc (.cells #[.int .i64 a1] 3)).alloc (.cells #[.int .i64 a2] 3)) (by simp) (by simp; omega) (by simp) (by simp)) (Kd.C_below hr0 hb0)
  have HB0 := Aside0.mk hb0
  clear h hr0 hc0 hb0
  have HV : heardB l0 a1 a2 = l0.any fun a => decide (a ≤ a2) && decide (a2 < wrap64 (a + a1)) := rfl
  rw [← HV] at hcall
  clear HV
  go_enter Try.func45, Try.ntmps45
  go_wp2_with (go_at_call 61; refine hcall.mono ?_; rintro e w' ⟨rfl, hb'⟩)
  go_ret
  exact ⟨rfl, below_step HB0.out hb'⟩

end Go.Proofs.Ytjhidlmaphdelaa.PAll
