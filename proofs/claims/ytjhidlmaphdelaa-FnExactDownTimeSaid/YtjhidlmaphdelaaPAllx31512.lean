-- Written by xprint.py, a program of this session, on the ground of the kit's print; hand-made parts: wip/x/ext.
import Derived.Test.YtjhidlmaphdelaaPAllx0
import Derived.Test.YtjhidlmaphdelaaPAllx72507
import Derived.Test.YtjhidlmaphdelaaPAllx89690
namespace Go.Proofs.Ytjhidlmaphdelaa.PAll
open Go.RowKit Go.Proofs.YtjhidlmaphdelaaW.PrintWords Go.Proofs.YtjhidlmaphdelaaW.PrintLast Go.Proofs.YtjhidlmaphdelaaW.PrintMore
attribute [local go_sem] max2_int min2_int max_two min_two max_three min_three max_four min_four   -- for this text's walks alone
set_option linter.unusedVariables false
set_option linter.unusedSimpArgs false

-- LIB allint
set_option maxHeartbeats 4000000 in
set_option maxRecDepth 100000 in
theorem x_all_int_1 {p : Int → Bool} {g : Nat} {lb : Array Value} (eg : ∀ args w, (callFunc g args).run Try.prog w = .ok (.enter g args) w) {b : Nat} {w : World}
    (hp : PredB Try.prog g lb (Value.int .i64) p w) (hb : b < w.heap.size) (hc : w.cell? ⟨b, 0, none⟩ = some (.func (.func g) #[] lb)) :
    PredB Try.prog 63 #[.pointer (some ⟨b, 0, none⟩)] (Value.int .i64) (fun x => !p x) w := by
  intro W x hB
  have hc' := (hB.cell (p := ⟨b, 0, none⟩) hb).trans hc
  have hcall := hp W x hB
  clear hp hc hB hb
  go_enter Try.func63, Try.ntmps63
  go_wp2_with (go_at_fn g; refine hcall.mono ?_; rintro e w' ⟨rfl, hb'⟩)
  go_ret
  exact ⟨rfl, hb'⟩
theorem any_not_all {α : Type} (p : α → Bool) (l : List α) : (!l.any fun x => !p x) = l.all p := by
  induction l with
  | nil => rfl
  | cons x xs ih => simp only [List.any_cons, List.all_cons, Bool.not_or, Bool.not_not, ih]
set_option maxHeartbeats 4000000 in
set_option maxRecDepth 100000 in
theorem x_all_int (p : Int → Bool) (g : Nat) (lb : Array Value) (eg : ∀ args w, (callFunc g args).run Try.prog w = .ok (.enter g args) w) (A0 : Option Addr) (c0 : Nat) (l0 : List Int) (w : World)
    (hp : PredB Try.prog g lb (Value.int .i64) p w) (hr0 : Kd.C (Kd.int .i64) w A0 l0.length l0) :
    Calls Try.prog 48 #[.slice A0 l0.length c0, .func (.func g) #[] lb] w fun e w' => e = .returned (.bool (l0.all p)) ∧ Below w.heap.size w w' := by
  have hmf : ∀ (fn : Fn) (first cap : Array Value) (w : World), (Instr.makeFunc fn first cap).run Try.prog w = .ok (.func fn first cap) w := fun _ _ _ _ => rfl
  have hb0 : Below w.heap.size w (w.alloc (.cells #[.func (.func g) #[] lb] 53)) := (Below.refl _ w).alloc (Nat.le_refl _) _
  have hcall := x_ContainsFunc_int (fun x => !p x) 63 #[.pointer (some ⟨w.heap.size, 0, none⟩)] (enters_of Try.func63 (by kernel_rfl) rfl) A0 c0 l0 _ (x_all_int_1 eg (hp.later hb0) (by simp) (by simp)) (Kd.C_below hr0 hb0)
  have HB0 := Aside0.mk hb0
  clear hp hr0 hb0
  go_enter Try.func48, Try.ntmps48
  go_wp2_with (go_at_call 61; refine hcall.mono ?_; rintro e w' ⟨rfl, hb'⟩)
  go_ret
  exact ⟨by rw [any_not_all]; rfl, below_step HB0.out hb'⟩

end Go.Proofs.Ytjhidlmaphdelaa.PAll
